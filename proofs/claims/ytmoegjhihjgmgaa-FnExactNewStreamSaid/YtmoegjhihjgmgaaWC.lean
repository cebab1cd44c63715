/- Walks: receivers, finding. -/
import Derived.Test.YtmoegjhihjgmgaaWA
namespace Go.Proofs.Ytmoegjhihjgmgaa
open SL Go.RowKit
theorem spec_IsSendOver {w : World} {cs : List Value} {x : Stream} (hv : RdStream w cs x)  : CV Try.prog 16 [.agg cs.toArray] w (.bool (isSendOver x)) := by
  obtain ⟨v0, v1, v2, v3, v4, rfl, k0, k1, k2, k3, k4⟩ := hv
  obtain ⟨A0, c0, rfl, hA0⟩ := k0
  obtain ⟨A1, c1, rfl, hA1⟩ := k1
  obtain ⟨A2, c2, rfl, hA2⟩ := k2
  obtain ⟨A3, c3, rfl, hA3⟩ := k3
  obtain ⟨A4, c4, rfl, hA4⟩ := k4
  refine cv_of Try.func16 rfl rfl rfl <| SQ <| RG <| BX [_, _, _, _, _, _, _, _, _, _, _, _, _, _, _, _, _, _, _, _, _, _, _, _, _, _, _, _, _, _, _, _, _, _, _, _, _, _, _] rfl rfl rfl <| fun b1 => AS rfl rfl <| ND <| SQ <| RG <| FA rfl tyF_impl_Stream_6 rfl <| LD (i := 0) rfl tyP_bool rfl rfl rfl <| NT rfl rfl <| MV rfl rfl <| ?_
  refine rw_case (j := 6) rfl (fun h1 => ?_) (fun h1 => ?_)
  · replace h1 := of_not_T h1
    refine OF rfl rfl (not_F h1) rfl <| OF rfl rfl (not_F h1) rfl <| OF rfl rfl (not_F h1) rfl <| OF rfl rfl (not_F h1) rfl <| PT rfl rfl (not_F h1) rfl <| MV rfl rfl <| OF rfl rfl rfl rfl <| OF rfl rfl rfl rfl <| OF rfl rfl rfl rfl <| OF rfl rfl rfl rfl <| PT rfl rfl rfl rfl <| AS rfl rfl <| ND <| ret_cv Try.func16 (res1 Try.func16 rfl (rv_tmp rfl)) <| ?_
    simp [isSendOver, h1]
  · replace h1 := of_not_F h1
    refine ON rfl rfl (not_T h1) <| FA rfl tyF_impl_Stream_1 rfl <| ON rfl rfl (not_T h1) <| FA rfl tyF_impl_Sender_0 rfl <| ON rfl rfl (not_T h1) <| LD (i := 0) rfl tyP_int rfl rfl rfl <| ON rfl rfl (not_T h1) <| EQ1 rfl rfl rfl <| PF rfl rfl (not_T h1) rfl <| MV rfl rfl <| ?_
    refine rw_case (j := 12) rfl (fun h2 => ?_) (fun h2 => ?_)
    · refine OF rfl rfl h2 rfl <| OF rfl rfl h2 rfl <| OF rfl rfl h2 rfl <| OF rfl rfl h2 rfl <| PT rfl rfl h2 rfl <| AS rfl rfl <| ND <| ret_cv Try.func16 (res1 Try.func16 rfl (rv_tmp rfl)) <| ?_
      simp [isSendOver, h1, h2]
    · refine ON rfl rfl h2 <| FA rfl tyF_impl_Stream_1 rfl <| ON rfl rfl h2 <| FA rfl tyF_impl_Sender_0 rfl <| ON rfl rfl h2 <| LD (i := 0) rfl tyP_int rfl rfl rfl <| ON rfl rfl h2 <| EQ1 rfl rfl rfl <| PF rfl rfl h2 rfl <| AS rfl rfl <| ND <| ret_cv Try.func16 (res1 Try.func16 rfl (rv_tmp rfl)) <| ?_
      simp [isSendOver, h1, h2]

theorem impl_IsSendOver {w : World} {cs : List Value} {x : Stream} (hv : RdStream w cs x)  : CV Try.prog 18 [.agg cs.toArray] w (.bool (isSendOver x)) := by
  obtain ⟨v0, v1, v2, v3, v4, rfl, k0, k1, k2, k3, k4⟩ := hv
  obtain ⟨A0, c0, rfl, hA0⟩ := k0
  obtain ⟨A1, c1, rfl, hA1⟩ := k1
  obtain ⟨A2, c2, rfl, hA2⟩ := k2
  obtain ⟨A3, c3, rfl, hA3⟩ := k3
  obtain ⟨A4, c4, rfl, hA4⟩ := k4
  refine cv_of Try.func18 rfl rfl rfl <| SQ <| RG <| BX [_, _, _, _, _, _, _, _, _, _, _, _, _, _, _, _, _, _, _, _, _, _, _, _, _, _, _, _, _, _, _, _, _, _, _, _, _, _, _] rfl rfl rfl <| fun b1 => AS rfl rfl <| ND <| SQ <| RG <| FA rfl tyF_impl_Stream_6 rfl <| LD (i := 0) rfl tyP_bool rfl rfl rfl <| NT rfl rfl <| MV rfl rfl <| ?_
  refine rw_case (j := 6) rfl (fun h1 => ?_) (fun h1 => ?_)
  · replace h1 := of_not_T h1
    refine OF rfl rfl (not_F h1) rfl <| OF rfl rfl (not_F h1) rfl <| OF rfl rfl (not_F h1) rfl <| OF rfl rfl (not_F h1) rfl <| PT rfl rfl (not_F h1) rfl <| MV rfl rfl <| OF rfl rfl rfl rfl <| OF rfl rfl rfl rfl <| OF rfl rfl rfl rfl <| OF rfl rfl rfl rfl <| PT rfl rfl rfl rfl <| AS rfl rfl <| ND <| ret_cv Try.func18 (res1 Try.func18 rfl (rv_tmp rfl)) <| ?_
    simp [isSendOver, h1]
  · replace h1 := of_not_F h1
    refine ON rfl rfl (not_T h1) <| FA rfl tyF_impl_Stream_1 rfl <| ON rfl rfl (not_T h1) <| FA rfl tyF_impl_Sender_0 rfl <| ON rfl rfl (not_T h1) <| LD (i := 0) rfl tyP_int rfl rfl rfl <| ON rfl rfl (not_T h1) <| EQ1 rfl rfl rfl <| PF rfl rfl (not_T h1) rfl <| MV rfl rfl <| ?_
    refine rw_case (j := 12) rfl (fun h2 => ?_) (fun h2 => ?_)
    · refine OF rfl rfl h2 rfl <| OF rfl rfl h2 rfl <| OF rfl rfl h2 rfl <| OF rfl rfl h2 rfl <| PT rfl rfl h2 rfl <| AS rfl rfl <| ND <| ret_cv Try.func18 (res1 Try.func18 rfl (rv_tmp rfl)) <| ?_
      simp [isSendOver, h1, h2]
    · refine ON rfl rfl h2 <| FA rfl tyF_impl_Stream_1 rfl <| ON rfl rfl h2 <| FA rfl tyF_impl_Sender_0 rfl <| ON rfl rfl h2 <| LD (i := 0) rfl tyP_int rfl rfl rfl <| ON rfl rfl h2 <| EQ1 rfl rfl rfl <| PF rfl rfl h2 rfl <| AS rfl rfl <| ND <| ret_cv Try.func18 (res1 Try.func18 rfl (rv_tmp rfl)) <| ?_
      simp [isSendOver, h1, h2]

theorem law_FnExactIsSendOver {w : World} {cs : List Value} {x : Stream} (hv : RdStream w cs x) (hb : x.le 9223372036854775807) : CV Try.prog 3 [.agg cs.toArray] w (.bool true) := by
  obtain ⟨v0, v1, v2, v3, v4, rfl, k0, k1, k2, k3, k4⟩ := hv
  obtain ⟨A0, c0, rfl, hA0⟩ := k0
  obtain ⟨A1, c1, rfl, hA1⟩ := k1
  obtain ⟨A2, c2, rfl, hA2⟩ := k2
  obtain ⟨A3, c3, rfl, hA3⟩ := k3
  obtain ⟨A4, c4, rfl, hA4⟩ := k4
  obtain ⟨hb0, hb1, hb2, hb3, hb4, hb5⟩ := hb
  refine cv_of Try.func3 rfl rfl rfl <| SQ <| RG <| BX [_, _, _, _, _, _, _, _, _, _, _, _, _, _, _, _, _, _, _, _, _, _, _, _, _, _, _, _, _, _, _, _, _, _, _, _, _, _, _] rfl rfl rfl <| fun b1 => AS rfl rfl <| ND <| SQ <| RG <| AS rfl rfl <| ND <| SQ <| RG <| LS (i := 0) [_, _, _, _, _, _, _, _, _, _, _, _, _, _, _, _, _, _, _, _, _, _, _, _, _, _, _, _, _, _, _, _, _, _, _, _, _, _, _] rfl tyS_laws_Stream rfl rfl rfl rfl <| MV rfl rfl <| CV1 rfl fun_laws_szStream rfl (fun w hs => laws_szStream ⟨_, _, _, _, _, rfl, (hA0.s Pl.keeps hs), (hA1.s Pl.keeps hs), (hA2.s Pl.keeps hs), (hA3.s Pl.keeps hs), (hA4.s Pl.keeps hs)⟩ _ ⟨by first | omega | assumption, by first | omega | assumption, by first | omega | assumption, by first | omega | assumption, by first | omega | assumption, by first | omega | assumption⟩ (by omega) (by omega)) <| ?_
  refine AS rfl rfl <| ND <| SQ <| SQ <| RG <| MV rfl rfl <| rw_lss rfl rfl rfl <| ND <| ?_
  refine gw_cond rfl (fun h1 => ?_) (fun h1 => ?_)
  · refine SQ <| RG <| AS rfl rfl <| ND <| ret_cv Try.func3 (res1 Try.func3 rfl (rv_tmp rfl)) <| ?_
    rfl
  · have hnn1 := nn_of h1
    obtain ⟨hle1, hz1_0, hz1_1, hz1_2, hz1_3, hz1_4, hz1_5⟩ := szStream_ok ⟨by first | omega | assumption, by first | omega | assumption, by first | omega | assumption, by first | omega | assumption, by first | omega | assumption, by first | omega | assumption⟩ (by omega) (by omega) hnn1
    refine SK <| SQ <| RG <| LS (i := 0) [_, _, _, _, _, _, _, _, _, _, _, _, _, _, _, _, _, _, _, _, _, _, _, _, _, _, _, _, _, _, _, _, _, _, _, _, _, _, _] rfl tyS_laws_Stream rfl rfl rfl rfl <| CN1 rfl fun_laws_toStream rfl (fun w hs => laws_toStream ⟨_, _, _, _, _, rfl, (hA0.s Pl.keeps hs), (hA1.s Pl.keeps hs), (hA2.s Pl.keeps hs), (hA3.s Pl.keeps hs), (hA4.s Pl.keeps hs)⟩ ⟨hz1_0, hz1_1, hz1_2, hz1_3, hz1_4, hz1_5⟩) <| fun vv2 ch2 how2 => ?_
    obtain ⟨cs2, rfl, v2_0, v2_1, v2_2, v2_3, v2_4, c2_0, c2_1, c2_2, c2_3, c2_4, rfl, h2_0, h2_1, h2_2, h2_3, h2_4, rfl⟩ := how2
    refine rw_F (F' := c2_0 ++ (c2_1 ++ (c2_2 ++ (c2_3 ++ (c2_4 ++ ([])))))) (by simp only [List.append_assoc]) <| ?_
    obtain ⟨R2_0, b2_0, rfl, hR2_0, hrd2_0⟩ := h2_0.shape eInt
    obtain ⟨R2_1, b2_1, rfl, hR2_1, hrd2_1⟩ := h2_1.shape eRange
    obtain ⟨R2_2, b2_2, rfl, hR2_2, hrd2_2⟩ := h2_2.shape eRange
    obtain ⟨R2_3, b2_3, rfl, hR2_3, hrd2_3⟩ := h2_3.shape eRange
    obtain ⟨R2_4, b2_4, rfl, hR2_4, hrd2_4⟩ := h2_4.shape eChunk
    refine CV1 rfl fun_spec_IsSendOver rfl (fun w hs => spec_IsSendOver ⟨_, _, _, _, _, rfl, ⟨_, _, rfl, hrd2_0 _ (fun c hc => hs.at_ c (List.mem_append_right _ (List.mem_append_left _ hc)))⟩, ⟨_, _, rfl, hrd2_1 _ (fun c hc => hs.at_ c (List.mem_append_right _ (List.mem_append_right _ (List.mem_append_left _ hc))))⟩, ⟨_, _, rfl, hrd2_2 _ (fun c hc => hs.at_ c (List.mem_append_right _ (List.mem_append_right _ (List.mem_append_right _ (List.mem_append_left _ hc)))))⟩, ⟨_, _, rfl, hrd2_3 _ (fun c hc => hs.at_ c (List.mem_append_right _ (List.mem_append_right _ (List.mem_append_right _ (List.mem_append_right _ (List.mem_append_left _ hc))))))⟩, ⟨_, _, rfl, hrd2_4 _ (fun c hc => hs.at_ c (List.mem_append_right _ (List.mem_append_right _ (List.mem_append_right _ (List.mem_append_right _ (List.mem_append_right _ (List.mem_append_left _ hc)))))))⟩⟩) <| ?_
    refine AS rfl rfl <| ND <| SQ <| RG <| LS (i := 0) [_, _, _, _, _, _, _, _, _, _, _, _, _, _, _, _, _, _, _, _, _, _, _, _, _, _, _, _, _, _, _, _, _, _, _, _, _, _, _] rfl tyS_laws_Stream rfl rfl rfl rfl <| CN1 rfl fun_laws_toStream rfl (fun w hs => laws_toStream ⟨_, _, _, _, _, rfl, (hA0.s Pl.keeps hs), (hA1.s Pl.keeps hs), (hA2.s Pl.keeps hs), (hA3.s Pl.keeps hs), (hA4.s Pl.keeps hs)⟩ ⟨hz1_0, hz1_1, hz1_2, hz1_3, hz1_4, hz1_5⟩) <| fun vv3 ch3 how3 => ?_
    obtain ⟨cs3, rfl, v3_0, v3_1, v3_2, v3_3, v3_4, c3_0, c3_1, c3_2, c3_3, c3_4, rfl, h3_0, h3_1, h3_2, h3_3, h3_4, rfl⟩ := how3
    refine rw_F (F' := c3_0 ++ (c3_1 ++ (c3_2 ++ (c3_3 ++ (c3_4 ++ (c2_0 ++ (c2_1 ++ (c2_2 ++ (c2_3 ++ (c2_4 ++ ([]))))))))))) (by simp only [List.append_assoc]) <| ?_
    obtain ⟨R3_0, b3_0, rfl, hR3_0, hrd3_0⟩ := h3_0.shape eInt
    obtain ⟨R3_1, b3_1, rfl, hR3_1, hrd3_1⟩ := h3_1.shape eRange
    obtain ⟨R3_2, b3_2, rfl, hR3_2, hrd3_2⟩ := h3_2.shape eRange
    obtain ⟨R3_3, b3_3, rfl, hR3_3, hrd3_3⟩ := h3_3.shape eRange
    obtain ⟨R3_4, b3_4, rfl, hR3_4, hrd3_4⟩ := h3_4.shape eChunk
    refine AL rfl tyZ_impl_Stream <| fun b2 => rw_storeN (i := 0) [_, _, _, _, _, _, _, _, _, _, _, _, _, _, _, _, _, _, _, _, _, _, _, _, _, _, _, _, _, _, _, _, _, _, _, _, _, _, _] [_, _, _, _, _, _, _, _, _, _, _, _, _, _, _, _, _, _, _, _, _, _, _, _, _, _, _, _, _, _, _, _, _, _, _, _, _, _, _] [_, _] tyS_impl_Stream.sz rfl rfl rfl rfl rfl rfl rfl rfl rfl <| ND <| SQ <| RG <| LS (i := 0) [_, _, _, _, _, _, _, _, _, _, _, _, _, _, _, _, _, _, _, _, _, _, _, _, _, _, _, _, _, _, _, _, _, _, _, _, _, _, _] rfl tyS_impl_Stream rfl rfl rfl rfl <| CV1 rfl fun_impl_IsSendOver rfl (fun w hs => impl_IsSendOver ⟨_, _, _, _, _, rfl, ⟨_, _, rfl, hrd3_0 _ (fun c hc => hs.at_ c (List.mem_append_right _ (List.mem_append_left _ hc)))⟩, ⟨_, _, rfl, hrd3_1 _ (fun c hc => hs.at_ c (List.mem_append_right _ (List.mem_append_right _ (List.mem_append_left _ hc))))⟩, ⟨_, _, rfl, hrd3_2 _ (fun c hc => hs.at_ c (List.mem_append_right _ (List.mem_append_right _ (List.mem_append_right _ (List.mem_append_left _ hc)))))⟩, ⟨_, _, rfl, hrd3_3 _ (fun c hc => hs.at_ c (List.mem_append_right _ (List.mem_append_right _ (List.mem_append_right _ (List.mem_append_right _ (List.mem_append_left _ hc))))))⟩, ⟨_, _, rfl, hrd3_4 _ (fun c hc => hs.at_ c (List.mem_append_right _ (List.mem_append_right _ (List.mem_append_right _ (List.mem_append_right _ (List.mem_append_right _ (List.mem_append_left _ hc)))))))⟩⟩) <| ?_
    refine AS rfl rfl <| ND <| SQ <| SQ <| RG <| MV rfl rfl <| MV rfl rfl <| rw_neqSelfB (by kernel_rfl) rfl rfl rfl <| ND <| CF rfl rfl <| SK <| SQ <| SQ <| gw_draw' [(0, .det), (1, .det), (2, .add)] [3, 4] mixed rfl (free_det (free_det (free_add free_nil))) (ts := [_, _]) rfl <| DT rfl rfl (fun K hk => LS (i := 0) [_, _, _, _, _, _, _, _, _, _, _, _, _, _, _, _, _, _, _, _, _, _, _, _, _, _, _, _, _, _, _, _, _, _, _, _, _, _, _] rfl tyS_impl_Stream rfl rfl rfl rfl hk) <| DT rfl rfl (fun K hk => LS (i := 1) [_, _, _, _, _, _, _, _, _, _, _, _, _, _, _, _, _, _, _, _, _, _, _, _, _, _, _, _, _, _, _, _, _, _, _, _, _, _, _] rfl tyS_laws_Stream rfl rfl rfl rfl hk) <| ?_
    refine DA rfl rfl (fun K hk => CN1 rfl fun_laws_toStream rfl (fun w hs => laws_toStream ⟨_, _, _, _, _, rfl, (hA0.s Pl.keeps hs), (hA1.s Pl.keeps hs), (hA2.s Pl.keeps hs), (hA3.s Pl.keeps hs), (hA4.s Pl.keeps hs)⟩ ⟨hz1_0, hz1_1, hz1_2, hz1_3, hz1_4, hz1_5⟩) hk) <| fun vv4 ch4 how4 => ?_
    obtain ⟨cs4, rfl, v4_0, v4_1, v4_2, v4_3, v4_4, c4_0, c4_1, c4_2, c4_3, c4_4, rfl, h4_0, h4_1, h4_2, h4_3, h4_4, rfl⟩ := how4
    refine dw_F (F' := c4_0 ++ (c4_1 ++ (c4_2 ++ (c4_3 ++ (c4_4 ++ (c3_0 ++ (c3_1 ++ (c3_2 ++ (c3_3 ++ (c3_4 ++ (c2_0 ++ (c2_1 ++ (c2_2 ++ (c2_3 ++ (c2_4 ++ ([])))))))))))))))) (by simp only [List.append_assoc]) <| ?_
    obtain ⟨R4_0, b4_0, rfl, hR4_0, hrd4_0⟩ := h4_0.shape eInt
    obtain ⟨R4_1, b4_1, rfl, hR4_1, hrd4_1⟩ := h4_1.shape eRange
    obtain ⟨R4_2, b4_2, rfl, hR4_2, hrd4_2⟩ := h4_2.shape eRange
    obtain ⟨R4_3, b4_3, rfl, hR4_3, hrd4_3⟩ := h4_3.shape eRange
    obtain ⟨R4_4, b4_4, rfl, hR4_4, hrd4_4⟩ := h4_4.shape eChunk
    refine dw_nil <| CV1 rfl fun_laws_eqStream rfl (fun w hs => laws_eqStream ⟨_, _, _, _, _, rfl, ⟨_, _, rfl, hrd3_0 _ (fun c hc => hs.at_ c (List.mem_append_right _ (List.mem_append_right _ (List.mem_append_right _ (List.mem_append_right _ (List.mem_append_right _ (List.mem_append_right _ (List.mem_append_left _ hc))))))))⟩, ⟨_, _, rfl, hrd3_1 _ (fun c hc => hs.at_ c (List.mem_append_right _ (List.mem_append_right _ (List.mem_append_right _ (List.mem_append_right _ (List.mem_append_right _ (List.mem_append_right _ (List.mem_append_right _ (List.mem_append_left _ hc)))))))))⟩, ⟨_, _, rfl, hrd3_2 _ (fun c hc => hs.at_ c (List.mem_append_right _ (List.mem_append_right _ (List.mem_append_right _ (List.mem_append_right _ (List.mem_append_right _ (List.mem_append_right _ (List.mem_append_right _ (List.mem_append_right _ (List.mem_append_left _ hc))))))))))⟩, ⟨_, _, rfl, hrd3_3 _ (fun c hc => hs.at_ c (List.mem_append_right _ (List.mem_append_right _ (List.mem_append_right _ (List.mem_append_right _ (List.mem_append_right _ (List.mem_append_right _ (List.mem_append_right _ (List.mem_append_right _ (List.mem_append_right _ (List.mem_append_left _ hc)))))))))))⟩, ⟨_, _, rfl, hrd3_4 _ (fun c hc => hs.at_ c (List.mem_append_right _ (List.mem_append_right _ (List.mem_append_right _ (List.mem_append_right _ (List.mem_append_right _ (List.mem_append_right _ (List.mem_append_right _ (List.mem_append_right _ (List.mem_append_right _ (List.mem_append_right _ (List.mem_append_left _ hc))))))))))))⟩⟩ ⟨hz1_0, hz1_1, hz1_2, hz1_3, hz1_4, hz1_5⟩ ⟨_, _, _, _, _, rfl, ⟨_, _, rfl, hrd4_0 _ (fun c hc => hs.at_ c (List.mem_append_right _ (List.mem_append_left _ hc)))⟩, ⟨_, _, rfl, hrd4_1 _ (fun c hc => hs.at_ c (List.mem_append_right _ (List.mem_append_right _ (List.mem_append_left _ hc))))⟩, ⟨_, _, rfl, hrd4_2 _ (fun c hc => hs.at_ c (List.mem_append_right _ (List.mem_append_right _ (List.mem_append_right _ (List.mem_append_left _ hc)))))⟩, ⟨_, _, rfl, hrd4_3 _ (fun c hc => hs.at_ c (List.mem_append_right _ (List.mem_append_right _ (List.mem_append_right _ (List.mem_append_right _ (List.mem_append_left _ hc))))))⟩, ⟨_, _, rfl, hrd4_4 _ (fun c hc => hs.at_ c (List.mem_append_right _ (List.mem_append_right _ (List.mem_append_right _ (List.mem_append_right _ (List.mem_append_right _ (List.mem_append_left _ hc)))))))⟩⟩) <| ?_
    refine NT rfl rfl <| ND <| CF rfl rfl <| SK <| SQ <| RG <| AS rfl rfl <| ND <| ret_cv Try.func3 (res1 Try.func3 rfl (rv_tmp rfl)) <| ?_
    rfl

theorem spec_l1In (a b c : Int) (w : World) : CV Try.prog 139 [.int .i64 a, .int .i64 b, .int .i64 c] w (.bool (within a b c)) := by
  refine cv_of Try.func139 rfl rfl rfl <| SQ <| RG <| AS rfl rfl <| ND <| SQ <| RG <| MV rfl rfl <| MV rfl rfl <| rw_geq rfl rfl rfl <| MV rfl rfl <| ?_
  refine rw_case (j := 10) rfl (fun h1 => ?_) (fun h1 => ?_)
  · refine ON rfl rfl h1 <| MV rfl rfl <| ON rfl rfl h1 <| MV rfl rfl <| ON rfl rfl h1 <| rw_leq rfl rfl rfl <| PT rfl rfl h1 rfl <| AS rfl rfl <| ND <| ret_cv Try.func139 (res1 Try.func139 rfl (rv_tmp rfl)) <| ?_
    simp only [within, h1] <;> rfl
  · refine OF rfl rfl h1 rfl <| OF rfl rfl h1 rfl <| OF rfl rfl h1 rfl <| PF rfl rfl h1 rfl <| AS rfl rfl <| ND <| ret_cv Try.func139 (res1 Try.func139 rfl (rv_tmp rfl)) <| ?_
    simp only [within, h1] <;> rfl

theorem spec_l4Quic (a : Int) (w : World) : CV Try.prog 69 [.int .i64 a] w (.bool (isQuic a)) := by
  refine cv_of Try.func69 rfl rfl rfl <| SQ <| RG <| AS rfl rfl <| ND <| SQ <| RG <| MV rfl rfl <| CV1 rfl fun_spec_l1In rfl (fun w hs => spec_l1In _ _ _ w) <| AS rfl rfl <| ND <| ret_cv Try.func69 (res1 Try.func69 rfl (rv_tmp rfl)) <| ?_
  rfl

theorem spec_IsBuffer {w : World} {cs : List Value} {x : Buffer} (hv : RdBuffer w cs x) (hb : x.le 134217728) : CV Try.prog 196 [.agg cs.toArray] w (.bool (isBuffer x)) := by
  obtain ⟨v0, rfl, k0⟩ := hv
  obtain ⟨A0, c0, rfl, hA0⟩ := k0
  obtain ⟨hb0, hb1⟩ := hb
  refine cv_of Try.func196 rfl rfl rfl <| SQ <| RG <| BX [_, _] rfl rfl rfl <| fun b1 => AS rfl rfl <| ND <| SQ <| RG <| FA rfl tyF_impl_Buffer_0 rfl <| LD (i := 0) rfl tyP_int rfl rfl rfl <| rw_sub rfl rfl rfl <| AS rfl rfl <| ND <| SQ <| SQ <| RG <| AS rfl rfl <| ND <| BK <| ?_
  refine gw_loopC (α := Nat × Int) (fun z_ => z_.1 ≤ x.chunks.length ∧ isBufferS x = (bufS z_.2 (x.chunks.drop z_.1) && isQuic x.next)) (fun z_ => x.chunks.length - z_.1) (fun e z_ => (4, .int .i64 (z_.1 : Int)) :: (3, .int .i64 z_.2) :: e) (0, w64 (x.next - 1)) [(1, _)] (Sub.consE rfl rfl (Sub.consE rfl rfl (Sub.cons (i := 1) rfl (Sub.nil _)))) ?_ ?_
  · exact ⟨Nat.zero_le _, rfl⟩
  · rintro ⟨i, e⟩ hI1 ih1
    dsimp only at hI1
    dsimp only
    obtain ⟨hle, hI⟩ := hI1
    refine SQ <| SQ <| RG <| MV rfl rfl <| FA rfl tyF_impl_Buffer_1 rfl <| LD (i := 0) rfl tyP_S_impl_Chunk rfl rfl rfl <| rw_len rfl tyE_S_impl_Chunk rfl <| rw_lss rfl rfl rfl <| ND <| ?_
    refine gw_cond rfl (fun h1 => ?_) (fun h1 => ?_)
    · have hi2 := lt_of_dec h1
      obtain ⟨x3, hx3⟩ := get_of_lt hi2
      have hd3 := drop_cons hx3
      refine SK <| SQ <| BK <| SQ <| RG <| FA rfl tyF_impl_Buffer_1 rfl <| LD (i := 0) rfl tyP_S_impl_Chunk rfl rfl rfl <| MV rfl rfl <| ?_
      have hq4 := hA0.plain hx3
      refine rw_indexAddr (i) rfl tyE_S_impl_Chunk rfl rfl rfl (hA0.some hi2) hi2 <| rw_loadX_s [_, _] rfl tyS_impl_Chunk rfl rfl (fun w hs => hq4.lds0 (n := 2) hs rfl) <| AL rfl tyZ_impl_Chunk <| fun b2 => ST (i := 0) [_, _] [_, _] tyS_impl_Chunk.sz rfl rfl rfl rfl rfl rfl rfl rfl <| ND <| SQ <| SQ <| RG <| FA rfl tyF_impl_Chunk_0 rfl <| LD (i := 0) rfl tyP_int rfl rfl rfl <| MV rfl rfl <| rw_leq rfl rfl rfl <| MV rfl rfl <| ?_
      refine rw_case (j := 25) rfl (fun h2 => ?_) (fun h2 => ?_)
      · refine OF rfl rfl h2 rfl <| OF rfl rfl h2 rfl <| OF rfl rfl h2 rfl <| PT rfl rfl h2 rfl <| MV rfl rfl <| OF rfl rfl rfl rfl <| OF rfl rfl rfl rfl <| OF rfl rfl rfl rfl <| OF rfl rfl rfl rfl <| OF rfl rfl rfl rfl <| OF rfl rfl rfl rfl <| OF rfl rfl rfl rfl <| PT rfl rfl rfl rfl <| ND <| CT rfl rfl <| SQ <| RG <| AS rfl rfl <| ND <| ret_cv Try.func196 (res1 Try.func196 rfl (rv_tmp rfl)) <| ?_
        rw [isBuffer_s x hb1]; rw [hI, hd3]; simp [bufS, maxQuic, h2]
      · refine ON rfl rfl h2 <| FA rfl tyF_impl_Chunk_1 rfl <| ON rfl rfl h2 <| LD (i := 0) rfl tyP_string rfl rfl rfl <| ON rfl rfl h2 <| rw_eqlS rfl rfl rfl <| PF rfl rfl h2 rfl <| MV rfl rfl <| ?_
        refine rw_case (j := 30) rfl (fun h3 => ?_) (fun h3 => ?_)
        · have hse5 := str_empty h3
          refine OF rfl rfl h3 rfl <| OF rfl rfl h3 rfl <| OF rfl rfl h3 rfl <| OF rfl rfl h3 rfl <| OF rfl rfl h3 rfl <| OF rfl rfl h3 rfl <| OF rfl rfl h3 rfl <| PT rfl rfl h3 rfl <| ND <| CT rfl rfl <| SQ <| RG <| AS rfl rfl <| ND <| ret_cv Try.func196 (res1 Try.func196 rfl (rv_tmp rfl)) <| ?_
          rw [isBuffer_s x hb1]; rw [hI, hd3]; simp [bufS, maxQuic, h2, hse5]
        · have hse6 := str_empty h3
          refine ON rfl rfl h3 <| FA rfl tyF_impl_Chunk_0 rfl <| ON rfl rfl h3 <| LD (i := 0) rfl tyP_int rfl rfl rfl <| ON rfl rfl h3 <| FA rfl tyF_impl_Chunk_1 rfl <| ON rfl rfl h3 <| LD (i := 0) rfl tyP_string rfl rfl rfl <| ON rfl rfl h3 <| rw_lenS rfl (by kernel_rfl) rfl <| ON rfl rfl h3 <| rw_sub rfl rfl rfl <| ON rfl rfl h3 <| rw_gtr rfl rfl rfl <| PF rfl rfl h3 rfl <| ND <| ?_
          refine gw_cond rfl (fun h4 => ?_) (fun h4 => ?_)
          · refine SQ <| RG <| AS rfl rfl <| ND <| ret_cv Try.func196 (res1 Try.func196 rfl (rv_tmp rfl)) <| ?_
            rw [isBuffer_s x hb1]; rw [hI, hd3]; simp [bufS, maxQuic, h2, hse6, h4]
          · refine SK <| RG <| FA rfl tyF_impl_Chunk_0 rfl <| LD (i := 0) rfl tyP_int rfl rfl rfl <| FA rfl tyF_impl_Chunk_1 rfl <| LD (i := 0) rfl tyP_string rfl rfl rfl <| rw_lenS rfl (by kernel_rfl) rfl <| rw_add rfl rfl rfl <| AS rfl rfl <| ND <| IB <| RG <| MV rfl rfl <| rw_add rfl rfl rfl <| AS rfl rfl <| ND <| gw_dropN 1 <| ?_
            refine gw_sub (Sub.consE (i := 4) rfl (int_succ (by omega)) (Sub.consE (i := 3) rfl rfl (Sub.cons (i := 1) rfl (Sub.nil _)))) (ih1 (i + 1, chunkEnd x3) ?_ ?_)
            · exact ⟨by omega, by rw [hI, hd3]; simp [bufS, maxQuic, h2, hse6, h4]⟩
            · show x.chunks.length - (i + 1) < x.chunks.length - i; omega
    · have hn7 := nil_of_dec h1
      refine EX rfl <| SQ <| RG <| FA rfl tyF_impl_Buffer_0 rfl <| LD (i := 0) rfl tyP_int rfl rfl rfl <| CV1 rfl fun_spec_l4Quic rfl (fun w hs => spec_l4Quic _ w) <| AS rfl rfl <| ND <| ret_cv Try.func196 (res1 Try.func196 rfl (rv_tmp rfl)) <| ?_
      rw [isBuffer_s x hb1]; rw [hI, hn7]; rfl

theorem spec_EndOf {w : World} {cs : List Value} {x : Buffer} (hv : RdBuffer w cs x) (hb : x.le 134217728) : CV Try.prog 197 [.agg cs.toArray] w (.int .i64 (endOf x)) := by
  obtain ⟨v0, rfl, k0⟩ := hv
  obtain ⟨A0, c0, rfl, hA0⟩ := k0
  obtain ⟨hb0, hb1⟩ := hb
  refine cv_of Try.func197 rfl rfl rfl <| SQ <| RG <| BX [_, _] rfl rfl rfl <| fun b1 => AS rfl rfl <| ND <| SQ <| SQ <| RG <| FA rfl tyF_impl_Buffer_1 rfl <| LD (i := 0) rfl tyP_S_impl_Chunk rfl rfl rfl <| rw_len rfl tyE_S_impl_Chunk rfl <| EQ1 rfl rfl rfl <| MV rfl rfl <| ?_
  refine rw_case (j := 8) rfl (fun h1 => ?_) (fun h1 => ?_)
  · have hnil1 := nil_of_eq h1
    refine OF rfl rfl h1 rfl <| OF rfl rfl h1 rfl <| OF rfl rfl h1 rfl <| PT rfl rfl h1 rfl <| ND <| CT rfl rfl <| SQ <| RG <| FA rfl tyF_impl_Buffer_0 rfl <| LD (i := 0) rfl tyP_int rfl rfl rfl <| AS rfl rfl <| ND <| ret_cv Try.func197 (res1 Try.func197 rfl (rv_tmp rfl)) <| ?_
    simp [endOf, hnil1]
  · have hpos2 := pos_of_ne h1
    refine ON rfl rfl h1 <| LS (i := 0) [_, _] rfl tyS_impl_Buffer rfl rfl rfl rfl <| ON rfl rfl h1 <| CV1 rfl fun_spec_IsBuffer rfl (fun w hs => spec_IsBuffer ⟨_, rfl, (hA0.s Pl.keeps hs)⟩ ⟨hb0, hb1⟩) <| ON rfl rfl h1 <| NT rfl rfl <| PF rfl rfl h1 rfl <| ND <| ?_
    refine gw_cond rfl (fun h2 => ?_) (fun h2 => ?_)
    · replace h2 := of_not_T h2
      refine SQ <| RG <| FA rfl tyF_impl_Buffer_0 rfl <| LD (i := 0) rfl tyP_int rfl rfl rfl <| AS rfl rfl <| ND <| ret_cv Try.func197 (res1 Try.func197 rfl (rv_tmp rfl)) <| ?_
      simp [endOf, chunkEnd, h2]
    · replace h2 := of_not_F h2
      refine SK <| SQ <| RG <| FA rfl tyF_impl_Buffer_1 rfl <| LD (i := 0) rfl tyP_S_impl_Chunk rfl rfl rfl <| FA rfl tyF_impl_Buffer_1 rfl <| LD (i := 0) rfl tyP_S_impl_Chunk rfl rfl rfl <| rw_len rfl tyE_S_impl_Chunk rfl <| rw_sub rfl rfl rfl <| ?_
      have hi3 : x.chunks.length - 1 < x.chunks.length := by omega
      obtain ⟨x4, hx4⟩ := get_of_lt hi3
      have hd4 := drop_cons hx4
      have hq5 := hA0.plain hx4
      refine rw_indexAddr (x.chunks.length - 1) rfl tyE_S_impl_Chunk rfl rfl (lenpred_of (by omega) (by omega)) (hA0.some hi3) hi3 <| rw_loadX_s [_, _] rfl tyS_impl_Chunk rfl rfl (fun w hs => hq5.lds0 (n := 2) hs rfl) <| AL rfl tyZ_impl_Chunk <| fun b2 => ST (i := 0) [_, _] [_, _] tyS_impl_Chunk.sz rfl rfl rfl rfl rfl rfl rfl rfl <| ND <| SQ <| RG <| FA rfl tyF_impl_Chunk_0 rfl <| LD (i := 0) rfl tyP_int rfl rfl rfl <| FA rfl tyF_impl_Chunk_1 rfl <| LD (i := 0) rfl tyP_string rfl rfl rfl <| rw_lenS rfl (by kernel_rfl) rfl <| rw_add rfl rfl rfl <| ?_
      refine AS rfl rfl <| ND <| ret_cv Try.func197 (res1 Try.func197 rfl (rv_tmp rfl)) <| ?_
      simp [endOf, chunkEnd, h2, hx4]

theorem spec_ReadyBytes {w : World} {cs : List Value} {x : Buffer} (hv : RdBuffer w cs x) (hb : x.le 134217728) : CV Try.prog 198 [.agg cs.toArray] w (.int .i64 (readyBytes x)) := by
  obtain ⟨v0, rfl, k0⟩ := hv
  obtain ⟨A0, c0, rfl, hA0⟩ := k0
  obtain ⟨hb0, hb1⟩ := hb
  refine cv_of Try.func198 rfl rfl rfl <| SQ <| RG <| BX [_, _] rfl rfl rfl <| fun b1 => AS rfl rfl <| ND <| SQ <| SQ <| gw_draw' [(0, .det), (1, .det), (2, .det), (3, .det), (4, .det), (5, .det), (6, .det), (7, .det), (8, .det), (9, .det), (10, .det), (11, .det), (12, .det), (13, .det), (14, .det), (15, .det), (16, .det)] [17, 18] mixed rfl (free_det (free_det (free_det (free_det (free_det (free_det (free_det (free_det (free_det (free_det (free_det (free_det (free_det (free_det (free_det (free_det (free_det free_nil))))))))))))))))) (ts := [_, _]) rfl <| DT rfl rfl (fun K hk => LS (i := 0) [_, _] rfl tyS_impl_Buffer rfl rfl rfl rfl hk) <| ?_
  refine DT rfl rfl (fun K hk => CV1 rfl fun_spec_IsBuffer rfl (fun w hs => spec_IsBuffer ⟨_, rfl, (hA0.s Pl.keeps hs)⟩ ⟨hb0, hb1⟩) hk) <| DT rfl rfl (fun K hk => NT rfl rfl hk) <| DT rfl rfl (fun K hk => MV rfl rfl hk) <| ?_
  refine dw_case (i := 6) rfl (fun h1 => ?_) (fun h1 => ?_)
  · replace h1 := of_not_T h1
    refine DT rfl rfl (fun K hk => OF rfl rfl (not_F h1) rfl hk) <| DT rfl rfl (fun K hk => OF rfl rfl (not_F h1) rfl hk) <| DT rfl rfl (fun K hk => OF rfl rfl (not_F h1) rfl hk) <| DT rfl rfl (fun K hk => OF rfl rfl (not_F h1) rfl hk) <| DT rfl rfl (fun K hk => PT rfl rfl (not_F h1) rfl hk) <| DT rfl rfl (fun K hk => MV rfl rfl hk) <| DT rfl rfl (fun K hk => OF rfl rfl rfl rfl hk) <| DT rfl rfl (fun K hk => OF rfl rfl rfl rfl hk) <| DT rfl rfl (fun K hk => OF rfl rfl rfl rfl hk) <| DT rfl rfl (fun K hk => OF rfl rfl rfl rfl hk) <| ?_
    refine DT rfl rfl (fun K hk => OF rfl rfl rfl rfl hk) <| DT rfl rfl (fun K hk => OF rfl rfl rfl rfl hk) <| DT rfl rfl (fun K hk => OF rfl rfl rfl rfl hk) <| dw_nil <| OF rfl rfl rfl rfl <| PT rfl rfl rfl rfl <| ND <| CT rfl rfl <| SQ <| RG <| AS rfl rfl <| ND <| ret_cv Try.func198 (res1 Try.func198 rfl (rv_tmp rfl)) <| ?_
    simp [readyBytes, h1]
  · replace h1 := of_not_F h1
    refine DT rfl rfl (fun K hk => ON rfl rfl (not_T h1) (FA rfl tyF_impl_Buffer_1 rfl hk)) <| DT rfl rfl (fun K hk => ON rfl rfl (not_T h1) (LD (i := 0) rfl tyP_S_impl_Chunk rfl rfl rfl hk)) <| DT rfl rfl (fun K hk => ON rfl rfl (not_T h1) (rw_len rfl tyE_S_impl_Chunk rfl hk)) <| DT rfl rfl (fun K hk => ON rfl rfl (not_T h1) (EQ1 rfl rfl rfl hk)) <| DT rfl rfl (fun K hk => PF rfl rfl (not_T h1) rfl hk) <| DT rfl rfl (fun K hk => MV rfl rfl hk) <| ?_
    refine dw_case (i := 12) rfl (fun h2 => ?_) (fun h2 => ?_)
    · have hnil1 := nil_of_eq h2
      refine DT rfl rfl (fun K hk => OF rfl rfl h2 rfl hk) <| DT rfl rfl (fun K hk => OF rfl rfl h2 rfl hk) <| DT rfl rfl (fun K hk => OF rfl rfl h2 rfl hk) <| DT rfl rfl (fun K hk => OF rfl rfl h2 rfl hk) <| DT rfl rfl (fun K hk => OF rfl rfl h2 rfl hk) <| DT rfl rfl (fun K hk => OF rfl rfl h2 rfl hk) <| DT rfl rfl (fun K hk => OF rfl rfl h2 rfl hk) <| dw_nil <| OF rfl rfl h2 rfl <| PT rfl rfl h2 rfl <| ND <| CT rfl rfl <| SQ <| RG <| AS rfl rfl <| ND <| ret_cv Try.func198 (res1 Try.func198 rfl (rv_tmp rfl)) <| ?_
      simp [readyBytes, h1, hnil1]
    · have hpos2 := pos_of_ne h2
      refine DT rfl rfl (fun K hk => ON rfl rfl h2 (FA rfl tyF_impl_Buffer_1 rfl hk)) <| DT rfl rfl (fun K hk => ON rfl rfl h2 (LD (i := 0) rfl tyP_S_impl_Chunk rfl rfl rfl hk)) <| ?_
      have hi3 : 0 < x.chunks.length := by omega
      obtain ⟨x4, hx4⟩ := get_of_lt hi3
      have hd4 := drop_cons hx4
      have hq5 := hA0.plain hx4
      refine DT rfl rfl (fun K hk => ON rfl rfl h2 (rw_indexAddr (0) rfl tyE_S_impl_Chunk rfl rfl rfl (hA0.some hi3) hi3 hk)) <| DT rfl rfl (fun K hk => ON rfl rfl h2 (FX rfl tyF_impl_Chunk_0 rfl hk)) <| DT rfl rfl (fun K hk => ON rfl rfl h2 (rw_loadX _ rfl tyP_int rfl (fun w hs => hq5.ld hs rfl) hk)) <| DT rfl rfl (fun K hk => ON rfl rfl h2 (FA rfl tyF_impl_Buffer_0 rfl hk)) <| DT rfl rfl (fun K hk => ON rfl rfl h2 (LD (i := 0) rfl tyP_int rfl rfl rfl hk)) <| dw_nil <| ON rfl rfl h2 <| ?_
      refine rw_neq rfl rfl rfl <| PF rfl rfl h2 rfl <| ND <| ?_
      refine gw_cond rfl (fun h3 => ?_) (fun h3 => ?_)
      · replace h3 := of_not_T h3
        refine SQ <| RG <| AS rfl rfl <| ND <| ret_cv Try.func198 (res1 Try.func198 rfl (rv_tmp rfl)) <| ?_
        simp [readyBytes, h1, h3, hx4]
      · replace h3 := of_not_F h3
        refine SK <| SQ <| RG <| FA rfl tyF_impl_Buffer_1 rfl <| LD (i := 0) rfl tyP_S_impl_Chunk rfl rfl rfl <| rw_indexAddr (0) rfl tyE_S_impl_Chunk rfl rfl rfl (hA0.some hi3) hi3 <| FX rfl tyF_impl_Chunk_1 rfl <| rw_loadX _ rfl tyP_string rfl (fun w hs => hq5.ld hs rfl) <| rw_lenS rfl (by kernel_rfl) rfl <| AS rfl rfl <| ND <| ret_cv Try.func198 (res1 Try.func198 rfl (rv_tmp rfl)) <| ?_
        simp [readyBytes, h1, h3, hx4]

set_option maxRecDepth 20000 in
theorem spec_IsReceiver {w : World} {cs : List Value} {x : Receiver} (hv : RdReceiver w cs x) (hb : x.le 134217728) : CV Try.prog 160 [.agg cs.toArray] w (.bool (isReceiver x)) := by
  obtain ⟨v0, rfl, k0⟩ := hv
  obtain ⟨A0, c0, rfl, hA0⟩ := k0
  obtain ⟨hb0, hb1⟩ := hb
  refine cv_of Try.func160 rfl rfl rfl <| SQ <| RG <| BX [_, _, _, _, _, _] rfl rfl rfl <| fun b1 => AS rfl rfl <| ND <| SQ <| SQ <| gw_draw' [(0, .det), (1, .det), (2, .det), (3, .det), (4, .det), (5, .det), (6, .det), (7, .det), (8, .det), (9, .det), (10, .det), (11, .det), (12, .det), (13, .det), (14, .det), (15, .det), (16, .det), (17, .det), (18, .det), (19, .det), (20, .det), (21, .det), (22, .det), (23, .det), (24, .det), (25, .det), (26, .det), (27, .det), (28, .det), (29, .det), (30, .det), (31, .det), (32, .det)] [33, 34, 35, 36, 37, 38, 39, 40, 41, 42, 43, 44, 45] mixed rfl (free_det (free_det (free_det (free_det (free_det (free_det (free_det (free_det (free_det (free_det (free_det (free_det (free_det (free_det (free_det (free_det (free_det (free_det (free_det (free_det (free_det (free_det (free_det (free_det (free_det (free_det (free_det (free_det (free_det (free_det (free_det (free_det (free_det free_nil))))))))))))))))))))))))))))))))) (ts := [_, _, _, _, _, _, _, _, _, _, _, _, _]) rfl <| ?_
  refine DT rfl rfl (fun K hk => FA rfl tyF_impl_Receiver_1 rfl hk) <| DT rfl rfl (fun K hk => LS (i := 0) [_, _] rfl tyS_impl_Buffer rfl rfl rfl rfl hk) <| DT rfl rfl (fun K hk => CV1 rfl fun_spec_IsBuffer rfl (fun w hs => spec_IsBuffer ⟨_, rfl, (hA0.s Pl.keeps hs)⟩ ⟨hb0, hb1⟩) hk) <| DT rfl rfl (fun K hk => NT rfl rfl hk) <| DT rfl rfl (fun K hk => MV rfl rfl hk) <| ?_
  refine dw_case (i := 8) rfl (fun h1 => ?_) (fun h1 => ?_)
  · replace h1 := of_not_T h1
    refine DT rfl rfl (fun K hk => OF rfl rfl (not_F h1) rfl hk) <| DT rfl rfl (fun K hk => OF rfl rfl (not_F h1) rfl hk) <| DT rfl rfl (fun K hk => OF rfl rfl (not_F h1) rfl hk) <| DT rfl rfl (fun K hk => OF rfl rfl (not_F h1) rfl hk) <| DT rfl rfl (fun K hk => PT rfl rfl (not_F h1) rfl hk) <| DT rfl rfl (fun K hk => MV rfl rfl hk) <| DT rfl rfl (fun K hk => OF rfl rfl rfl rfl hk) <| DT rfl rfl (fun K hk => OF rfl rfl rfl rfl hk) <| DT rfl rfl (fun K hk => OF rfl rfl rfl rfl hk) <| DT rfl rfl (fun K hk => OF rfl rfl rfl rfl hk) <| ?_
    refine DT rfl rfl (fun K hk => OF rfl rfl rfl rfl hk) <| DT rfl rfl (fun K hk => OF rfl rfl rfl rfl hk) <| DT rfl rfl (fun K hk => PT rfl rfl rfl rfl hk) <| DT rfl rfl (fun K hk => MV rfl rfl hk) <| DT rfl rfl (fun K hk => OF rfl rfl rfl rfl hk) <| DT rfl rfl (fun K hk => OF rfl rfl rfl rfl hk) <| DT rfl rfl (fun K hk => OF rfl rfl rfl rfl hk) <| DT rfl rfl (fun K hk => OF rfl rfl rfl rfl hk) <| DT rfl rfl (fun K hk => PT rfl rfl rfl rfl hk) <| DT rfl rfl (fun K hk => MV rfl rfl hk) <| ?_
    refine DT rfl rfl (fun K hk => OF rfl rfl rfl rfl hk) <| DT rfl rfl (fun K hk => OF rfl rfl rfl rfl hk) <| DT rfl rfl (fun K hk => OF rfl rfl rfl rfl hk) <| DT rfl rfl (fun K hk => OF rfl rfl rfl rfl hk) <| DT rfl rfl (fun K hk => OU rfl rfl rfl hk) <| DT rfl rfl (fun K hk => OU rfl rfl rfl hk) <| DT rfl rfl (fun K hk => OU rfl rfl rfl hk) <| DT rfl rfl (fun K hk => OU rfl rfl rfl hk) <| dw_nil <| OU rfl rfl rfl <| OF rfl rfl rfl rfl <| PT rfl rfl rfl rfl <| MV rfl rfl <| ?_
    refine OF rfl rfl rfl rfl <| OF rfl rfl rfl rfl <| OF rfl rfl rfl rfl <| PT rfl rfl rfl rfl <| MV rfl rfl <| OF rfl rfl rfl rfl <| OF rfl rfl rfl rfl <| OF rfl rfl rfl rfl <| PT rfl rfl rfl rfl <| ND <| CT rfl rfl <| SQ <| RG <| AS rfl rfl <| ND <| ret_cv Try.func160 (res1 Try.func160 rfl (rv_tmp rfl)) <| ?_
    rw [isReceiver_s]
    simp [isReceiverS, maxQuic, h1]
  · replace h1 := of_not_F h1
    refine DT rfl rfl (fun K hk => ON rfl rfl (not_T h1) (FA rfl tyF_impl_Receiver_3 rfl hk)) <| DT rfl rfl (fun K hk => ON rfl rfl (not_T h1) (LD (i := 0) rfl tyP_int rfl rfl rfl hk)) <| DT rfl rfl (fun K hk => ON rfl rfl (not_T h1) (CV1 rfl fun_spec_l4Quic rfl (fun w hs => spec_l4Quic _ w) hk)) <| DT rfl rfl (fun K hk => ON rfl rfl (not_T h1) (NT rfl rfl hk)) <| DT rfl rfl (fun K hk => PF rfl rfl (not_T h1) rfl hk) <| DT rfl rfl (fun K hk => MV rfl rfl hk) <| ?_
    refine dw_case (i := 14) rfl (fun h2 => ?_) (fun h2 => ?_)
    · replace h2 := of_not_T h2
      refine DT rfl rfl (fun K hk => OF rfl rfl (not_F h2) rfl hk) <| DT rfl rfl (fun K hk => OF rfl rfl (not_F h2) rfl hk) <| DT rfl rfl (fun K hk => OF rfl rfl (not_F h2) rfl hk) <| DT rfl rfl (fun K hk => OF rfl rfl (not_F h2) rfl hk) <| DT rfl rfl (fun K hk => OF rfl rfl (not_F h2) rfl hk) <| DT rfl rfl (fun K hk => OF rfl rfl (not_F h2) rfl hk) <| DT rfl rfl (fun K hk => PT rfl rfl (not_F h2) rfl hk) <| DT rfl rfl (fun K hk => MV rfl rfl hk) <| DT rfl rfl (fun K hk => OF rfl rfl rfl rfl hk) <| ?_
      refine DT rfl rfl (fun K hk => OF rfl rfl rfl rfl hk) <| DT rfl rfl (fun K hk => OF rfl rfl rfl rfl hk) <| DT rfl rfl (fun K hk => OF rfl rfl rfl rfl hk) <| DT rfl rfl (fun K hk => PT rfl rfl rfl rfl hk) <| DT rfl rfl (fun K hk => MV rfl rfl hk) <| DT rfl rfl (fun K hk => OF rfl rfl rfl rfl hk) <| DT rfl rfl (fun K hk => OF rfl rfl rfl rfl hk) <| DT rfl rfl (fun K hk => OF rfl rfl rfl rfl hk) <| DT rfl rfl (fun K hk => OF rfl rfl rfl rfl hk) <| DT rfl rfl (fun K hk => OU rfl rfl rfl hk) <| ?_
      refine DT rfl rfl (fun K hk => OU rfl rfl rfl hk) <| DT rfl rfl (fun K hk => OU rfl rfl rfl hk) <| DT rfl rfl (fun K hk => OU rfl rfl rfl hk) <| dw_nil <| OU rfl rfl rfl <| OF rfl rfl rfl rfl <| PT rfl rfl rfl rfl <| MV rfl rfl <| OF rfl rfl rfl rfl <| OF rfl rfl rfl rfl <| OF rfl rfl rfl rfl <| PT rfl rfl rfl rfl <| MV rfl rfl <| OF rfl rfl rfl rfl <| OF rfl rfl rfl rfl <| OF rfl rfl rfl rfl <| PT rfl rfl rfl rfl <| ND <| CT rfl rfl <| SQ <| RG <| ?_
      refine AS rfl rfl <| ND <| ret_cv Try.func160 (res1 Try.func160 rfl (rv_tmp rfl)) <| ?_
      rw [isReceiver_s]
      simp [isReceiverS, maxQuic, h1, h2]
    · replace h2 := of_not_F h2
      refine DT rfl rfl (fun K hk => ON rfl rfl (not_T h2) (FA rfl tyF_impl_Receiver_1 rfl hk)) <| DT rfl rfl (fun K hk => ON rfl rfl (not_T h2) (LS (i := 0) [_, _] rfl tyS_impl_Buffer rfl rfl rfl rfl hk)) <| DT rfl rfl (fun K hk => ON rfl rfl (not_T h2) (CV1 rfl fun_spec_EndOf rfl (fun w hs => spec_EndOf ⟨_, rfl, (hA0.s Pl.keeps hs)⟩ ⟨hb0, hb1⟩) hk)) <| DT rfl rfl (fun K hk => ON rfl rfl (not_T h2) (FA rfl tyF_impl_Receiver_3 rfl hk)) <| DT rfl rfl (fun K hk => ON rfl rfl (not_T h2) (LD (i := 0) rfl tyP_int rfl rfl rfl hk)) <| ?_
      refine DT rfl rfl (fun K hk => ON rfl rfl (not_T h2) (rw_gtr rfl rfl rfl hk)) <| DT rfl rfl (fun K hk => PF rfl rfl (not_T h2) rfl hk) <| DT rfl rfl (fun K hk => MV rfl rfl hk) <| ?_
      refine dw_case (i := 22) rfl (fun h3 => ?_) (fun h3 => ?_)
      · refine DT rfl rfl (fun K hk => OF rfl rfl h3 rfl hk) <| DT rfl rfl (fun K hk => OF rfl rfl h3 rfl hk) <| DT rfl rfl (fun K hk => OF rfl rfl h3 rfl hk) <| DT rfl rfl (fun K hk => OF rfl rfl h3 rfl hk) <| DT rfl rfl (fun K hk => PT rfl rfl h3 rfl hk) <| DT rfl rfl (fun K hk => MV rfl rfl hk) <| DT rfl rfl (fun K hk => OF rfl rfl rfl rfl hk) <| DT rfl rfl (fun K hk => OF rfl rfl rfl rfl hk) <| DT rfl rfl (fun K hk => OF rfl rfl rfl rfl hk) <| DT rfl rfl (fun K hk => OF rfl rfl rfl rfl hk) <| ?_
        refine DT rfl rfl (fun K hk => OU rfl rfl rfl hk) <| DT rfl rfl (fun K hk => OU rfl rfl rfl hk) <| DT rfl rfl (fun K hk => OU rfl rfl rfl hk) <| DT rfl rfl (fun K hk => OU rfl rfl rfl hk) <| dw_nil <| OU rfl rfl rfl <| OF rfl rfl rfl rfl <| PT rfl rfl rfl rfl <| MV rfl rfl <| OF rfl rfl rfl rfl <| OF rfl rfl rfl rfl <| OF rfl rfl rfl rfl <| PT rfl rfl rfl rfl <| MV rfl rfl <| OF rfl rfl rfl rfl <| OF rfl rfl rfl rfl <| OF rfl rfl rfl rfl <| PT rfl rfl rfl rfl <| ?_
        refine ND <| CT rfl rfl <| SQ <| RG <| AS rfl rfl <| ND <| ret_cv Try.func160 (res1 Try.func160 rfl (rv_tmp rfl)) <| ?_
        rw [isReceiver_s]
        simp [isReceiverS, maxQuic, h1, h2, h3]
      · refine DT rfl rfl (fun K hk => ON rfl rfl h3 (FA rfl tyF_impl_Receiver_4 rfl hk)) <| DT rfl rfl (fun K hk => ON rfl rfl h3 (LD (i := 0) rfl tyP_int rfl rfl rfl hk)) <| DT rfl rfl (fun K hk => ON rfl rfl h3 (CV1 rfl fun_spec_l4Quic rfl (fun w hs => spec_l4Quic _ w) hk)) <| DT rfl rfl (fun K hk => ON rfl rfl h3 (NT rfl rfl hk)) <| DT rfl rfl (fun K hk => PF rfl rfl h3 rfl hk) <| DT rfl rfl (fun K hk => MV rfl rfl hk) <| ?_
        refine dw_case (i := 28) rfl (fun h4 => ?_) (fun h4 => ?_)
        · replace h4 := of_not_T h4
          refine DT rfl rfl (fun K hk => OF rfl rfl (not_F h4) rfl hk) <| DT rfl rfl (fun K hk => OF rfl rfl (not_F h4) rfl hk) <| DT rfl rfl (fun K hk => OF rfl rfl (not_F h4) rfl hk) <| DT rfl rfl (fun K hk => OF rfl rfl (not_F h4) rfl hk) <| DT rfl rfl (fun K hk => OU rfl rfl rfl hk) <| DT rfl rfl (fun K hk => OU rfl rfl rfl hk) <| DT rfl rfl (fun K hk => OU rfl rfl rfl hk) <| DT rfl rfl (fun K hk => OU rfl rfl rfl hk) <| dw_nil <| OU rfl rfl rfl <| OF rfl rfl (not_F h4) rfl <| PT rfl rfl (not_F h4) rfl <| ?_
          refine MV rfl rfl <| OF rfl rfl rfl rfl <| OF rfl rfl rfl rfl <| OF rfl rfl rfl rfl <| PT rfl rfl rfl rfl <| MV rfl rfl <| OF rfl rfl rfl rfl <| OF rfl rfl rfl rfl <| OF rfl rfl rfl rfl <| PT rfl rfl rfl rfl <| ND <| CT rfl rfl <| SQ <| RG <| AS rfl rfl <| ND <| ret_cv Try.func160 (res1 Try.func160 rfl (rv_tmp rfl)) <| ?_
          rw [isReceiver_s]
          simp [isReceiverS, maxQuic, h1, h2, h3, h4]
        · replace h4 := of_not_F h4
          refine DT rfl rfl (fun K hk => ON rfl rfl (not_T h4) (FA rfl tyF_impl_Receiver_2 rfl hk)) <| DT rfl rfl (fun K hk => ON rfl rfl (not_T h4) (LD (i := 0) rfl tyP_int rfl rfl rfl hk)) <| DT rfl rfl (fun K hk => ON rfl rfl (not_T h4) (rw_neq rfl rfl rfl hk)) <| DT rfl rfl (fun K hk => ON rfl rfl (not_T h4) (MV rfl rfl hk)) <| ?_
          refine dw_case (i := 32) rfl (fun h5 => ?_) (fun h5 => ?_)
          · replace h5 := of_not_T h5
            refine DT rfl rfl (fun K hk => ON rfl rfl (not_F h5) (FA rfl tyF_impl_Receiver_2 rfl hk)) <| DT rfl rfl (fun K hk => ON rfl rfl (not_F h5) (LD (i := 0) rfl tyP_int rfl rfl rfl hk)) <| DT rfl rfl (fun K hk => ON rfl rfl (not_F h5) (FA rfl tyF_impl_Receiver_3 rfl hk)) <| DT rfl rfl (fun K hk => ON rfl rfl (not_F h5) (LD (i := 0) rfl tyP_int rfl rfl rfl hk)) <| dw_nil <| ON rfl rfl (not_F h5) <| rw_lss rfl rfl rfl <| ON rfl rfl (not_T h4) <| PT rfl rfl (not_F h5) rfl <| ?_
            refine PF rfl rfl (not_T h4) rfl <| MV rfl rfl <| ?_
            refine rw_case (j := 40) rfl (fun h6 => ?_) (fun h6 => ?_)
            · refine OF rfl rfl h6 rfl <| OF rfl rfl h6 rfl <| OF rfl rfl h6 rfl <| PT rfl rfl h6 rfl <| MV rfl rfl <| OF rfl rfl rfl rfl <| OF rfl rfl rfl rfl <| OF rfl rfl rfl rfl <| PT rfl rfl rfl rfl <| ND <| CT rfl rfl <| SQ <| RG <| AS rfl rfl <| ND <| ret_cv Try.func160 (res1 Try.func160 rfl (rv_tmp rfl)) <| ?_
              rw [isReceiver_s]
              simp [isReceiverS, maxQuic, h1, h2, h3, h4, h5, h6]
            · refine ON rfl rfl h6 <| FA rfl tyF_impl_Receiver_2 rfl <| ON rfl rfl h6 <| LD (i := 0) rfl tyP_int rfl rfl rfl <| ON rfl rfl h6 <| rw_gtr rfl rfl rfl <| PF rfl rfl h6 rfl <| MV rfl rfl <| ?_
              refine rw_case (j := 45) rfl (fun h7 => ?_) (fun h7 => ?_)
              · refine OF rfl rfl h7 rfl <| OF rfl rfl h7 rfl <| OF rfl rfl h7 rfl <| PT rfl rfl h7 rfl <| ND <| CT rfl rfl <| SQ <| RG <| AS rfl rfl <| ND <| ret_cv Try.func160 (res1 Try.func160 rfl (rv_tmp rfl)) <| ?_
                rw [isReceiver_s]
                simp [isReceiverS, maxQuic, h1, h2, h3, h4, h5, h6, h7]
              · refine ON rfl rfl h7 <| FA rfl tyF_impl_Receiver_2 rfl <| ON rfl rfl h7 <| LD (i := 0) rfl tyP_int rfl rfl rfl <| ON rfl rfl h7 <| rw_lss rfl rfl rfl <| PF rfl rfl h7 rfl <| ND <| ?_
                refine gw_cond rfl (fun h8 => ?_) (fun h8 => ?_)
                · refine SQ <| RG <| AS rfl rfl <| ND <| ret_cv Try.func160 (res1 Try.func160 rfl (rv_tmp rfl)) <| ?_
                  rw [isReceiver_s]
                  simp [isReceiverS, maxQuic, h1, h2, h3, h4, h5, h6, h7, h8]
                · refine SK <| SQ <| gw_draw' [(0, .det), (1, .det), (2, .det), (3, .det), (4, .det), (5, .det), (6, .det), (7, .det), (8, .det), (9, .det), (10, .det), (11, .det), (12, .det)] [13, 14, 15] mixed rfl (free_det (free_det (free_det (free_det (free_det (free_det (free_det (free_det (free_det (free_det (free_det (free_det (free_det free_nil))))))))))))) (ts := [_, _, _]) rfl <| DT rfl rfl (fun K hk => FA rfl tyF_impl_Receiver_2 rfl hk) <| DT rfl rfl (fun K hk => LD (i := 0) rfl tyP_int rfl rfl rfl hk) <| DT rfl rfl (fun K hk => rw_neq rfl rfl rfl hk) <| DT rfl rfl (fun K hk => MV rfl rfl hk) <| ?_
                  refine dw_case (i := 53) rfl (fun h9 => ?_) (fun h9 => ?_)
                  · replace h9 := of_not_T h9
                    refine DT rfl rfl (fun K hk => ON rfl rfl (not_F h9) (FA rfl tyF_impl_Receiver_1 rfl hk)) <| DT rfl rfl (fun K hk => ON rfl rfl (not_F h9) (FA rfl tyF_impl_Buffer_0 rfl hk)) <| DT rfl rfl (fun K hk => ON rfl rfl (not_F h9) (LD (i := 0) rfl tyP_int rfl rfl rfl hk)) <| DT rfl rfl (fun K hk => ON rfl rfl (not_F h9) (FA rfl tyF_impl_Receiver_1 rfl hk)) <| DT rfl rfl (fun K hk => ON rfl rfl (not_F h9) (LS (i := 0) [_, _] rfl tyS_impl_Buffer rfl rfl rfl rfl hk)) <| ?_
                    refine DT rfl rfl (fun K hk => ON rfl rfl (not_F h9) (CV1 rfl fun_spec_ReadyBytes rfl (fun w hs => spec_ReadyBytes ⟨_, rfl, (hA0.s Pl.keeps hs)⟩ ⟨hb0, hb1⟩) hk)) <| DT rfl rfl (fun K hk => ON rfl rfl (not_F h9) (rw_add rfl rfl rfl hk)) <| DT rfl rfl (fun K hk => ON rfl rfl (not_F h9) (FA rfl tyF_impl_Receiver_2 rfl hk)) <| DT rfl rfl (fun K hk => ON rfl rfl (not_F h9) (LD (i := 0) rfl tyP_int rfl rfl rfl hk)) <| dw_nil <| ON rfl rfl (not_F h9) <| EQ1 rfl rfl rfl <| PT rfl rfl (not_F h9) rfl <| ?_
                    refine AS rfl rfl <| ND <| SQ <| SQ <| RG <| FA rfl tyF_impl_Receiver_0 rfl <| LD (i := 0) rfl tyP_int rfl rfl rfl <| ND <| BK <| SQ <| RG <| EQ1 rfl rfl rfl <| AS rfl rfl <| ND <| ?_
                    refine gw_cond rfl (fun h10 => ?_) (fun h10 => ?_)
                    · refine SQ <| RG <| FA rfl tyF_impl_Receiver_2 rfl <| LD (i := 0) rfl tyP_int rfl rfl rfl <| EQ1 rfl rfl rfl <| MV rfl rfl <| ?_
                      refine rw_case (j := 72) rfl (fun h11 => ?_) (fun h11 => ?_)
                      · refine ON rfl rfl h11 <| FA rfl tyF_impl_Receiver_4 rfl <| ON rfl rfl h11 <| LD (i := 0) rfl tyP_int rfl rfl rfl <| ON rfl rfl h11 <| EQ1 rfl rfl rfl <| PT rfl rfl h11 rfl <| AS rfl rfl <| ND <| ret_cv Try.func160 (res1 Try.func160 rfl (rv_tmp rfl)) <| ?_
                        rw [isReceiver_s]
                        simp_all []
                      · refine OF rfl rfl h11 rfl <| OF rfl rfl h11 rfl <| OF rfl rfl h11 rfl <| PF rfl rfl h11 rfl <| AS rfl rfl <| ND <| ret_cv Try.func160 (res1 Try.func160 rfl (rv_tmp rfl)) <| ?_
                        rw [isReceiver_s]
                        simp [isReceiverS, maxQuic, h1, h2, h3, h4, h5, h6, h7, h8, h10]
                    · refine SQ <| RG <| EQ1 rfl rfl rfl <| AS rfl rfl <| ND <| ?_
                      refine gw_cond rfl (fun h12 => ?_) (fun h12 => ?_)
                      · refine SQ <| RG <| FA rfl tyF_impl_Receiver_2 rfl <| LD (i := 0) rfl tyP_int rfl rfl rfl <| rw_neq rfl rfl rfl <| MV rfl rfl <| ?_
                        refine rw_case (j := 82) rfl (fun h13 => ?_) (fun h13 => ?_)
                        · replace h13 := of_not_T h13
                          refine ON rfl rfl (not_F h13) <| MV rfl rfl <| ON rfl rfl (not_F h13) <| NT rfl rfl <| PT rfl rfl (not_F h13) rfl <| MV rfl rfl <| ?_
                          refine rw_case (j := 86) rfl (fun h14 => ?_) (fun h14 => ?_)
                          · replace h14 := of_not_T h14
                            refine ON rfl rfl (not_F h14) <| FA rfl tyF_impl_Receiver_4 rfl <| ON rfl rfl (not_F h14) <| LD (i := 0) rfl tyP_int rfl rfl rfl <| ON rfl rfl (not_F h14) <| EQ1 rfl rfl rfl <| PT rfl rfl (not_F h14) rfl <| AS rfl rfl <| ND <| ret_cv Try.func160 (res1 Try.func160 rfl (rv_tmp rfl)) <| ?_
                            rw [isReceiver_s]
                            simp [isReceiverS, maxQuic, h1, h2, h3, h4, h5, h6, h7, h8, h10, h12, h14]
                          · replace h14 := of_not_F h14
                            refine OF rfl rfl (not_T h14) rfl <| OF rfl rfl (not_T h14) rfl <| OF rfl rfl (not_T h14) rfl <| PF rfl rfl (not_T h14) rfl <| AS rfl rfl <| ND <| ret_cv Try.func160 (res1 Try.func160 rfl (rv_tmp rfl)) <| ?_
                            rw [isReceiver_s]
                            simp [isReceiverS, maxQuic, h1, h2, h3, h4, h5, h6, h7, h8, h10, h12, h14]
                        · replace h13 := of_not_F h13
                          refine OF rfl rfl (not_T h13) rfl <| OF rfl rfl (not_T h13) rfl <| PF rfl rfl (not_T h13) rfl <| MV rfl rfl <| OF rfl rfl rfl rfl <| OF rfl rfl rfl rfl <| OF rfl rfl rfl rfl <| PF rfl rfl rfl rfl <| AS rfl rfl <| ND <| ret_cv Try.func160 (res1 Try.func160 rfl (rv_tmp rfl)) <| ?_
                          rw [isReceiver_s]
                          simp_all []
                      · refine SQ <| RG <| EQ1 rfl rfl rfl <| AS rfl rfl <| ND <| ?_
                        refine gw_cond rfl (fun h15 => ?_) (fun h15 => ?_)
                        · refine SQ <| RG <| MV rfl rfl <| MV rfl rfl <| ?_
                          refine rw_case (j := 94) rfl (fun h16 => ?_) (fun h16 => ?_)
                          · refine ON rfl rfl h16 <| FA rfl tyF_impl_Receiver_4 rfl <| ON rfl rfl h16 <| LD (i := 0) rfl tyP_int rfl rfl rfl <| ON rfl rfl h16 <| EQ1 rfl rfl rfl <| PT rfl rfl h16 rfl <| AS rfl rfl <| ND <| ret_cv Try.func160 (res1 Try.func160 rfl (rv_tmp rfl)) <| ?_
                            rw [isReceiver_s]
                            simp [isReceiverS, maxQuic, h1, h2, h3, h4, h5, h6, h7, h8, h10, h12, h15, h16]
                          · refine OF rfl rfl h16 rfl <| OF rfl rfl h16 rfl <| OF rfl rfl h16 rfl <| PF rfl rfl h16 rfl <| AS rfl rfl <| ND <| ret_cv Try.func160 (res1 Try.func160 rfl (rv_tmp rfl)) <| ?_
                            rw [isReceiver_s]
                            simp [isReceiverS, maxQuic, h1, h2, h3, h4, h5, h6, h7, h8, h10, h12, h15, h16]
                        · refine SQ <| RG <| EQ1 rfl rfl rfl <| AS rfl rfl <| ND <| ?_
                          refine gw_cond rfl (fun h17 => ?_) (fun h17 => ?_)
                          · refine SQ <| RG <| MV rfl rfl <| MV rfl rfl <| ?_
                            refine rw_case (j := 102) rfl (fun h18 => ?_) (fun h18 => ?_)
                            · refine ON rfl rfl h18 <| FA rfl tyF_impl_Receiver_1 rfl <| ON rfl rfl h18 <| FA rfl tyF_impl_Buffer_1 rfl <| ON rfl rfl h18 <| LD (i := 0) rfl tyP_S_impl_Chunk rfl rfl rfl <| ON rfl rfl h18 <| rw_len rfl tyE_S_impl_Chunk rfl <| ON rfl rfl h18 <| EQ1 rfl rfl rfl <| PT rfl rfl h18 rfl <| MV rfl rfl <| ?_
                              refine rw_case (j := 109) rfl (fun h19 => ?_) (fun h19 => ?_)
                              · have hnil1 := nil_of_eq h19
                                refine ON rfl rfl h19 <| FA rfl tyF_impl_Receiver_4 rfl <| ON rfl rfl h19 <| LD (i := 0) rfl tyP_int rfl rfl rfl <| ON rfl rfl h19 <| EQ1 rfl rfl rfl <| PT rfl rfl h19 rfl <| AS rfl rfl <| ND <| ret_cv Try.func160 (res1 Try.func160 rfl (rv_tmp rfl)) <| ?_
                                rw [isReceiver_s]
                                simp [isReceiverS, maxQuic, h1, h2, h3, h4, h5, h6, h7, h8, h10, h12, h15, h17, h18, h19]
                              · have hpos2 := pos_of_ne h19
                                refine OF rfl rfl h19 rfl <| OF rfl rfl h19 rfl <| OF rfl rfl h19 rfl <| PF rfl rfl h19 rfl <| AS rfl rfl <| ND <| ret_cv Try.func160 (res1 Try.func160 rfl (rv_tmp rfl)) <| ?_
                                rw [isReceiver_s]
                                simp [isReceiverS, maxQuic, h1, h2, h3, h4, h5, h6, h7, h8, h10, h12, h15, h17, h18, h19]
                            · refine OF rfl rfl h18 rfl <| OF rfl rfl h18 rfl <| OF rfl rfl h18 rfl <| OF rfl rfl h18 rfl <| OF rfl rfl h18 rfl <| PF rfl rfl h18 rfl <| MV rfl rfl <| OF rfl rfl rfl rfl <| OF rfl rfl rfl rfl <| OF rfl rfl rfl rfl <| PF rfl rfl rfl rfl <| AS rfl rfl <| ND <| ret_cv Try.func160 (res1 Try.func160 rfl (rv_tmp rfl)) <| ?_
                              rw [isReceiver_s]
                              simp [isReceiverS, maxQuic, h1, h2, h3, h4, h5, h6, h7, h8, h10, h12, h15, h17, h18]
                          · refine SQ <| SQ <| RG <| EQ1 rfl rfl rfl <| AS rfl rfl <| ND <| ?_
                            refine gw_cond rfl (fun h20 => ?_) (fun h20 => ?_)
                            · refine SK <| CT rfl h20 <| SQ <| RG <| FA rfl tyF_impl_Receiver_2 rfl <| LD (i := 0) rfl tyP_int rfl rfl rfl <| rw_neq rfl rfl rfl <| MV rfl rfl <| ?_
                              refine rw_case (j := 120) rfl (fun h21 => ?_) (fun h21 => ?_)
                              · replace h21 := of_not_T h21
                                refine ON rfl rfl (not_F h21) <| FA rfl tyF_impl_Receiver_3 rfl <| ON rfl rfl (not_F h21) <| LD (i := 0) rfl tyP_int rfl rfl rfl <| ON rfl rfl (not_F h21) <| FA rfl tyF_impl_Receiver_2 rfl <| ON rfl rfl (not_F h21) <| LD (i := 0) rfl tyP_int rfl rfl rfl <| ON rfl rfl (not_F h21) <| EQ1 rfl rfl rfl <| PT rfl rfl (not_F h21) rfl <| MV rfl rfl <| ?_
                                refine rw_case (j := 127) rfl (fun h22 => ?_) (fun h22 => ?_)
                                · refine ON rfl rfl h22 <| FA rfl tyF_impl_Receiver_1 rfl <| ON rfl rfl h22 <| FA rfl tyF_impl_Buffer_1 rfl <| ON rfl rfl h22 <| LD (i := 0) rfl tyP_S_impl_Chunk rfl rfl rfl <| ON rfl rfl h22 <| rw_len rfl tyE_S_impl_Chunk rfl <| ON rfl rfl h22 <| EQ1 rfl rfl rfl <| PT rfl rfl h22 rfl <| AS rfl rfl <| ND <| ret_cv Try.func160 (res1 Try.func160 rfl (rv_tmp rfl)) <| ?_
                                  rw [isReceiver_s]
                                  simp [isReceiverS, maxQuic, h1, h2, h3, h4, h5, h6, h7, h8, h10, h12, h15, h17, h20, h22]
                                · refine OF rfl rfl h22 rfl <| OF rfl rfl h22 rfl <| OF rfl rfl h22 rfl <| OF rfl rfl h22 rfl <| OF rfl rfl h22 rfl <| PF rfl rfl h22 rfl <| AS rfl rfl <| ND <| ret_cv Try.func160 (res1 Try.func160 rfl (rv_tmp rfl)) <| ?_
                                  rw [isReceiver_s]
                                  simp [isReceiverS, maxQuic, h1, h2, h3, h4, h5, h6, h7, h8, h10, h12, h15, h17, h20, h22]
                              · replace h21 := of_not_F h21
                                refine OF rfl rfl (not_T h21) rfl <| OF rfl rfl (not_T h21) rfl <| OF rfl rfl (not_T h21) rfl <| OF rfl rfl (not_T h21) rfl <| OF rfl rfl (not_T h21) rfl <| PF rfl rfl (not_T h21) rfl <| MV rfl rfl <| OF rfl rfl rfl rfl <| OF rfl rfl rfl rfl <| OF rfl rfl rfl rfl <| OF rfl rfl rfl rfl <| OF rfl rfl rfl rfl <| PF rfl rfl rfl rfl <| AS rfl rfl <| ND <| ret_cv Try.func160 (res1 Try.func160 rfl (rv_tmp rfl)) <| ?_
                                rw [isReceiver_s]
                                simp_all []
                            · refine RG <| EQ1 rfl rfl rfl <| AS rfl rfl <| ND <| ?_
                              refine gw_cond rfl (fun h23 => ?_) (fun h23 => ?_)
                              · refine SQ <| RG <| FA rfl tyF_impl_Receiver_2 rfl <| LD (i := 0) rfl tyP_int rfl rfl rfl <| rw_neq rfl rfl rfl <| MV rfl rfl <| ?_
                                refine rw_case (j := 120) rfl (fun h24 => ?_) (fun h24 => ?_)
                                · replace h24 := of_not_T h24
                                  refine ON rfl rfl (not_F h24) <| FA rfl tyF_impl_Receiver_3 rfl <| ON rfl rfl (not_F h24) <| LD (i := 0) rfl tyP_int rfl rfl rfl <| ON rfl rfl (not_F h24) <| FA rfl tyF_impl_Receiver_2 rfl <| ON rfl rfl (not_F h24) <| LD (i := 0) rfl tyP_int rfl rfl rfl <| ON rfl rfl (not_F h24) <| EQ1 rfl rfl rfl <| PT rfl rfl (not_F h24) rfl <| MV rfl rfl <| ?_
                                  refine rw_case (j := 127) rfl (fun h25 => ?_) (fun h25 => ?_)
                                  · refine ON rfl rfl h25 <| FA rfl tyF_impl_Receiver_1 rfl <| ON rfl rfl h25 <| FA rfl tyF_impl_Buffer_1 rfl <| ON rfl rfl h25 <| LD (i := 0) rfl tyP_S_impl_Chunk rfl rfl rfl <| ON rfl rfl h25 <| rw_len rfl tyE_S_impl_Chunk rfl <| ON rfl rfl h25 <| EQ1 rfl rfl rfl <| PT rfl rfl h25 rfl <| AS rfl rfl <| ND <| ret_cv Try.func160 (res1 Try.func160 rfl (rv_tmp rfl)) <| ?_
                                    rw [isReceiver_s]
                                    simp [isReceiverS, maxQuic, h1, h2, h3, h4, h5, h6, h7, h8, h10, h12, h15, h17, h20, h23, h25]
                                  · refine OF rfl rfl h25 rfl <| OF rfl rfl h25 rfl <| OF rfl rfl h25 rfl <| OF rfl rfl h25 rfl <| OF rfl rfl h25 rfl <| PF rfl rfl h25 rfl <| AS rfl rfl <| ND <| ret_cv Try.func160 (res1 Try.func160 rfl (rv_tmp rfl)) <| ?_
                                    rw [isReceiver_s]
                                    simp [isReceiverS, maxQuic, h1, h2, h3, h4, h5, h6, h7, h8, h10, h12, h15, h17, h20, h23, h25]
                                · replace h24 := of_not_F h24
                                  refine OF rfl rfl (not_T h24) rfl <| OF rfl rfl (not_T h24) rfl <| OF rfl rfl (not_T h24) rfl <| OF rfl rfl (not_T h24) rfl <| OF rfl rfl (not_T h24) rfl <| PF rfl rfl (not_T h24) rfl <| MV rfl rfl <| OF rfl rfl rfl rfl <| OF rfl rfl rfl rfl <| OF rfl rfl rfl rfl <| OF rfl rfl rfl rfl <| OF rfl rfl rfl rfl <| PF rfl rfl rfl rfl <| AS rfl rfl <| ND <| ret_cv Try.func160 (res1 Try.func160 rfl (rv_tmp rfl)) <| ?_
                                  rw [isReceiver_s]
                                  simp_all []
                              · refine SK <| IB <| SQ <| RG <| AS rfl rfl <| ND <| ret_cv Try.func160 (res1 Try.func160 rfl (rv_tmp rfl)) <| ?_
                                rw [isReceiver_s]
                                simp [isReceiverS, maxQuic, h1, h2, h3, h4, h5, h6, h7, h8, h10, h12, h15, h17, h20, h23]
                  · replace h9 := of_not_F h9
                    refine DT rfl rfl (fun K hk => OF rfl rfl (not_T h9) rfl hk) <| DT rfl rfl (fun K hk => OF rfl rfl (not_T h9) rfl hk) <| DT rfl rfl (fun K hk => OF rfl rfl (not_T h9) rfl hk) <| DT rfl rfl (fun K hk => OF rfl rfl (not_T h9) rfl hk) <| DT rfl rfl (fun K hk => OF rfl rfl (not_T h9) rfl hk) <| DT rfl rfl (fun K hk => OF rfl rfl (not_T h9) rfl hk) <| DT rfl rfl (fun K hk => OF rfl rfl (not_T h9) rfl hk) <| DT rfl rfl (fun K hk => OF rfl rfl (not_T h9) rfl hk) <| DT rfl rfl (fun K hk => OF rfl rfl (not_T h9) rfl hk) <| ?_
                    refine dw_nil <| OF rfl rfl (not_T h9) rfl <| PF rfl rfl (not_T h9) rfl <| AS rfl rfl <| ND <| SQ <| SQ <| RG <| FA rfl tyF_impl_Receiver_0 rfl <| LD (i := 0) rfl tyP_int rfl rfl rfl <| ND <| BK <| SQ <| RG <| EQ1 rfl rfl rfl <| AS rfl rfl <| ND <| ?_
                    refine gw_cond rfl (fun h26 => ?_) (fun h26 => ?_)
                    · refine SQ <| RG <| FA rfl tyF_impl_Receiver_2 rfl <| LD (i := 0) rfl tyP_int rfl rfl rfl <| EQ1 rfl rfl rfl <| MV rfl rfl <| ?_
                      refine rw_case (j := 72) rfl (fun h27 => ?_) (fun h27 => ?_)
                      · refine ON rfl rfl h27 <| FA rfl tyF_impl_Receiver_4 rfl <| ON rfl rfl h27 <| LD (i := 0) rfl tyP_int rfl rfl rfl <| ON rfl rfl h27 <| EQ1 rfl rfl rfl <| PT rfl rfl h27 rfl <| AS rfl rfl <| ND <| ret_cv Try.func160 (res1 Try.func160 rfl (rv_tmp rfl)) <| ?_
                        rw [isReceiver_s]
                        simp_all []
                      · refine OF rfl rfl h27 rfl <| OF rfl rfl h27 rfl <| OF rfl rfl h27 rfl <| PF rfl rfl h27 rfl <| AS rfl rfl <| ND <| ret_cv Try.func160 (res1 Try.func160 rfl (rv_tmp rfl)) <| ?_
                        rw [isReceiver_s]
                        simp [isReceiverS, maxQuic, h1, h2, h3, h4, h5, h6, h7, h8, h26]
                    · refine SQ <| RG <| EQ1 rfl rfl rfl <| AS rfl rfl <| ND <| ?_
                      refine gw_cond rfl (fun h28 => ?_) (fun h28 => ?_)
                      · refine SQ <| RG <| FA rfl tyF_impl_Receiver_2 rfl <| LD (i := 0) rfl tyP_int rfl rfl rfl <| rw_neq rfl rfl rfl <| MV rfl rfl <| ?_
                        refine rw_case (j := 82) rfl (fun h29 => ?_) (fun h29 => ?_)
                        · replace h29 := of_not_T h29
                          refine ON rfl rfl (not_F h29) <| MV rfl rfl <| ON rfl rfl (not_F h29) <| NT rfl rfl <| PT rfl rfl (not_F h29) rfl <| MV rfl rfl <| ON rfl rfl rfl <| FA rfl tyF_impl_Receiver_4 rfl <| ON rfl rfl rfl <| LD (i := 0) rfl tyP_int rfl rfl rfl <| ON rfl rfl rfl <| EQ1 rfl rfl rfl <| PT rfl rfl rfl rfl <| AS rfl rfl <| ND <| ret_cv Try.func160 (res1 Try.func160 rfl (rv_tmp rfl)) <| ?_
                          rw [isReceiver_s]
                          simp_all []
                        · replace h29 := of_not_F h29
                          refine OF rfl rfl (not_T h29) rfl <| OF rfl rfl (not_T h29) rfl <| PF rfl rfl (not_T h29) rfl <| MV rfl rfl <| OF rfl rfl rfl rfl <| OF rfl rfl rfl rfl <| OF rfl rfl rfl rfl <| PF rfl rfl rfl rfl <| AS rfl rfl <| ND <| ret_cv Try.func160 (res1 Try.func160 rfl (rv_tmp rfl)) <| ?_
                          rw [isReceiver_s]
                          simp_all []
                      · refine SQ <| RG <| EQ1 rfl rfl rfl <| AS rfl rfl <| ND <| ?_
                        refine gw_cond rfl (fun h30 => ?_) (fun h30 => ?_)
                        · refine SQ <| RG <| MV rfl rfl <| MV rfl rfl <| OF rfl rfl rfl rfl <| OF rfl rfl rfl rfl <| OF rfl rfl rfl rfl <| PF rfl rfl rfl rfl <| AS rfl rfl <| ND <| ret_cv Try.func160 (res1 Try.func160 rfl (rv_tmp rfl)) <| ?_
                          rw [isReceiver_s]
                          simp_all []
                        · refine SQ <| RG <| EQ1 rfl rfl rfl <| AS rfl rfl <| ND <| ?_
                          refine gw_cond rfl (fun h31 => ?_) (fun h31 => ?_)
                          · refine SQ <| RG <| MV rfl rfl <| MV rfl rfl <| OF rfl rfl rfl rfl <| OF rfl rfl rfl rfl <| OF rfl rfl rfl rfl <| OF rfl rfl rfl rfl <| OF rfl rfl rfl rfl <| PF rfl rfl rfl rfl <| MV rfl rfl <| OF rfl rfl rfl rfl <| OF rfl rfl rfl rfl <| OF rfl rfl rfl rfl <| PF rfl rfl rfl rfl <| AS rfl rfl <| ND <| ret_cv Try.func160 (res1 Try.func160 rfl (rv_tmp rfl)) <| ?_
                            rw [isReceiver_s]
                            simp_all []
                          · refine SQ <| SQ <| RG <| EQ1 rfl rfl rfl <| AS rfl rfl <| ND <| ?_
                            refine gw_cond rfl (fun h32 => ?_) (fun h32 => ?_)
                            · refine SK <| CT rfl h32 <| SQ <| RG <| FA rfl tyF_impl_Receiver_2 rfl <| LD (i := 0) rfl tyP_int rfl rfl rfl <| rw_neq rfl rfl rfl <| MV rfl rfl <| ?_
                              refine rw_case (j := 120) rfl (fun h33 => ?_) (fun h33 => ?_)
                              · replace h33 := of_not_T h33
                                refine ON rfl rfl (not_F h33) <| FA rfl tyF_impl_Receiver_3 rfl <| ON rfl rfl (not_F h33) <| LD (i := 0) rfl tyP_int rfl rfl rfl <| ON rfl rfl (not_F h33) <| FA rfl tyF_impl_Receiver_2 rfl <| ON rfl rfl (not_F h33) <| LD (i := 0) rfl tyP_int rfl rfl rfl <| ON rfl rfl (not_F h33) <| EQ1 rfl rfl rfl <| PT rfl rfl (not_F h33) rfl <| MV rfl rfl <| ?_
                                refine rw_case (j := 127) rfl (fun h34 => ?_) (fun h34 => ?_)
                                · refine ON rfl rfl h34 <| FA rfl tyF_impl_Receiver_1 rfl <| ON rfl rfl h34 <| FA rfl tyF_impl_Buffer_1 rfl <| ON rfl rfl h34 <| LD (i := 0) rfl tyP_S_impl_Chunk rfl rfl rfl <| ON rfl rfl h34 <| rw_len rfl tyE_S_impl_Chunk rfl <| ON rfl rfl h34 <| EQ1 rfl rfl rfl <| PT rfl rfl h34 rfl <| AS rfl rfl <| ND <| ret_cv Try.func160 (res1 Try.func160 rfl (rv_tmp rfl)) <| ?_
                                  rw [isReceiver_s]
                                  simp [isReceiverS, maxQuic, h1, h2, h3, h4, h5, h6, h7, h8, h26, h28, h30, h31, h32, h34]
                                · refine OF rfl rfl h34 rfl <| OF rfl rfl h34 rfl <| OF rfl rfl h34 rfl <| OF rfl rfl h34 rfl <| OF rfl rfl h34 rfl <| PF rfl rfl h34 rfl <| AS rfl rfl <| ND <| ret_cv Try.func160 (res1 Try.func160 rfl (rv_tmp rfl)) <| ?_
                                  rw [isReceiver_s]
                                  simp [isReceiverS, maxQuic, h1, h2, h3, h4, h5, h6, h7, h8, h26, h28, h30, h31, h32, h34]
                              · replace h33 := of_not_F h33
                                refine OF rfl rfl (not_T h33) rfl <| OF rfl rfl (not_T h33) rfl <| OF rfl rfl (not_T h33) rfl <| OF rfl rfl (not_T h33) rfl <| OF rfl rfl (not_T h33) rfl <| PF rfl rfl (not_T h33) rfl <| MV rfl rfl <| OF rfl rfl rfl rfl <| OF rfl rfl rfl rfl <| OF rfl rfl rfl rfl <| OF rfl rfl rfl rfl <| OF rfl rfl rfl rfl <| PF rfl rfl rfl rfl <| AS rfl rfl <| ND <| ret_cv Try.func160 (res1 Try.func160 rfl (rv_tmp rfl)) <| ?_
                                rw [isReceiver_s]
                                simp_all []
                            · refine RG <| EQ1 rfl rfl rfl <| AS rfl rfl <| ND <| ?_
                              refine gw_cond rfl (fun h35 => ?_) (fun h35 => ?_)
                              · refine SQ <| RG <| FA rfl tyF_impl_Receiver_2 rfl <| LD (i := 0) rfl tyP_int rfl rfl rfl <| rw_neq rfl rfl rfl <| MV rfl rfl <| ?_
                                refine rw_case (j := 120) rfl (fun h36 => ?_) (fun h36 => ?_)
                                · replace h36 := of_not_T h36
                                  refine ON rfl rfl (not_F h36) <| FA rfl tyF_impl_Receiver_3 rfl <| ON rfl rfl (not_F h36) <| LD (i := 0) rfl tyP_int rfl rfl rfl <| ON rfl rfl (not_F h36) <| FA rfl tyF_impl_Receiver_2 rfl <| ON rfl rfl (not_F h36) <| LD (i := 0) rfl tyP_int rfl rfl rfl <| ON rfl rfl (not_F h36) <| EQ1 rfl rfl rfl <| PT rfl rfl (not_F h36) rfl <| MV rfl rfl <| ?_
                                  refine rw_case (j := 127) rfl (fun h37 => ?_) (fun h37 => ?_)
                                  · refine ON rfl rfl h37 <| FA rfl tyF_impl_Receiver_1 rfl <| ON rfl rfl h37 <| FA rfl tyF_impl_Buffer_1 rfl <| ON rfl rfl h37 <| LD (i := 0) rfl tyP_S_impl_Chunk rfl rfl rfl <| ON rfl rfl h37 <| rw_len rfl tyE_S_impl_Chunk rfl <| ON rfl rfl h37 <| EQ1 rfl rfl rfl <| PT rfl rfl h37 rfl <| AS rfl rfl <| ND <| ret_cv Try.func160 (res1 Try.func160 rfl (rv_tmp rfl)) <| ?_
                                    rw [isReceiver_s]
                                    simp [isReceiverS, maxQuic, h1, h2, h3, h4, h5, h6, h7, h8, h26, h28, h30, h31, h32, h35, h37]
                                  · refine OF rfl rfl h37 rfl <| OF rfl rfl h37 rfl <| OF rfl rfl h37 rfl <| OF rfl rfl h37 rfl <| OF rfl rfl h37 rfl <| PF rfl rfl h37 rfl <| AS rfl rfl <| ND <| ret_cv Try.func160 (res1 Try.func160 rfl (rv_tmp rfl)) <| ?_
                                    rw [isReceiver_s]
                                    simp [isReceiverS, maxQuic, h1, h2, h3, h4, h5, h6, h7, h8, h26, h28, h30, h31, h32, h35, h37]
                                · replace h36 := of_not_F h36
                                  refine OF rfl rfl (not_T h36) rfl <| OF rfl rfl (not_T h36) rfl <| OF rfl rfl (not_T h36) rfl <| OF rfl rfl (not_T h36) rfl <| OF rfl rfl (not_T h36) rfl <| PF rfl rfl (not_T h36) rfl <| MV rfl rfl <| OF rfl rfl rfl rfl <| OF rfl rfl rfl rfl <| OF rfl rfl rfl rfl <| OF rfl rfl rfl rfl <| OF rfl rfl rfl rfl <| PF rfl rfl rfl rfl <| AS rfl rfl <| ND <| ret_cv Try.func160 (res1 Try.func160 rfl (rv_tmp rfl)) <| ?_
                                  rw [isReceiver_s]
                                  simp_all []
                              · refine SK <| IB <| SQ <| RG <| AS rfl rfl <| ND <| ret_cv Try.func160 (res1 Try.func160 rfl (rv_tmp rfl)) <| ?_
                                rw [isReceiver_s]
                                simp [isReceiverS, maxQuic, h1, h2, h3, h4, h5, h6, h7, h8, h26, h28, h30, h31, h32, h35]
          · replace h5 := of_not_F h5
            refine DT rfl rfl (fun K hk => OF rfl rfl (not_T h5) rfl hk) <| DT rfl rfl (fun K hk => OF rfl rfl (not_T h5) rfl hk) <| DT rfl rfl (fun K hk => OF rfl rfl (not_T h5) rfl hk) <| DT rfl rfl (fun K hk => OF rfl rfl (not_T h5) rfl hk) <| dw_nil <| OF rfl rfl (not_T h5) rfl <| ON rfl rfl (not_T h4) <| PF rfl rfl (not_T h5) rfl <| PF rfl rfl (not_T h4) rfl <| MV rfl rfl <| ON rfl rfl rfl <| FA rfl tyF_impl_Receiver_2 rfl <| ON rfl rfl rfl <| LD (i := 0) rfl tyP_int rfl rfl rfl <| ?_
            refine ON rfl rfl rfl <| rw_gtr rfl rfl rfl <| PF rfl rfl rfl rfl <| MV rfl rfl <| ?_
            refine rw_case (j := 45) rfl (fun h38 => ?_) (fun h38 => ?_)
            · refine OF rfl rfl h38 rfl <| OF rfl rfl h38 rfl <| OF rfl rfl h38 rfl <| PT rfl rfl h38 rfl <| ND <| CT rfl rfl <| SQ <| RG <| AS rfl rfl <| ND <| ret_cv Try.func160 (res1 Try.func160 rfl (rv_tmp rfl)) <| ?_
              rw [isReceiver_s]
              simp [isReceiverS, maxQuic, h1, h2, h3, h4, h5, h38]
            · refine ON rfl rfl h38 <| FA rfl tyF_impl_Receiver_2 rfl <| ON rfl rfl h38 <| LD (i := 0) rfl tyP_int rfl rfl rfl <| ON rfl rfl h38 <| rw_lss rfl rfl rfl <| PF rfl rfl h38 rfl <| ND <| ?_
              refine gw_cond rfl (fun h39 => ?_) (fun h39 => ?_)
              · refine SQ <| RG <| AS rfl rfl <| ND <| ret_cv Try.func160 (res1 Try.func160 rfl (rv_tmp rfl)) <| ?_
                rw [isReceiver_s]
                simp [isReceiverS, maxQuic, h1, h2, h3, h4, h5, h38, h39]
              · refine SK <| SQ <| gw_draw' [(0, .det), (1, .det), (2, .det), (3, .det), (4, .det), (5, .det), (6, .det), (7, .det), (8, .det), (9, .det), (10, .det), (11, .det), (12, .det)] [13, 14, 15] mixed rfl (free_det (free_det (free_det (free_det (free_det (free_det (free_det (free_det (free_det (free_det (free_det (free_det (free_det free_nil))))))))))))) (ts := [_, _, _]) rfl <| DT rfl rfl (fun K hk => FA rfl tyF_impl_Receiver_2 rfl hk) <| DT rfl rfl (fun K hk => LD (i := 0) rfl tyP_int rfl rfl rfl hk) <| DT rfl rfl (fun K hk => rw_neq rfl rfl rfl hk) <| DT rfl rfl (fun K hk => MV rfl rfl hk) <| ?_
                refine dw_case (i := 53) rfl (fun h40 => ?_) (fun h40 => ?_)
                · replace h40 := of_not_T h40
                  refine DT rfl rfl (fun K hk => ON rfl rfl (not_F h40) (FA rfl tyF_impl_Receiver_1 rfl hk)) <| DT rfl rfl (fun K hk => ON rfl rfl (not_F h40) (FA rfl tyF_impl_Buffer_0 rfl hk)) <| DT rfl rfl (fun K hk => ON rfl rfl (not_F h40) (LD (i := 0) rfl tyP_int rfl rfl rfl hk)) <| DT rfl rfl (fun K hk => ON rfl rfl (not_F h40) (FA rfl tyF_impl_Receiver_1 rfl hk)) <| DT rfl rfl (fun K hk => ON rfl rfl (not_F h40) (LS (i := 0) [_, _] rfl tyS_impl_Buffer rfl rfl rfl rfl hk)) <| ?_
                  refine DT rfl rfl (fun K hk => ON rfl rfl (not_F h40) (CV1 rfl fun_spec_ReadyBytes rfl (fun w hs => spec_ReadyBytes ⟨_, rfl, (hA0.s Pl.keeps hs)⟩ ⟨hb0, hb1⟩) hk)) <| DT rfl rfl (fun K hk => ON rfl rfl (not_F h40) (rw_add rfl rfl rfl hk)) <| DT rfl rfl (fun K hk => ON rfl rfl (not_F h40) (FA rfl tyF_impl_Receiver_2 rfl hk)) <| DT rfl rfl (fun K hk => ON rfl rfl (not_F h40) (LD (i := 0) rfl tyP_int rfl rfl rfl hk)) <| dw_nil <| ON rfl rfl (not_F h40) <| EQ1 rfl rfl rfl <| PT rfl rfl (not_F h40) rfl <| ?_
                  refine AS rfl rfl <| ND <| SQ <| SQ <| RG <| FA rfl tyF_impl_Receiver_0 rfl <| LD (i := 0) rfl tyP_int rfl rfl rfl <| ND <| BK <| SQ <| RG <| EQ1 rfl rfl rfl <| AS rfl rfl <| ND <| ?_
                  refine gw_cond rfl (fun h41 => ?_) (fun h41 => ?_)
                  · refine SQ <| RG <| FA rfl tyF_impl_Receiver_2 rfl <| LD (i := 0) rfl tyP_int rfl rfl rfl <| EQ1 rfl rfl rfl <| MV rfl rfl <| ?_
                    refine rw_case (j := 72) rfl (fun h42 => ?_) (fun h42 => ?_)
                    · refine ON rfl rfl h42 <| FA rfl tyF_impl_Receiver_4 rfl <| ON rfl rfl h42 <| LD (i := 0) rfl tyP_int rfl rfl rfl <| ON rfl rfl h42 <| EQ1 rfl rfl rfl <| PT rfl rfl h42 rfl <| AS rfl rfl <| ND <| ret_cv Try.func160 (res1 Try.func160 rfl (rv_tmp rfl)) <| ?_
                      rw [isReceiver_s]
                      simp [isReceiverS, maxQuic, h1, h2, h3, h4, h5, h38, h39, h41]
                    · refine OF rfl rfl h42 rfl <| OF rfl rfl h42 rfl <| OF rfl rfl h42 rfl <| PF rfl rfl h42 rfl <| AS rfl rfl <| ND <| ret_cv Try.func160 (res1 Try.func160 rfl (rv_tmp rfl)) <| ?_
                      rw [isReceiver_s]
                      simp_all []
                  · refine SQ <| RG <| EQ1 rfl rfl rfl <| AS rfl rfl <| ND <| ?_
                    refine gw_cond rfl (fun h43 => ?_) (fun h43 => ?_)
                    · refine SQ <| RG <| FA rfl tyF_impl_Receiver_2 rfl <| LD (i := 0) rfl tyP_int rfl rfl rfl <| rw_neq rfl rfl rfl <| MV rfl rfl <| ?_
                      refine rw_case (j := 82) rfl (fun h44 => ?_) (fun h44 => ?_)
                      · replace h44 := of_not_T h44
                        refine ON rfl rfl (not_F h44) <| MV rfl rfl <| ON rfl rfl (not_F h44) <| NT rfl rfl <| PT rfl rfl (not_F h44) rfl <| MV rfl rfl <| ?_
                        refine rw_case (j := 86) rfl (fun h45 => ?_) (fun h45 => ?_)
                        · replace h45 := of_not_T h45
                          refine ON rfl rfl (not_F h45) <| FA rfl tyF_impl_Receiver_4 rfl <| ON rfl rfl (not_F h45) <| LD (i := 0) rfl tyP_int rfl rfl rfl <| ON rfl rfl (not_F h45) <| EQ1 rfl rfl rfl <| PT rfl rfl (not_F h45) rfl <| AS rfl rfl <| ND <| ret_cv Try.func160 (res1 Try.func160 rfl (rv_tmp rfl)) <| ?_
                          rw [isReceiver_s]
                          simp_all []
                        · replace h45 := of_not_F h45
                          refine OF rfl rfl (not_T h45) rfl <| OF rfl rfl (not_T h45) rfl <| OF rfl rfl (not_T h45) rfl <| PF rfl rfl (not_T h45) rfl <| AS rfl rfl <| ND <| ret_cv Try.func160 (res1 Try.func160 rfl (rv_tmp rfl)) <| ?_
                          rw [isReceiver_s]
                          simp [isReceiverS, maxQuic, h1, h2, h3, h4, h5, h38, h39, h41, h43, h45]
                      · replace h44 := of_not_F h44
                        refine OF rfl rfl (not_T h44) rfl <| OF rfl rfl (not_T h44) rfl <| PF rfl rfl (not_T h44) rfl <| MV rfl rfl <| OF rfl rfl rfl rfl <| OF rfl rfl rfl rfl <| OF rfl rfl rfl rfl <| PF rfl rfl rfl rfl <| AS rfl rfl <| ND <| ret_cv Try.func160 (res1 Try.func160 rfl (rv_tmp rfl)) <| ?_
                        rw [isReceiver_s]
                        simp [isReceiverS, maxQuic, h1, h2, h3, h4, h5, h38, h39, h41, h43]
                    · refine SQ <| RG <| EQ1 rfl rfl rfl <| AS rfl rfl <| ND <| ?_
                      refine gw_cond rfl (fun h46 => ?_) (fun h46 => ?_)
                      · refine SQ <| RG <| MV rfl rfl <| MV rfl rfl <| ?_
                        refine rw_case (j := 94) rfl (fun h47 => ?_) (fun h47 => ?_)
                        · refine ON rfl rfl h47 <| FA rfl tyF_impl_Receiver_4 rfl <| ON rfl rfl h47 <| LD (i := 0) rfl tyP_int rfl rfl rfl <| ON rfl rfl h47 <| EQ1 rfl rfl rfl <| PT rfl rfl h47 rfl <| AS rfl rfl <| ND <| ret_cv Try.func160 (res1 Try.func160 rfl (rv_tmp rfl)) <| ?_
                          rw [isReceiver_s]
                          simp_all []
                        · refine OF rfl rfl h47 rfl <| OF rfl rfl h47 rfl <| OF rfl rfl h47 rfl <| PF rfl rfl h47 rfl <| AS rfl rfl <| ND <| ret_cv Try.func160 (res1 Try.func160 rfl (rv_tmp rfl)) <| ?_
                          rw [isReceiver_s]
                          simp [isReceiverS, maxQuic, h1, h2, h3, h4, h5, h38, h39, h41, h43, h46, h47]
                      · refine SQ <| RG <| EQ1 rfl rfl rfl <| AS rfl rfl <| ND <| ?_
                        refine gw_cond rfl (fun h48 => ?_) (fun h48 => ?_)
                        · refine SQ <| RG <| MV rfl rfl <| MV rfl rfl <| ?_
                          refine rw_case (j := 102) rfl (fun h49 => ?_) (fun h49 => ?_)
                          · refine ON rfl rfl h49 <| FA rfl tyF_impl_Receiver_1 rfl <| ON rfl rfl h49 <| FA rfl tyF_impl_Buffer_1 rfl <| ON rfl rfl h49 <| LD (i := 0) rfl tyP_S_impl_Chunk rfl rfl rfl <| ON rfl rfl h49 <| rw_len rfl tyE_S_impl_Chunk rfl <| ON rfl rfl h49 <| EQ1 rfl rfl rfl <| PT rfl rfl h49 rfl <| MV rfl rfl <| ?_
                            refine rw_case (j := 109) rfl (fun h50 => ?_) (fun h50 => ?_)
                            · have hnil3 := nil_of_eq h50
                              refine ON rfl rfl h50 <| FA rfl tyF_impl_Receiver_4 rfl <| ON rfl rfl h50 <| LD (i := 0) rfl tyP_int rfl rfl rfl <| ON rfl rfl h50 <| EQ1 rfl rfl rfl <| PT rfl rfl h50 rfl <| AS rfl rfl <| ND <| ret_cv Try.func160 (res1 Try.func160 rfl (rv_tmp rfl)) <| ?_
                              rw [isReceiver_s]
                              simp_all []
                            · have hpos4 := pos_of_ne h50
                              refine OF rfl rfl h50 rfl <| OF rfl rfl h50 rfl <| OF rfl rfl h50 rfl <| PF rfl rfl h50 rfl <| AS rfl rfl <| ND <| ret_cv Try.func160 (res1 Try.func160 rfl (rv_tmp rfl)) <| ?_
                              rw [isReceiver_s]
                              simp [isReceiverS, maxQuic, h1, h2, h3, h4, h5, h38, h39, h41, h43, h46, h48, h49, h50]
                          · refine OF rfl rfl h49 rfl <| OF rfl rfl h49 rfl <| OF rfl rfl h49 rfl <| OF rfl rfl h49 rfl <| OF rfl rfl h49 rfl <| PF rfl rfl h49 rfl <| MV rfl rfl <| OF rfl rfl rfl rfl <| OF rfl rfl rfl rfl <| OF rfl rfl rfl rfl <| PF rfl rfl rfl rfl <| AS rfl rfl <| ND <| ret_cv Try.func160 (res1 Try.func160 rfl (rv_tmp rfl)) <| ?_
                            rw [isReceiver_s]
                            simp [isReceiverS, maxQuic, h1, h2, h3, h4, h5, h38, h39, h41, h43, h46, h48, h49]
                        · refine SQ <| SQ <| RG <| EQ1 rfl rfl rfl <| AS rfl rfl <| ND <| ?_
                          refine gw_cond rfl (fun h51 => ?_) (fun h51 => ?_)
                          · refine SK <| CT rfl h51 <| SQ <| RG <| FA rfl tyF_impl_Receiver_2 rfl <| LD (i := 0) rfl tyP_int rfl rfl rfl <| rw_neq rfl rfl rfl <| MV rfl rfl <| ?_
                            refine rw_case (j := 120) rfl (fun h52 => ?_) (fun h52 => ?_)
                            · replace h52 := of_not_T h52
                              refine ON rfl rfl (not_F h52) <| FA rfl tyF_impl_Receiver_3 rfl <| ON rfl rfl (not_F h52) <| LD (i := 0) rfl tyP_int rfl rfl rfl <| ON rfl rfl (not_F h52) <| FA rfl tyF_impl_Receiver_2 rfl <| ON rfl rfl (not_F h52) <| LD (i := 0) rfl tyP_int rfl rfl rfl <| ON rfl rfl (not_F h52) <| EQ1 rfl rfl rfl <| PT rfl rfl (not_F h52) rfl <| MV rfl rfl <| ?_
                              refine rw_case (j := 127) rfl (fun h53 => ?_) (fun h53 => ?_)
                              · refine ON rfl rfl h53 <| FA rfl tyF_impl_Receiver_1 rfl <| ON rfl rfl h53 <| FA rfl tyF_impl_Buffer_1 rfl <| ON rfl rfl h53 <| LD (i := 0) rfl tyP_S_impl_Chunk rfl rfl rfl <| ON rfl rfl h53 <| rw_len rfl tyE_S_impl_Chunk rfl <| ON rfl rfl h53 <| EQ1 rfl rfl rfl <| PT rfl rfl h53 rfl <| AS rfl rfl <| ND <| ret_cv Try.func160 (res1 Try.func160 rfl (rv_tmp rfl)) <| ?_
                                rw [isReceiver_s]
                                simp_all []
                              · refine OF rfl rfl h53 rfl <| OF rfl rfl h53 rfl <| OF rfl rfl h53 rfl <| OF rfl rfl h53 rfl <| OF rfl rfl h53 rfl <| PF rfl rfl h53 rfl <| AS rfl rfl <| ND <| ret_cv Try.func160 (res1 Try.func160 rfl (rv_tmp rfl)) <| ?_
                                rw [isReceiver_s]
                                simp [isReceiverS, maxQuic, h1, h2, h3, h4, h5, h38, h39, h41, h43, h46, h48, h51, h53]
                            · replace h52 := of_not_F h52
                              refine OF rfl rfl (not_T h52) rfl <| OF rfl rfl (not_T h52) rfl <| OF rfl rfl (not_T h52) rfl <| OF rfl rfl (not_T h52) rfl <| OF rfl rfl (not_T h52) rfl <| PF rfl rfl (not_T h52) rfl <| MV rfl rfl <| OF rfl rfl rfl rfl <| OF rfl rfl rfl rfl <| OF rfl rfl rfl rfl <| OF rfl rfl rfl rfl <| OF rfl rfl rfl rfl <| PF rfl rfl rfl rfl <| AS rfl rfl <| ND <| ret_cv Try.func160 (res1 Try.func160 rfl (rv_tmp rfl)) <| ?_
                              rw [isReceiver_s]
                              simp [isReceiverS, maxQuic, h1, h2, h3, h4, h5, h38, h39, h41, h43, h46, h48, h51]
                          · refine RG <| EQ1 rfl rfl rfl <| AS rfl rfl <| ND <| ?_
                            refine gw_cond rfl (fun h54 => ?_) (fun h54 => ?_)
                            · refine SQ <| RG <| FA rfl tyF_impl_Receiver_2 rfl <| LD (i := 0) rfl tyP_int rfl rfl rfl <| rw_neq rfl rfl rfl <| MV rfl rfl <| ?_
                              refine rw_case (j := 120) rfl (fun h55 => ?_) (fun h55 => ?_)
                              · replace h55 := of_not_T h55
                                refine ON rfl rfl (not_F h55) <| FA rfl tyF_impl_Receiver_3 rfl <| ON rfl rfl (not_F h55) <| LD (i := 0) rfl tyP_int rfl rfl rfl <| ON rfl rfl (not_F h55) <| FA rfl tyF_impl_Receiver_2 rfl <| ON rfl rfl (not_F h55) <| LD (i := 0) rfl tyP_int rfl rfl rfl <| ON rfl rfl (not_F h55) <| EQ1 rfl rfl rfl <| PT rfl rfl (not_F h55) rfl <| MV rfl rfl <| ?_
                                refine rw_case (j := 127) rfl (fun h56 => ?_) (fun h56 => ?_)
                                · refine ON rfl rfl h56 <| FA rfl tyF_impl_Receiver_1 rfl <| ON rfl rfl h56 <| FA rfl tyF_impl_Buffer_1 rfl <| ON rfl rfl h56 <| LD (i := 0) rfl tyP_S_impl_Chunk rfl rfl rfl <| ON rfl rfl h56 <| rw_len rfl tyE_S_impl_Chunk rfl <| ON rfl rfl h56 <| EQ1 rfl rfl rfl <| PT rfl rfl h56 rfl <| AS rfl rfl <| ND <| ret_cv Try.func160 (res1 Try.func160 rfl (rv_tmp rfl)) <| ?_
                                  rw [isReceiver_s]
                                  simp_all []
                                · refine OF rfl rfl h56 rfl <| OF rfl rfl h56 rfl <| OF rfl rfl h56 rfl <| OF rfl rfl h56 rfl <| OF rfl rfl h56 rfl <| PF rfl rfl h56 rfl <| AS rfl rfl <| ND <| ret_cv Try.func160 (res1 Try.func160 rfl (rv_tmp rfl)) <| ?_
                                  rw [isReceiver_s]
                                  simp [isReceiverS, maxQuic, h1, h2, h3, h4, h5, h38, h39, h41, h43, h46, h48, h51, h54, h56]
                              · replace h55 := of_not_F h55
                                refine OF rfl rfl (not_T h55) rfl <| OF rfl rfl (not_T h55) rfl <| OF rfl rfl (not_T h55) rfl <| OF rfl rfl (not_T h55) rfl <| OF rfl rfl (not_T h55) rfl <| PF rfl rfl (not_T h55) rfl <| MV rfl rfl <| OF rfl rfl rfl rfl <| OF rfl rfl rfl rfl <| OF rfl rfl rfl rfl <| OF rfl rfl rfl rfl <| OF rfl rfl rfl rfl <| PF rfl rfl rfl rfl <| AS rfl rfl <| ND <| ret_cv Try.func160 (res1 Try.func160 rfl (rv_tmp rfl)) <| ?_
                                rw [isReceiver_s]
                                simp [isReceiverS, maxQuic, h1, h2, h3, h4, h5, h38, h39, h41, h43, h46, h48, h51, h54]
                            · refine SK <| IB <| SQ <| RG <| AS rfl rfl <| ND <| ret_cv Try.func160 (res1 Try.func160 rfl (rv_tmp rfl)) <| ?_
                              rw [isReceiver_s]
                              simp [isReceiverS, maxQuic, h1, h2, h3, h4, h5, h38, h39, h41, h43, h46, h48, h51, h54]
                · replace h40 := of_not_F h40
                  refine DT rfl rfl (fun K hk => OF rfl rfl (not_T h40) rfl hk) <| DT rfl rfl (fun K hk => OF rfl rfl (not_T h40) rfl hk) <| DT rfl rfl (fun K hk => OF rfl rfl (not_T h40) rfl hk) <| DT rfl rfl (fun K hk => OF rfl rfl (not_T h40) rfl hk) <| DT rfl rfl (fun K hk => OF rfl rfl (not_T h40) rfl hk) <| DT rfl rfl (fun K hk => OF rfl rfl (not_T h40) rfl hk) <| DT rfl rfl (fun K hk => OF rfl rfl (not_T h40) rfl hk) <| DT rfl rfl (fun K hk => OF rfl rfl (not_T h40) rfl hk) <| DT rfl rfl (fun K hk => OF rfl rfl (not_T h40) rfl hk) <| ?_
                  refine dw_nil <| OF rfl rfl (not_T h40) rfl <| PF rfl rfl (not_T h40) rfl <| AS rfl rfl <| ND <| SQ <| SQ <| RG <| FA rfl tyF_impl_Receiver_0 rfl <| LD (i := 0) rfl tyP_int rfl rfl rfl <| ND <| BK <| SQ <| RG <| EQ1 rfl rfl rfl <| AS rfl rfl <| ND <| ?_
                  refine gw_cond rfl (fun h57 => ?_) (fun h57 => ?_)
                  · refine SQ <| RG <| FA rfl tyF_impl_Receiver_2 rfl <| LD (i := 0) rfl tyP_int rfl rfl rfl <| EQ1 rfl rfl rfl <| MV rfl rfl <| ?_
                    refine rw_case (j := 72) rfl (fun h58 => ?_) (fun h58 => ?_)
                    · refine ON rfl rfl h58 <| FA rfl tyF_impl_Receiver_4 rfl <| ON rfl rfl h58 <| LD (i := 0) rfl tyP_int rfl rfl rfl <| ON rfl rfl h58 <| EQ1 rfl rfl rfl <| PT rfl rfl h58 rfl <| AS rfl rfl <| ND <| ret_cv Try.func160 (res1 Try.func160 rfl (rv_tmp rfl)) <| ?_
                      rw [isReceiver_s]
                      simp [isReceiverS, maxQuic, h1, h2, h3, h4, h5, h38, h39, h57]
                    · refine OF rfl rfl h58 rfl <| OF rfl rfl h58 rfl <| OF rfl rfl h58 rfl <| PF rfl rfl h58 rfl <| AS rfl rfl <| ND <| ret_cv Try.func160 (res1 Try.func160 rfl (rv_tmp rfl)) <| ?_
                      rw [isReceiver_s]
                      simp_all []
                  · refine SQ <| RG <| EQ1 rfl rfl rfl <| AS rfl rfl <| ND <| ?_
                    refine gw_cond rfl (fun h59 => ?_) (fun h59 => ?_)
                    · refine SQ <| RG <| FA rfl tyF_impl_Receiver_2 rfl <| LD (i := 0) rfl tyP_int rfl rfl rfl <| rw_neq rfl rfl rfl <| MV rfl rfl <| ?_
                      refine rw_case (j := 82) rfl (fun h60 => ?_) (fun h60 => ?_)
                      · replace h60 := of_not_T h60
                        refine ON rfl rfl (not_F h60) <| MV rfl rfl <| ON rfl rfl (not_F h60) <| NT rfl rfl <| PT rfl rfl (not_F h60) rfl <| MV rfl rfl <| ON rfl rfl rfl <| FA rfl tyF_impl_Receiver_4 rfl <| ON rfl rfl rfl <| LD (i := 0) rfl tyP_int rfl rfl rfl <| ON rfl rfl rfl <| EQ1 rfl rfl rfl <| PT rfl rfl rfl rfl <| AS rfl rfl <| ND <| ret_cv Try.func160 (res1 Try.func160 rfl (rv_tmp rfl)) <| ?_
                        rw [isReceiver_s]
                        simp_all []
                      · replace h60 := of_not_F h60
                        refine OF rfl rfl (not_T h60) rfl <| OF rfl rfl (not_T h60) rfl <| PF rfl rfl (not_T h60) rfl <| MV rfl rfl <| OF rfl rfl rfl rfl <| OF rfl rfl rfl rfl <| OF rfl rfl rfl rfl <| PF rfl rfl rfl rfl <| AS rfl rfl <| ND <| ret_cv Try.func160 (res1 Try.func160 rfl (rv_tmp rfl)) <| ?_
                        rw [isReceiver_s]
                        simp [isReceiverS, maxQuic, h1, h2, h3, h4, h5, h38, h39, h57, h59]
                    · refine SQ <| RG <| EQ1 rfl rfl rfl <| AS rfl rfl <| ND <| ?_
                      refine gw_cond rfl (fun h61 => ?_) (fun h61 => ?_)
                      · refine SQ <| RG <| MV rfl rfl <| MV rfl rfl <| OF rfl rfl rfl rfl <| OF rfl rfl rfl rfl <| OF rfl rfl rfl rfl <| PF rfl rfl rfl rfl <| AS rfl rfl <| ND <| ret_cv Try.func160 (res1 Try.func160 rfl (rv_tmp rfl)) <| ?_
                        rw [isReceiver_s]
                        simp [isReceiverS, maxQuic, h1, h2, h3, h4, h5, h38, h39, h57, h59, h61]
                      · refine SQ <| RG <| EQ1 rfl rfl rfl <| AS rfl rfl <| ND <| ?_
                        refine gw_cond rfl (fun h62 => ?_) (fun h62 => ?_)
                        · refine SQ <| RG <| MV rfl rfl <| MV rfl rfl <| OF rfl rfl rfl rfl <| OF rfl rfl rfl rfl <| OF rfl rfl rfl rfl <| OF rfl rfl rfl rfl <| OF rfl rfl rfl rfl <| PF rfl rfl rfl rfl <| MV rfl rfl <| OF rfl rfl rfl rfl <| OF rfl rfl rfl rfl <| OF rfl rfl rfl rfl <| PF rfl rfl rfl rfl <| AS rfl rfl <| ND <| ret_cv Try.func160 (res1 Try.func160 rfl (rv_tmp rfl)) <| ?_
                          rw [isReceiver_s]
                          simp [isReceiverS, maxQuic, h1, h2, h3, h4, h5, h38, h39, h57, h59, h61, h62]
                        · refine SQ <| SQ <| RG <| EQ1 rfl rfl rfl <| AS rfl rfl <| ND <| ?_
                          refine gw_cond rfl (fun h63 => ?_) (fun h63 => ?_)
                          · refine SK <| CT rfl h63 <| SQ <| RG <| FA rfl tyF_impl_Receiver_2 rfl <| LD (i := 0) rfl tyP_int rfl rfl rfl <| rw_neq rfl rfl rfl <| MV rfl rfl <| ?_
                            refine rw_case (j := 120) rfl (fun h64 => ?_) (fun h64 => ?_)
                            · replace h64 := of_not_T h64
                              refine ON rfl rfl (not_F h64) <| FA rfl tyF_impl_Receiver_3 rfl <| ON rfl rfl (not_F h64) <| LD (i := 0) rfl tyP_int rfl rfl rfl <| ON rfl rfl (not_F h64) <| FA rfl tyF_impl_Receiver_2 rfl <| ON rfl rfl (not_F h64) <| LD (i := 0) rfl tyP_int rfl rfl rfl <| ON rfl rfl (not_F h64) <| EQ1 rfl rfl rfl <| PT rfl rfl (not_F h64) rfl <| MV rfl rfl <| ?_
                              refine rw_case (j := 127) rfl (fun h65 => ?_) (fun h65 => ?_)
                              · refine ON rfl rfl h65 <| FA rfl tyF_impl_Receiver_1 rfl <| ON rfl rfl h65 <| FA rfl tyF_impl_Buffer_1 rfl <| ON rfl rfl h65 <| LD (i := 0) rfl tyP_S_impl_Chunk rfl rfl rfl <| ON rfl rfl h65 <| rw_len rfl tyE_S_impl_Chunk rfl <| ON rfl rfl h65 <| EQ1 rfl rfl rfl <| PT rfl rfl h65 rfl <| AS rfl rfl <| ND <| ret_cv Try.func160 (res1 Try.func160 rfl (rv_tmp rfl)) <| ?_
                                rw [isReceiver_s]
                                simp_all []
                              · refine OF rfl rfl h65 rfl <| OF rfl rfl h65 rfl <| OF rfl rfl h65 rfl <| OF rfl rfl h65 rfl <| OF rfl rfl h65 rfl <| PF rfl rfl h65 rfl <| AS rfl rfl <| ND <| ret_cv Try.func160 (res1 Try.func160 rfl (rv_tmp rfl)) <| ?_
                                rw [isReceiver_s]
                                simp [isReceiverS, maxQuic, h1, h2, h3, h4, h5, h38, h39, h57, h59, h61, h62, h63, h65]
                            · replace h64 := of_not_F h64
                              refine OF rfl rfl (not_T h64) rfl <| OF rfl rfl (not_T h64) rfl <| OF rfl rfl (not_T h64) rfl <| OF rfl rfl (not_T h64) rfl <| OF rfl rfl (not_T h64) rfl <| PF rfl rfl (not_T h64) rfl <| MV rfl rfl <| OF rfl rfl rfl rfl <| OF rfl rfl rfl rfl <| OF rfl rfl rfl rfl <| OF rfl rfl rfl rfl <| OF rfl rfl rfl rfl <| PF rfl rfl rfl rfl <| AS rfl rfl <| ND <| ret_cv Try.func160 (res1 Try.func160 rfl (rv_tmp rfl)) <| ?_
                              rw [isReceiver_s]
                              simp [isReceiverS, maxQuic, h1, h2, h3, h4, h5, h38, h39, h57, h59, h61, h62, h63]
                          · refine RG <| EQ1 rfl rfl rfl <| AS rfl rfl <| ND <| ?_
                            refine gw_cond rfl (fun h66 => ?_) (fun h66 => ?_)
                            · refine SQ <| RG <| FA rfl tyF_impl_Receiver_2 rfl <| LD (i := 0) rfl tyP_int rfl rfl rfl <| rw_neq rfl rfl rfl <| MV rfl rfl <| ?_
                              refine rw_case (j := 120) rfl (fun h67 => ?_) (fun h67 => ?_)
                              · replace h67 := of_not_T h67
                                refine ON rfl rfl (not_F h67) <| FA rfl tyF_impl_Receiver_3 rfl <| ON rfl rfl (not_F h67) <| LD (i := 0) rfl tyP_int rfl rfl rfl <| ON rfl rfl (not_F h67) <| FA rfl tyF_impl_Receiver_2 rfl <| ON rfl rfl (not_F h67) <| LD (i := 0) rfl tyP_int rfl rfl rfl <| ON rfl rfl (not_F h67) <| EQ1 rfl rfl rfl <| PT rfl rfl (not_F h67) rfl <| MV rfl rfl <| ?_
                                refine rw_case (j := 127) rfl (fun h68 => ?_) (fun h68 => ?_)
                                · refine ON rfl rfl h68 <| FA rfl tyF_impl_Receiver_1 rfl <| ON rfl rfl h68 <| FA rfl tyF_impl_Buffer_1 rfl <| ON rfl rfl h68 <| LD (i := 0) rfl tyP_S_impl_Chunk rfl rfl rfl <| ON rfl rfl h68 <| rw_len rfl tyE_S_impl_Chunk rfl <| ON rfl rfl h68 <| EQ1 rfl rfl rfl <| PT rfl rfl h68 rfl <| AS rfl rfl <| ND <| ret_cv Try.func160 (res1 Try.func160 rfl (rv_tmp rfl)) <| ?_
                                  rw [isReceiver_s]
                                  simp_all []
                                · refine OF rfl rfl h68 rfl <| OF rfl rfl h68 rfl <| OF rfl rfl h68 rfl <| OF rfl rfl h68 rfl <| OF rfl rfl h68 rfl <| PF rfl rfl h68 rfl <| AS rfl rfl <| ND <| ret_cv Try.func160 (res1 Try.func160 rfl (rv_tmp rfl)) <| ?_
                                  rw [isReceiver_s]
                                  simp [isReceiverS, maxQuic, h1, h2, h3, h4, h5, h38, h39, h57, h59, h61, h62, h63, h66, h68]
                              · replace h67 := of_not_F h67
                                refine OF rfl rfl (not_T h67) rfl <| OF rfl rfl (not_T h67) rfl <| OF rfl rfl (not_T h67) rfl <| OF rfl rfl (not_T h67) rfl <| OF rfl rfl (not_T h67) rfl <| PF rfl rfl (not_T h67) rfl <| MV rfl rfl <| OF rfl rfl rfl rfl <| OF rfl rfl rfl rfl <| OF rfl rfl rfl rfl <| OF rfl rfl rfl rfl <| OF rfl rfl rfl rfl <| PF rfl rfl rfl rfl <| AS rfl rfl <| ND <| ret_cv Try.func160 (res1 Try.func160 rfl (rv_tmp rfl)) <| ?_
                                rw [isReceiver_s]
                                simp [isReceiverS, maxQuic, h1, h2, h3, h4, h5, h38, h39, h57, h59, h61, h62, h63, h66]
                            · refine SK <| IB <| SQ <| RG <| AS rfl rfl <| ND <| ret_cv Try.func160 (res1 Try.func160 rfl (rv_tmp rfl)) <| ?_
                              rw [isReceiver_s]
                              simp [isReceiverS, maxQuic, h1, h2, h3, h4, h5, h38, h39, h57, h59, h61, h62, h63, h66]

theorem spec_IsReceived {w : World} {cs : List Value} {x : Receiver} (hv : RdReceiver w cs x) (hb : x.le 134217728) : CV Try.prog 96 [.agg cs.toArray] w (.bool (isReceived x)) := by
  obtain ⟨v0, rfl, k0⟩ := hv
  obtain ⟨A0, c0, rfl, hA0⟩ := k0
  obtain ⟨hb0, hb1⟩ := hb
  refine cv_of Try.func96 rfl rfl rfl <| SQ <| RG <| BX [_, _, _, _, _, _] rfl rfl rfl <| fun b1 => AS rfl rfl <| ND <| SQ <| RG <| LS (i := 0) [_, _, _, _, _, _] rfl tyS_impl_Receiver rfl rfl rfl rfl <| CV1 rfl fun_spec_IsReceiver rfl (fun w hs => spec_IsReceiver ⟨_, rfl, (hA0.s Pl.keeps hs)⟩ ⟨hb0, hb1⟩) <| MV rfl rfl <| ?_
  refine rw_case (j := 5) rfl (fun h1 => ?_) (fun h1 => ?_)
  · refine ON rfl rfl h1 <| FA rfl tyF_impl_Receiver_0 rfl <| ON rfl rfl h1 <| LD (i := 0) rfl tyP_int rfl rfl rfl <| ON rfl rfl h1 <| EQ1 rfl rfl rfl <| ON rfl rfl h1 <| MV rfl rfl <| ?_
    refine rw_case (j := 9) rfl (fun h2 => ?_) (fun h2 => ?_)
    · refine OF rfl rfl h2 rfl <| OF rfl rfl h2 rfl <| OF rfl rfl h2 rfl <| ON rfl rfl h1 <| PT rfl rfl h2 rfl <| PT rfl rfl h1 rfl <| AS rfl rfl <| ND <| ret_cv Try.func96 (res1 Try.func96 rfl (rv_tmp rfl)) <| ?_
      simp [isReceived, h1, h2]
    · refine ON rfl rfl h2 <| FA rfl tyF_impl_Receiver_0 rfl <| ON rfl rfl h2 <| LD (i := 0) rfl tyP_int rfl rfl rfl <| ON rfl rfl h2 <| EQ1 rfl rfl rfl <| ON rfl rfl h1 <| PF rfl rfl h2 rfl <| PT rfl rfl h1 rfl <| AS rfl rfl <| ND <| ret_cv Try.func96 (res1 Try.func96 rfl (rv_tmp rfl)) <| ?_
      simp [isReceived, h1, h2]
  · refine OF rfl rfl h1 rfl <| OF rfl rfl h1 rfl <| OF rfl rfl h1 rfl <| OF rfl rfl h1 rfl <| OU rfl rfl rfl <| OU rfl rfl rfl <| OU rfl rfl rfl <| OF rfl rfl h1 rfl <| PF rfl rfl h1 rfl <| AS rfl rfl <| ND <| ret_cv Try.func96 (res1 Try.func96 rfl (rv_tmp rfl)) <| ?_
    simp [isReceived, h1]

theorem spec_IsRecvOver {w : World} {cs : List Value} {x : Stream} (hv : RdStream w cs x) (hb : x.le 134217728) : CV Try.prog 32 [.agg cs.toArray] w (.bool (isRecvOver x)) := by
  obtain ⟨v0, v1, v2, v3, v4, rfl, k0, k1, k2, k3, k4⟩ := hv
  obtain ⟨A0, c0, rfl, hA0⟩ := k0
  obtain ⟨A1, c1, rfl, hA1⟩ := k1
  obtain ⟨A2, c2, rfl, hA2⟩ := k2
  obtain ⟨A3, c3, rfl, hA3⟩ := k3
  obtain ⟨A4, c4, rfl, hA4⟩ := k4
  obtain ⟨hb0, hb1, hb2, hb3, hb4, hb5⟩ := hb
  refine cv_of Try.func32 rfl rfl rfl <| SQ <| RG <| BX [_, _, _, _, _, _, _, _, _, _, _, _, _, _, _, _, _, _, _, _, _, _, _, _, _, _, _, _, _, _, _, _, _, _, _, _, _, _, _] rfl rfl rfl <| fun b1 => AS rfl rfl <| ND <| SQ <| RG <| FA rfl tyF_impl_Stream_7 rfl <| LD (i := 0) rfl tyP_bool rfl rfl rfl <| NT rfl rfl <| MV rfl rfl <| ?_
  refine rw_case (j := 6) rfl (fun h1 => ?_) (fun h1 => ?_)
  · replace h1 := of_not_T h1
    refine OF rfl rfl (not_F h1) rfl <| OF rfl rfl (not_F h1) rfl <| OF rfl rfl (not_F h1) rfl <| PT rfl rfl (not_F h1) rfl <| AS rfl rfl <| ND <| ret_cv Try.func32 (res1 Try.func32 rfl (rv_tmp rfl)) <| ?_
    simp [isRecvOver, h1]
  · replace h1 := of_not_F h1
    refine ON rfl rfl (not_T h1) <| FA rfl tyF_impl_Stream_3 rfl <| ON rfl rfl (not_T h1) <| LS (i := 0) [_, _, _, _, _, _] rfl tyS_impl_Receiver rfl rfl rfl rfl <| ON rfl rfl (not_T h1) <| CV1 rfl fun_spec_IsReceived rfl (fun w hs => spec_IsReceived ⟨_, rfl, (hA4.s Pl.keeps hs)⟩ ⟨hb4, hb5⟩) <| PF rfl rfl (not_T h1) rfl <| AS rfl rfl <| ND <| ret_cv Try.func32 (res1 Try.func32 rfl (rv_tmp rfl)) <| ?_
    simp [isRecvOver, h1]

theorem impl_within (a b c : Int) (w : World) : CV Try.prog 146 [.int .i64 a, .int .i64 b, .int .i64 c] w (.bool (within a b c)) := by
  refine cv_of Try.func146 rfl rfl rfl <| SQ <| RG <| AS rfl rfl <| ND <| SQ <| RG <| MV rfl rfl <| MV rfl rfl <| rw_leq rfl rfl rfl <| MV rfl rfl <| ?_
  refine rw_case (j := 10) rfl (fun h1 => ?_) (fun h1 => ?_)
  · refine ON rfl rfl h1 <| MV rfl rfl <| ON rfl rfl h1 <| MV rfl rfl <| ON rfl rfl h1 <| rw_leq rfl rfl rfl <| PT rfl rfl h1 rfl <| AS rfl rfl <| ND <| ret_cv Try.func146 (res1 Try.func146 rfl (rv_tmp rfl)) <| ?_
    simp only [within, h1] <;> rfl
  · refine OF rfl rfl h1 rfl <| OF rfl rfl h1 rfl <| OF rfl rfl h1 rfl <| PF rfl rfl h1 rfl <| AS rfl rfl <| ND <| ret_cv Try.func146 (res1 Try.func146 rfl (rv_tmp rfl)) <| ?_
    simp only [within, h1] <;> rfl

theorem impl_isQuic (a : Int) (w : World) : CV Try.prog 144 [.int .i64 a] w (.bool (isQuic a)) := by
  refine cv_of Try.func144 rfl rfl rfl <| SQ <| RG <| AS rfl rfl <| ND <| SQ <| RG <| MV rfl rfl <| CV1 rfl fun_impl_within rfl (fun w hs => impl_within _ _ _ w) <| AS rfl rfl <| ND <| ret_cv Try.func144 (res1 Try.func144 rfl (rv_tmp rfl)) <| ?_
  rfl

theorem impl_Chunk_end (c : Chunk) (w : World) : CV Try.prog 227 [.agg c.cells.toArray] w (.int .i64 (chunkEnd c)) := by
  refine cv_of Try.func227 rfl rfl rfl <| SQ <| RG <| BX [_, _] rfl rfl rfl <| fun b1 => AS rfl rfl <| ND <| SQ <| RG <| FA rfl tyF_impl_Chunk_0 rfl <| LD (i := 0) rfl tyP_int rfl rfl rfl <| FA rfl tyF_impl_Chunk_1 rfl <| LD (i := 0) rfl tyP_string rfl rfl rfl <| rw_lenS rfl (by kernel_rfl) rfl <| rw_add rfl rfl rfl <| AS rfl rfl <| ND <| ret_cv Try.func227 (res1 Try.func227 rfl (rv_tmp rfl)) <| ?_
  rfl

theorem impl_IsBuffer {w : World} {cs : List Value} {x : Buffer} (hv : RdBuffer w cs x) (hb : x.le 134217728) : CV Try.prog 199 [.agg cs.toArray] w (.bool (isBuffer x)) := by
  obtain ⟨v0, rfl, k0⟩ := hv
  obtain ⟨A0, c0, rfl, hA0⟩ := k0
  obtain ⟨hb0, hb1⟩ := hb
  refine cv_of Try.func199 rfl rfl rfl <| SQ <| RG <| BX [_, _] rfl rfl rfl <| fun b1 => AS rfl rfl <| ND <| SQ <| SQ <| RG <| FA rfl tyF_impl_Buffer_0 rfl <| LD (i := 0) rfl tyP_int rfl rfl rfl <| CV1 rfl fun_impl_isQuic rfl (fun w hs => impl_isQuic _ w) <| NT rfl rfl <| ND <| ?_
  refine gw_cond rfl (fun h1 => ?_) (fun h1 => ?_)
  · replace h1 := of_not_T h1
    refine SQ <| RG <| AS rfl rfl <| ND <| ret_cv Try.func199 (res1 Try.func199 rfl (rv_tmp rfl)) <| ?_
    simp [isBuffer, h1]
  · replace h1 := of_not_F h1
    refine SK <| SQ <| RG <| FA rfl tyF_impl_Buffer_0 rfl <| LD (i := 0) rfl tyP_int rfl rfl rfl <| AS rfl rfl <| ND <| SQ <| SQ <| RG <| FA rfl tyF_impl_Buffer_1 rfl <| LD (i := 0) rfl tyP_S_impl_Chunk rfl rfl rfl <| rw_len rfl tyE_S_impl_Chunk rfl <| MV rfl rfl <| ND <| BK <| ?_
    refine gw_loopC (α := Nat × Int) (fun z_ => z_.1 ≤ x.chunks.length ∧ isBuffer x = bufFrom z_.2 (x.chunks.drop z_.1)) (fun z_ => x.chunks.length - z_.1) (fun e z_ => (15, .int .i64 (z_.1 : Int)) :: (3, .int .i64 z_.2) :: e) (0, x.next) [(13, _), (14, _)] (Sub.consE rfl rfl (Sub.consE rfl rfl (Sub.cons (i := 13) rfl (Sub.cons (i := 14) rfl (Sub.nil _))))) ?_ ?_
    · exact ⟨Nat.zero_le _, by simp [isBuffer, h1]⟩
    · rintro ⟨i, e⟩ hI1 ih1
      dsimp only at hI1
      dsimp only
      obtain ⟨hle, hI⟩ := hI1
      refine SQ <| RG <| rw_lss rfl rfl rfl <| ND <| SQ <| ?_
      refine gw_cond rfl (fun h2 => ?_) (fun h2 => ?_)
      · have hi2 := lt_of_dec h2
        obtain ⟨x3, hx3⟩ := get_of_lt hi2
        have hd3 := drop_cons hx3
        refine SK <| SQ <| BK <| SQ <| RG <| ?_
        have hq4 := hA0.plain hx3
        refine rw_indexAddr (i) rfl tyE_S_impl_Chunk rfl rfl rfl (hA0.some hi2) hi2 <| rw_loadX_s [_, _] rfl tyS_impl_Chunk rfl rfl (fun w hs => hq4.lds0 (n := 2) hs rfl) <| AL rfl tyZ_impl_Chunk <| fun b2 => ST (i := 0) [_, _] [_, _] tyS_impl_Chunk.sz rfl rfl rfl rfl rfl rfl rfl rfl <| ND <| SQ <| SQ <| RG <| FA rfl tyF_impl_Chunk_1 rfl <| LD (i := 0) rfl tyP_string rfl rfl rfl <| rw_lenS rfl (by kernel_rfl) rfl <| EQ1 rfl rfl rfl <| MV rfl rfl <| ?_
        refine rw_case (j := 23) rfl (fun h3 => ?_) (fun h3 => ?_)
        · refine OF rfl rfl h3 rfl <| OF rfl rfl h3 rfl <| OF rfl rfl h3 rfl <| OF rfl rfl h3 rfl <| PT rfl rfl h3 rfl <| MV rfl rfl <| OF rfl rfl rfl rfl <| OF rfl rfl rfl rfl <| OF rfl rfl rfl rfl <| OF rfl rfl rfl rfl <| OF rfl rfl rfl rfl <| OF rfl rfl rfl rfl <| OF rfl rfl rfl rfl <| PT rfl rfl rfl rfl <| ND <| CT rfl rfl <| SQ <| RG <| AS rfl rfl <| ND <| ret_cv Try.func199 (res1 Try.func199 rfl (rv_tmp rfl)) <| ?_
          rw [hI, hd3]; simp [bufFrom, maxQuic, h3]
        · refine ON rfl rfl h3 <| FA rfl tyF_impl_Chunk_0 rfl <| ON rfl rfl h3 <| LD (i := 0) rfl tyP_int rfl rfl rfl <| ON rfl rfl h3 <| MV rfl rfl <| ON rfl rfl h3 <| rw_lss rfl rfl rfl <| PF rfl rfl h3 rfl <| MV rfl rfl <| ?_
          refine rw_case (j := 29) rfl (fun h4 => ?_) (fun h4 => ?_)
          · refine OF rfl rfl h4 rfl <| OF rfl rfl h4 rfl <| OF rfl rfl h4 rfl <| OF rfl rfl h4 rfl <| OF rfl rfl h4 rfl <| OF rfl rfl h4 rfl <| OF rfl rfl h4 rfl <| PT rfl rfl h4 rfl <| ND <| CT rfl rfl <| SQ <| RG <| AS rfl rfl <| ND <| ret_cv Try.func199 (res1 Try.func199 rfl (rv_tmp rfl)) <| ?_
            rw [hI, hd3]; simp [bufFrom, maxQuic, h3, h4]
          · refine ON rfl rfl h4 <| FA rfl tyF_impl_Chunk_0 rfl <| ON rfl rfl h4 <| LD (i := 0) rfl tyP_int rfl rfl rfl <| ON rfl rfl h4 <| FA rfl tyF_impl_Chunk_1 rfl <| ON rfl rfl h4 <| LD (i := 0) rfl tyP_string rfl rfl rfl <| ON rfl rfl h4 <| rw_lenS rfl (by kernel_rfl) rfl <| ON rfl rfl h4 <| rw_sub rfl rfl rfl <| ON rfl rfl h4 <| rw_gtr rfl rfl rfl <| PF rfl rfl h4 rfl <| ND <| ?_
            refine gw_cond rfl (fun h5 => ?_) (fun h5 => ?_)
            · refine SQ <| RG <| AS rfl rfl <| ND <| ret_cv Try.func199 (res1 Try.func199 rfl (rv_tmp rfl)) <| ?_
              rw [hI, hd3]; simp [bufFrom, maxQuic, h3, h4, h5]
            · refine SK <| RG <| LS (i := 0) [_, _] rfl tyS_impl_Chunk rfl rfl rfl rfl <| CV1 rfl fun_impl_Chunk_end rfl (fun w hs => impl_Chunk_end _ w) <| rw_add rfl rfl rfl <| AS rfl rfl <| ND <| IB <| RG <| rw_add rfl rfl rfl <| MV rfl rfl <| ND <| gw_dropN 1 <| ?_
              refine gw_sub (Sub.consE (i := 15) rfl (int_succ (by omega)) (Sub.consE (i := 3) rfl rfl (Sub.cons (i := 13) rfl (Sub.cons (i := 14) rfl (Sub.nil _))))) (ih1 (i + 1, w64 (chunkEnd x3 + 1)) ?_ ?_)
              · exact ⟨by omega, by rw [hI, hd3]; simp [bufFrom, maxQuic, h3, h4, h5]⟩
              · show x.chunks.length - (i + 1) < x.chunks.length - i; omega
      · have hn5 := nil_of_dec h2
        refine EX rfl <| SQ <| RG <| AS rfl rfl <| ND <| ret_cv Try.func199 (res1 Try.func199 rfl (rv_tmp rfl)) <| ?_
        rw [hI, hn5]; rfl

theorem impl_EndOf {w : World} {cs : List Value} {x : Buffer} (hv : RdBuffer w cs x) (hb : x.le 134217728) : CV Try.prog 200 [.agg cs.toArray] w (.int .i64 (endOf x)) := by
  obtain ⟨v0, rfl, k0⟩ := hv
  obtain ⟨A0, c0, rfl, hA0⟩ := k0
  obtain ⟨hb0, hb1⟩ := hb
  refine cv_of Try.func200 rfl rfl rfl <| SQ <| RG <| BX [_, _] rfl rfl rfl <| fun b1 => AS rfl rfl <| ND <| SQ <| SQ <| RG <| LS (i := 0) [_, _] rfl tyS_impl_Buffer rfl rfl rfl rfl <| CV1 rfl fun_impl_IsBuffer rfl (fun w hs => impl_IsBuffer ⟨_, rfl, (hA0.s Pl.keeps hs)⟩ ⟨hb0, hb1⟩) <| NT rfl rfl <| MV rfl rfl <| ?_
  refine rw_case (j := 6) rfl (fun h1 => ?_) (fun h1 => ?_)
  · replace h1 := of_not_T h1
    refine OF rfl rfl (not_F h1) rfl <| OF rfl rfl (not_F h1) rfl <| OF rfl rfl (not_F h1) rfl <| OF rfl rfl (not_F h1) rfl <| PT rfl rfl (not_F h1) rfl <| ND <| CT rfl rfl <| SQ <| RG <| FA rfl tyF_impl_Buffer_0 rfl <| LD (i := 0) rfl tyP_int rfl rfl rfl <| AS rfl rfl <| ND <| ret_cv Try.func200 (res1 Try.func200 rfl (rv_tmp rfl)) <| ?_
    simp [endOf, chunkEnd, h1]
  · replace h1 := of_not_F h1
    refine ON rfl rfl (not_T h1) <| FA rfl tyF_impl_Buffer_1 rfl <| ON rfl rfl (not_T h1) <| LD (i := 0) rfl tyP_S_impl_Chunk rfl rfl rfl <| ON rfl rfl (not_T h1) <| rw_len rfl tyE_S_impl_Chunk rfl <| ON rfl rfl (not_T h1) <| EQ1 rfl rfl rfl <| PF rfl rfl (not_T h1) rfl <| ND <| ?_
    refine gw_cond rfl (fun h2 => ?_) (fun h2 => ?_)
    · have hnil1 := nil_of_eq h2
      refine SQ <| RG <| FA rfl tyF_impl_Buffer_0 rfl <| LD (i := 0) rfl tyP_int rfl rfl rfl <| AS rfl rfl <| ND <| ret_cv Try.func200 (res1 Try.func200 rfl (rv_tmp rfl)) <| ?_
      simp [endOf, h1, hnil1]
    · have hpos2 := pos_of_ne h2
      refine SK <| SQ <| RG <| FA rfl tyF_impl_Buffer_1 rfl <| LD (i := 0) rfl tyP_S_impl_Chunk rfl rfl rfl <| FA rfl tyF_impl_Buffer_1 rfl <| LD (i := 0) rfl tyP_S_impl_Chunk rfl rfl rfl <| rw_len rfl tyE_S_impl_Chunk rfl <| rw_sub rfl rfl rfl <| ?_
      have hi3 : x.chunks.length - 1 < x.chunks.length := by omega
      obtain ⟨x4, hx4⟩ := get_of_lt hi3
      have hd4 := drop_cons hx4
      have hq5 := hA0.plain hx4
      refine rw_indexAddr (x.chunks.length - 1) rfl tyE_S_impl_Chunk rfl rfl (lenpred_of (by omega) (by omega)) (hA0.some hi3) hi3 <| rw_loadX_s [_, _] rfl tyS_impl_Chunk rfl rfl (fun w hs => hq5.lds0 (n := 2) hs rfl) <| CV1 rfl fun_impl_Chunk_end rfl (fun w hs => impl_Chunk_end _ w) <| AS rfl rfl <| ND <| ret_cv Try.func200 (res1 Try.func200 rfl (rv_tmp rfl)) <| ?_
      simp [endOf, chunkEnd, h1, hx4]

theorem impl_ReadyBytes {w : World} {cs : List Value} {x : Buffer} (hv : RdBuffer w cs x) (hb : x.le 134217728) : CV Try.prog 228 [.agg cs.toArray] w (.int .i64 (readyBytes x)) := by
  obtain ⟨v0, rfl, k0⟩ := hv
  obtain ⟨A0, c0, rfl, hA0⟩ := k0
  obtain ⟨hb0, hb1⟩ := hb
  refine cv_of Try.func228 rfl rfl rfl <| SQ <| RG <| BX [_, _] rfl rfl rfl <| fun b1 => AS rfl rfl <| ND <| SQ <| SQ <| gw_draw' [(0, .det), (1, .det), (2, .det), (3, .det), (4, .det), (5, .det), (6, .det), (7, .det), (8, .det), (9, .det), (10, .det), (11, .det), (12, .det), (13, .det), (14, .det), (15, .det), (16, .det)] [17, 18] mixed rfl (free_det (free_det (free_det (free_det (free_det (free_det (free_det (free_det (free_det (free_det (free_det (free_det (free_det (free_det (free_det (free_det (free_det free_nil))))))))))))))))) (ts := [_, _]) rfl <| DT rfl rfl (fun K hk => LS (i := 0) [_, _] rfl tyS_impl_Buffer rfl rfl rfl rfl hk) <| ?_
  refine DT rfl rfl (fun K hk => CV1 rfl fun_impl_IsBuffer rfl (fun w hs => impl_IsBuffer ⟨_, rfl, (hA0.s Pl.keeps hs)⟩ ⟨hb0, hb1⟩) hk) <| DT rfl rfl (fun K hk => NT rfl rfl hk) <| DT rfl rfl (fun K hk => MV rfl rfl hk) <| ?_
  refine dw_case (i := 6) rfl (fun h1 => ?_) (fun h1 => ?_)
  · replace h1 := of_not_T h1
    refine DT rfl rfl (fun K hk => OF rfl rfl (not_F h1) rfl hk) <| DT rfl rfl (fun K hk => OF rfl rfl (not_F h1) rfl hk) <| DT rfl rfl (fun K hk => OF rfl rfl (not_F h1) rfl hk) <| DT rfl rfl (fun K hk => OF rfl rfl (not_F h1) rfl hk) <| DT rfl rfl (fun K hk => PT rfl rfl (not_F h1) rfl hk) <| DT rfl rfl (fun K hk => MV rfl rfl hk) <| DT rfl rfl (fun K hk => OF rfl rfl rfl rfl hk) <| DT rfl rfl (fun K hk => OF rfl rfl rfl rfl hk) <| DT rfl rfl (fun K hk => OF rfl rfl rfl rfl hk) <| DT rfl rfl (fun K hk => OF rfl rfl rfl rfl hk) <| ?_
    refine DT rfl rfl (fun K hk => OF rfl rfl rfl rfl hk) <| DT rfl rfl (fun K hk => OF rfl rfl rfl rfl hk) <| DT rfl rfl (fun K hk => OF rfl rfl rfl rfl hk) <| dw_nil <| OF rfl rfl rfl rfl <| PT rfl rfl rfl rfl <| ND <| CT rfl rfl <| SQ <| RG <| AS rfl rfl <| ND <| ret_cv Try.func228 (res1 Try.func228 rfl (rv_tmp rfl)) <| ?_
    simp [readyBytes, h1]
  · replace h1 := of_not_F h1
    refine DT rfl rfl (fun K hk => ON rfl rfl (not_T h1) (FA rfl tyF_impl_Buffer_1 rfl hk)) <| DT rfl rfl (fun K hk => ON rfl rfl (not_T h1) (LD (i := 0) rfl tyP_S_impl_Chunk rfl rfl rfl hk)) <| DT rfl rfl (fun K hk => ON rfl rfl (not_T h1) (rw_len rfl tyE_S_impl_Chunk rfl hk)) <| DT rfl rfl (fun K hk => ON rfl rfl (not_T h1) (EQ1 rfl rfl rfl hk)) <| DT rfl rfl (fun K hk => PF rfl rfl (not_T h1) rfl hk) <| DT rfl rfl (fun K hk => MV rfl rfl hk) <| ?_
    refine dw_case (i := 12) rfl (fun h2 => ?_) (fun h2 => ?_)
    · have hnil1 := nil_of_eq h2
      refine DT rfl rfl (fun K hk => OF rfl rfl h2 rfl hk) <| DT rfl rfl (fun K hk => OF rfl rfl h2 rfl hk) <| DT rfl rfl (fun K hk => OF rfl rfl h2 rfl hk) <| DT rfl rfl (fun K hk => OF rfl rfl h2 rfl hk) <| DT rfl rfl (fun K hk => OF rfl rfl h2 rfl hk) <| DT rfl rfl (fun K hk => OF rfl rfl h2 rfl hk) <| DT rfl rfl (fun K hk => OF rfl rfl h2 rfl hk) <| dw_nil <| OF rfl rfl h2 rfl <| PT rfl rfl h2 rfl <| ND <| CT rfl rfl <| SQ <| RG <| AS rfl rfl <| ND <| ret_cv Try.func228 (res1 Try.func228 rfl (rv_tmp rfl)) <| ?_
      simp [readyBytes, h1, hnil1]
    · have hpos2 := pos_of_ne h2
      refine DT rfl rfl (fun K hk => ON rfl rfl h2 (FA rfl tyF_impl_Buffer_1 rfl hk)) <| DT rfl rfl (fun K hk => ON rfl rfl h2 (LD (i := 0) rfl tyP_S_impl_Chunk rfl rfl rfl hk)) <| ?_
      have hi3 : 0 < x.chunks.length := by omega
      obtain ⟨x4, hx4⟩ := get_of_lt hi3
      have hd4 := drop_cons hx4
      have hq5 := hA0.plain hx4
      refine DT rfl rfl (fun K hk => ON rfl rfl h2 (rw_indexAddr (0) rfl tyE_S_impl_Chunk rfl rfl rfl (hA0.some hi3) hi3 hk)) <| DT rfl rfl (fun K hk => ON rfl rfl h2 (FX rfl tyF_impl_Chunk_0 rfl hk)) <| DT rfl rfl (fun K hk => ON rfl rfl h2 (rw_loadX _ rfl tyP_int rfl (fun w hs => hq5.ld hs rfl) hk)) <| DT rfl rfl (fun K hk => ON rfl rfl h2 (FA rfl tyF_impl_Buffer_0 rfl hk)) <| DT rfl rfl (fun K hk => ON rfl rfl h2 (LD (i := 0) rfl tyP_int rfl rfl rfl hk)) <| dw_nil <| ON rfl rfl h2 <| ?_
      refine rw_neq rfl rfl rfl <| PF rfl rfl h2 rfl <| ND <| ?_
      refine gw_cond rfl (fun h3 => ?_) (fun h3 => ?_)
      · replace h3 := of_not_T h3
        refine SQ <| RG <| AS rfl rfl <| ND <| ret_cv Try.func228 (res1 Try.func228 rfl (rv_tmp rfl)) <| ?_
        simp [readyBytes, h1, h3, hx4]
      · replace h3 := of_not_F h3
        refine SK <| SQ <| RG <| FA rfl tyF_impl_Buffer_1 rfl <| LD (i := 0) rfl tyP_S_impl_Chunk rfl rfl rfl <| rw_indexAddr (0) rfl tyE_S_impl_Chunk rfl rfl rfl (hA0.some hi3) hi3 <| FX rfl tyF_impl_Chunk_1 rfl <| rw_loadX _ rfl tyP_string rfl (fun w hs => hq5.ld hs rfl) <| rw_lenS rfl (by kernel_rfl) rfl <| AS rfl rfl <| ND <| ret_cv Try.func228 (res1 Try.func228 rfl (rv_tmp rfl)) <| ?_
        simp [readyBytes, h1, h3, hx4]

theorem impl_readyEnd {w : World} {cs : List Value} {x : Buffer} (hv : RdBuffer w cs x) (hb : x.le 134217728) : CV Try.prog 201 [.agg cs.toArray] w (.int .i64 (w64 (x.next + readyBytes x))) := by
  obtain ⟨v0, rfl, k0⟩ := hv
  obtain ⟨A0, c0, rfl, hA0⟩ := k0
  obtain ⟨hb0, hb1⟩ := hb
  refine cv_of Try.func201 rfl rfl rfl <| SQ <| RG <| BX [_, _] rfl rfl rfl <| fun b1 => AS rfl rfl <| ND <| SQ <| gw_draw' [(0, .det), (1, .det), (2, .det), (3, .det)] [4, 5] mixed rfl (free_det (free_det (free_det (free_det free_nil)))) (ts := [_, _]) rfl <| DT rfl rfl (fun K hk => FA rfl tyF_impl_Buffer_0 rfl hk) <| DT rfl rfl (fun K hk => LD (i := 0) rfl tyP_int rfl rfl rfl hk) <| DT rfl rfl (fun K hk => LS (i := 0) [_, _] rfl tyS_impl_Buffer rfl rfl rfl rfl hk) <| DT rfl rfl (fun K hk => CV1 rfl fun_impl_ReadyBytes rfl (fun w hs => impl_ReadyBytes ⟨_, rfl, (hA0.s Pl.keeps hs)⟩ ⟨hb0, hb1⟩) hk) <| ?_
  refine dw_nil <| rw_add rfl rfl rfl <| AS rfl rfl <| ND <| ret_cv Try.func201 (res1 Try.func201 rfl (rv_tmp rfl)) <| ?_
  rfl

theorem impl_IsReceiver {w : World} {cs : List Value} {x : Receiver} (hv : RdReceiver w cs x) (hb : x.le 134217728) : CV Try.prog 161 [.agg cs.toArray] w (.bool (isReceiver x)) := by
  obtain ⟨v0, rfl, k0⟩ := hv
  obtain ⟨A0, c0, rfl, hA0⟩ := k0
  obtain ⟨hb0, hb1⟩ := hb
  refine cv_of Try.func161 rfl rfl rfl <| SQ <| RG <| BX [_, _, _, _, _, _] rfl rfl rfl <| fun b1 => AS rfl rfl <| ND <| SQ <| SQ <| gw_draw' [(0, .det), (1, .det), (2, .det), (3, .det), (4, .det), (5, .det), (6, .det), (7, .det), (8, .det), (9, .det), (10, .det), (11, .det), (12, .det), (13, .det), (14, .det), (15, .det), (16, .det), (17, .det), (18, .det), (19, .det), (20, .det), (21, .det), (22, .det), (23, .det), (24, .det), (25, .det), (26, .det), (27, .det), (28, .det), (29, .det), (30, .det), (31, .det), (32, .det)] [33, 34, 35, 36] mixed rfl (free_det (free_det (free_det (free_det (free_det (free_det (free_det (free_det (free_det (free_det (free_det (free_det (free_det (free_det (free_det (free_det (free_det (free_det (free_det (free_det (free_det (free_det (free_det (free_det (free_det (free_det (free_det (free_det (free_det (free_det (free_det (free_det (free_det free_nil))))))))))))))))))))))))))))))))) (ts := [_, _, _, _]) rfl <| ?_
  refine DT rfl rfl (fun K hk => FA rfl tyF_impl_Receiver_1 rfl hk) <| DT rfl rfl (fun K hk => LS (i := 0) [_, _] rfl tyS_impl_Buffer rfl rfl rfl rfl hk) <| DT rfl rfl (fun K hk => CV1 rfl fun_impl_IsBuffer rfl (fun w hs => impl_IsBuffer ⟨_, rfl, (hA0.s Pl.keeps hs)⟩ ⟨hb0, hb1⟩) hk) <| DT rfl rfl (fun K hk => NT rfl rfl hk) <| DT rfl rfl (fun K hk => MV rfl rfl hk) <| ?_
  refine dw_case (i := 8) rfl (fun h1 => ?_) (fun h1 => ?_)
  · replace h1 := of_not_T h1
    refine DT rfl rfl (fun K hk => OF rfl rfl (not_F h1) rfl hk) <| DT rfl rfl (fun K hk => OF rfl rfl (not_F h1) rfl hk) <| DT rfl rfl (fun K hk => OF rfl rfl (not_F h1) rfl hk) <| DT rfl rfl (fun K hk => OF rfl rfl (not_F h1) rfl hk) <| DT rfl rfl (fun K hk => OF rfl rfl (not_F h1) rfl hk) <| DT rfl rfl (fun K hk => OF rfl rfl (not_F h1) rfl hk) <| DT rfl rfl (fun K hk => PT rfl rfl (not_F h1) rfl hk) <| DT rfl rfl (fun K hk => MV rfl rfl hk) <| DT rfl rfl (fun K hk => OF rfl rfl rfl rfl hk) <| ?_
    refine DT rfl rfl (fun K hk => OF rfl rfl rfl rfl hk) <| DT rfl rfl (fun K hk => OF rfl rfl rfl rfl hk) <| DT rfl rfl (fun K hk => OF rfl rfl rfl rfl hk) <| DT rfl rfl (fun K hk => PT rfl rfl rfl rfl hk) <| DT rfl rfl (fun K hk => MV rfl rfl hk) <| DT rfl rfl (fun K hk => OF rfl rfl rfl rfl hk) <| DT rfl rfl (fun K hk => OF rfl rfl rfl rfl hk) <| DT rfl rfl (fun K hk => OF rfl rfl rfl rfl hk) <| DT rfl rfl (fun K hk => OF rfl rfl rfl rfl hk) <| DT rfl rfl (fun K hk => PT rfl rfl rfl rfl hk) <| ?_
    refine DT rfl rfl (fun K hk => MV rfl rfl hk) <| DT rfl rfl (fun K hk => OF rfl rfl rfl rfl hk) <| DT rfl rfl (fun K hk => OF rfl rfl rfl rfl hk) <| DT rfl rfl (fun K hk => OF rfl rfl rfl rfl hk) <| DT rfl rfl (fun K hk => OF rfl rfl rfl rfl hk) <| DT rfl rfl (fun K hk => OU rfl rfl rfl hk) <| DT rfl rfl (fun K hk => OU rfl rfl rfl hk) <| DT rfl rfl (fun K hk => OU rfl rfl rfl hk) <| DT rfl rfl (fun K hk => OU rfl rfl rfl hk) <| dw_nil <| OU rfl rfl rfl <| OU rfl rfl rfl <| ?_
    refine OF rfl rfl rfl rfl <| PT rfl rfl rfl rfl <| ND <| CT rfl rfl <| SQ <| RG <| AS rfl rfl <| ND <| ret_cv Try.func161 (res1 Try.func161 rfl (rv_tmp rfl)) <| ?_
    simp [isReceiver, maxQuic, h1]
  · replace h1 := of_not_F h1
    refine DT rfl rfl (fun K hk => ON rfl rfl (not_T h1) (FA rfl tyF_impl_Receiver_1 rfl hk)) <| DT rfl rfl (fun K hk => ON rfl rfl (not_T h1) (LS (i := 0) [_, _] rfl tyS_impl_Buffer rfl rfl rfl rfl hk)) <| DT rfl rfl (fun K hk => ON rfl rfl (not_T h1) (CV1 rfl fun_impl_EndOf rfl (fun w hs => impl_EndOf ⟨_, rfl, (hA0.s Pl.keeps hs)⟩ ⟨hb0, hb1⟩) hk)) <| DT rfl rfl (fun K hk => ON rfl rfl (not_T h1) (FA rfl tyF_impl_Receiver_3 rfl hk)) <| DT rfl rfl (fun K hk => ON rfl rfl (not_T h1) (LD (i := 0) rfl tyP_int rfl rfl rfl hk)) <| ?_
    refine DT rfl rfl (fun K hk => ON rfl rfl (not_T h1) (rw_gtr rfl rfl rfl hk)) <| DT rfl rfl (fun K hk => PF rfl rfl (not_T h1) rfl hk) <| DT rfl rfl (fun K hk => MV rfl rfl hk) <| ?_
    refine dw_case (i := 16) rfl (fun h2 => ?_) (fun h2 => ?_)
    · refine DT rfl rfl (fun K hk => OF rfl rfl h2 rfl hk) <| DT rfl rfl (fun K hk => OF rfl rfl h2 rfl hk) <| DT rfl rfl (fun K hk => OF rfl rfl h2 rfl hk) <| DT rfl rfl (fun K hk => OF rfl rfl h2 rfl hk) <| DT rfl rfl (fun K hk => PT rfl rfl h2 rfl hk) <| DT rfl rfl (fun K hk => MV rfl rfl hk) <| DT rfl rfl (fun K hk => OF rfl rfl rfl rfl hk) <| DT rfl rfl (fun K hk => OF rfl rfl rfl rfl hk) <| DT rfl rfl (fun K hk => OF rfl rfl rfl rfl hk) <| DT rfl rfl (fun K hk => OF rfl rfl rfl rfl hk) <| ?_
      refine DT rfl rfl (fun K hk => PT rfl rfl rfl rfl hk) <| DT rfl rfl (fun K hk => MV rfl rfl hk) <| DT rfl rfl (fun K hk => OF rfl rfl rfl rfl hk) <| DT rfl rfl (fun K hk => OF rfl rfl rfl rfl hk) <| DT rfl rfl (fun K hk => OF rfl rfl rfl rfl hk) <| DT rfl rfl (fun K hk => OF rfl rfl rfl rfl hk) <| DT rfl rfl (fun K hk => OU rfl rfl rfl hk) <| DT rfl rfl (fun K hk => OU rfl rfl rfl hk) <| DT rfl rfl (fun K hk => OU rfl rfl rfl hk) <| DT rfl rfl (fun K hk => OU rfl rfl rfl hk) <| ?_
      refine dw_nil <| OU rfl rfl rfl <| OU rfl rfl rfl <| OF rfl rfl rfl rfl <| PT rfl rfl rfl rfl <| ND <| CT rfl rfl <| SQ <| RG <| AS rfl rfl <| ND <| ret_cv Try.func161 (res1 Try.func161 rfl (rv_tmp rfl)) <| ?_
      simp [isReceiver, maxQuic, h1, h2]
    · refine DT rfl rfl (fun K hk => ON rfl rfl h2 (FA rfl tyF_impl_Receiver_3 rfl hk)) <| DT rfl rfl (fun K hk => ON rfl rfl h2 (LD (i := 0) rfl tyP_int rfl rfl rfl hk)) <| DT rfl rfl (fun K hk => ON rfl rfl h2 (CV1 rfl fun_impl_isQuic rfl (fun w hs => impl_isQuic _ w) hk)) <| DT rfl rfl (fun K hk => ON rfl rfl h2 (NT rfl rfl hk)) <| DT rfl rfl (fun K hk => PF rfl rfl h2 rfl hk) <| DT rfl rfl (fun K hk => MV rfl rfl hk) <| ?_
      refine dw_case (i := 22) rfl (fun h3 => ?_) (fun h3 => ?_)
      · replace h3 := of_not_T h3
        refine DT rfl rfl (fun K hk => OF rfl rfl (not_F h3) rfl hk) <| DT rfl rfl (fun K hk => OF rfl rfl (not_F h3) rfl hk) <| DT rfl rfl (fun K hk => OF rfl rfl (not_F h3) rfl hk) <| DT rfl rfl (fun K hk => OF rfl rfl (not_F h3) rfl hk) <| DT rfl rfl (fun K hk => PT rfl rfl (not_F h3) rfl hk) <| DT rfl rfl (fun K hk => MV rfl rfl hk) <| DT rfl rfl (fun K hk => OF rfl rfl rfl rfl hk) <| DT rfl rfl (fun K hk => OF rfl rfl rfl rfl hk) <| DT rfl rfl (fun K hk => OF rfl rfl rfl rfl hk) <| DT rfl rfl (fun K hk => OF rfl rfl rfl rfl hk) <| ?_
        refine DT rfl rfl (fun K hk => OU rfl rfl rfl hk) <| DT rfl rfl (fun K hk => OU rfl rfl rfl hk) <| DT rfl rfl (fun K hk => OU rfl rfl rfl hk) <| DT rfl rfl (fun K hk => OU rfl rfl rfl hk) <| dw_nil <| OU rfl rfl rfl <| OU rfl rfl rfl <| OF rfl rfl rfl rfl <| PT rfl rfl rfl rfl <| ND <| CT rfl rfl <| SQ <| RG <| AS rfl rfl <| ND <| ret_cv Try.func161 (res1 Try.func161 rfl (rv_tmp rfl)) <| ?_
        simp [isReceiver, maxQuic, h1, h2, h3]
      · replace h3 := of_not_F h3
        refine DT rfl rfl (fun K hk => ON rfl rfl (not_T h3) (FA rfl tyF_impl_Receiver_4 rfl hk)) <| DT rfl rfl (fun K hk => ON rfl rfl (not_T h3) (LD (i := 0) rfl tyP_int rfl rfl rfl hk)) <| DT rfl rfl (fun K hk => ON rfl rfl (not_T h3) (CV1 rfl fun_impl_isQuic rfl (fun w hs => impl_isQuic _ w) hk)) <| DT rfl rfl (fun K hk => ON rfl rfl (not_T h3) (NT rfl rfl hk)) <| DT rfl rfl (fun K hk => PF rfl rfl (not_T h3) rfl hk) <| DT rfl rfl (fun K hk => MV rfl rfl hk) <| ?_
        refine dw_case (i := 28) rfl (fun h4 => ?_) (fun h4 => ?_)
        · replace h4 := of_not_T h4
          refine DT rfl rfl (fun K hk => OF rfl rfl (not_F h4) rfl hk) <| DT rfl rfl (fun K hk => OF rfl rfl (not_F h4) rfl hk) <| DT rfl rfl (fun K hk => OF rfl rfl (not_F h4) rfl hk) <| DT rfl rfl (fun K hk => OF rfl rfl (not_F h4) rfl hk) <| DT rfl rfl (fun K hk => OU rfl rfl rfl hk) <| DT rfl rfl (fun K hk => OU rfl rfl rfl hk) <| DT rfl rfl (fun K hk => OU rfl rfl rfl hk) <| DT rfl rfl (fun K hk => OU rfl rfl rfl hk) <| dw_nil <| OU rfl rfl rfl <| OU rfl rfl rfl <| OF rfl rfl (not_F h4) rfl <| ?_
          refine PT rfl rfl (not_F h4) rfl <| ND <| CT rfl rfl <| SQ <| RG <| AS rfl rfl <| ND <| ret_cv Try.func161 (res1 Try.func161 rfl (rv_tmp rfl)) <| ?_
          simp [isReceiver, maxQuic, h1, h2, h3, h4]
        · replace h4 := of_not_F h4
          refine DT rfl rfl (fun K hk => ON rfl rfl (not_T h4) (FA rfl tyF_impl_Receiver_2 rfl hk)) <| DT rfl rfl (fun K hk => ON rfl rfl (not_T h4) (LD (i := 0) rfl tyP_int rfl rfl rfl hk)) <| DT rfl rfl (fun K hk => ON rfl rfl (not_T h4) (rw_neq rfl rfl rfl hk)) <| DT rfl rfl (fun K hk => ON rfl rfl (not_T h4) (MV rfl rfl hk)) <| ?_
          refine dw_case (i := 32) rfl (fun h5 => ?_) (fun h5 => ?_)
          · replace h5 := of_not_T h5
            refine DT rfl rfl (fun K hk => ON rfl rfl (not_F h5) (FA rfl tyF_impl_Receiver_2 rfl hk)) <| DT rfl rfl (fun K hk => ON rfl rfl (not_F h5) (LD (i := 0) rfl tyP_int rfl rfl rfl hk)) <| DT rfl rfl (fun K hk => ON rfl rfl (not_F h5) (FA rfl tyF_impl_Receiver_3 rfl hk)) <| DT rfl rfl (fun K hk => ON rfl rfl (not_F h5) (LD (i := 0) rfl tyP_int rfl rfl rfl hk)) <| dw_nil <| ON rfl rfl (not_F h5) <| CV1 rfl fun_impl_within rfl (fun w hs => impl_within _ _ _ w) <| ON rfl rfl (not_F h5) <| ?_
            refine NT rfl rfl <| ON rfl rfl (not_T h4) <| PT rfl rfl (not_F h5) rfl <| PF rfl rfl (not_T h4) rfl <| ND <| ?_
            refine gw_cond rfl (fun h6 => ?_) (fun h6 => ?_)
            · replace h6 := of_not_T h6
              refine SQ <| RG <| AS rfl rfl <| ND <| ret_cv Try.func161 (res1 Try.func161 rfl (rv_tmp rfl)) <| ?_
              simp [isReceiver, maxQuic, h1, h2, h3, h4, h5, h6]
            · replace h6 := of_not_F h6
              refine SK <| SQ <| gw_draw' [(0, .det), (1, .det), (2, .det), (3, .det), (4, .det), (5, .det), (6, .det), (7, .det), (8, .det)] [9, 10, 11] mixed rfl (free_det (free_det (free_det (free_det (free_det (free_det (free_det (free_det (free_det free_nil))))))))) (ts := [_, _, _]) rfl <| DT rfl rfl (fun K hk => FA rfl tyF_impl_Receiver_2 rfl hk) <| DT rfl rfl (fun K hk => LD (i := 0) rfl tyP_int rfl rfl rfl hk) <| DT rfl rfl (fun K hk => rw_neq rfl rfl rfl hk) <| DT rfl rfl (fun K hk => MV rfl rfl hk) <| ?_
              refine dw_case (i := 44) rfl (fun h7 => ?_) (fun h7 => ?_)
              · replace h7 := of_not_T h7
                refine DT rfl rfl (fun K hk => ON rfl rfl (not_F h7) (FA rfl tyF_impl_Receiver_1 rfl hk)) <| DT rfl rfl (fun K hk => ON rfl rfl (not_F h7) (LS (i := 0) [_, _] rfl tyS_impl_Buffer rfl rfl rfl rfl hk)) <| DT rfl rfl (fun K hk => ON rfl rfl (not_F h7) (CV1 rfl fun_impl_readyEnd rfl (fun w hs => impl_readyEnd ⟨_, rfl, (hA0.s Pl.keeps hs)⟩ ⟨hb0, hb1⟩) hk)) <| DT rfl rfl (fun K hk => ON rfl rfl (not_F h7) (FA rfl tyF_impl_Receiver_2 rfl hk)) <| DT rfl rfl (fun K hk => ON rfl rfl (not_F h7) (LD (i := 0) rfl tyP_int rfl rfl rfl hk)) <| ?_
                refine dw_nil <| ON rfl rfl (not_F h7) <| EQ1 rfl rfl rfl <| PT rfl rfl (not_F h7) rfl <| AS rfl rfl <| ND <| SQ <| SQ <| RG <| FA rfl tyF_impl_Receiver_0 rfl <| LD (i := 0) rfl tyP_int rfl rfl rfl <| ND <| BK <| SQ <| RG <| EQ1 rfl rfl rfl <| AS rfl rfl <| ND <| ?_
                refine gw_cond rfl (fun h8 => ?_) (fun h8 => ?_)
                · refine SQ <| RG <| FA rfl tyF_impl_Receiver_2 rfl <| LD (i := 0) rfl tyP_int rfl rfl rfl <| EQ1 rfl rfl rfl <| MV rfl rfl <| ?_
                  refine rw_case (j := 59) rfl (fun h9 => ?_) (fun h9 => ?_)
                  · refine ON rfl rfl h9 <| FA rfl tyF_impl_Receiver_4 rfl <| ON rfl rfl h9 <| LD (i := 0) rfl tyP_int rfl rfl rfl <| ON rfl rfl h9 <| EQ1 rfl rfl rfl <| PT rfl rfl h9 rfl <| AS rfl rfl <| ND <| ret_cv Try.func161 (res1 Try.func161 rfl (rv_tmp rfl)) <| ?_
                    simp_all []
                  · refine OF rfl rfl h9 rfl <| OF rfl rfl h9 rfl <| OF rfl rfl h9 rfl <| PF rfl rfl h9 rfl <| AS rfl rfl <| ND <| ret_cv Try.func161 (res1 Try.func161 rfl (rv_tmp rfl)) <| ?_
                    simp [isReceiver, maxQuic, h1, h2, h3, h4, h5, h6, h8]
                · refine SQ <| RG <| EQ1 rfl rfl rfl <| AS rfl rfl <| ND <| ?_
                  refine gw_cond rfl (fun h10 => ?_) (fun h10 => ?_)
                  · refine SQ <| RG <| FA rfl tyF_impl_Receiver_2 rfl <| LD (i := 0) rfl tyP_int rfl rfl rfl <| rw_neq rfl rfl rfl <| MV rfl rfl <| ?_
                    refine rw_case (j := 69) rfl (fun h11 => ?_) (fun h11 => ?_)
                    · replace h11 := of_not_T h11
                      refine ON rfl rfl (not_F h11) <| MV rfl rfl <| ON rfl rfl (not_F h11) <| NT rfl rfl <| PT rfl rfl (not_F h11) rfl <| MV rfl rfl <| ?_
                      refine rw_case (j := 73) rfl (fun h12 => ?_) (fun h12 => ?_)
                      · replace h12 := of_not_T h12
                        refine ON rfl rfl (not_F h12) <| FA rfl tyF_impl_Receiver_4 rfl <| ON rfl rfl (not_F h12) <| LD (i := 0) rfl tyP_int rfl rfl rfl <| ON rfl rfl (not_F h12) <| EQ1 rfl rfl rfl <| PT rfl rfl (not_F h12) rfl <| AS rfl rfl <| ND <| ret_cv Try.func161 (res1 Try.func161 rfl (rv_tmp rfl)) <| ?_
                        simp [isReceiver, maxQuic, h1, h2, h3, h4, h5, h6, h8, h10, h12]
                      · replace h12 := of_not_F h12
                        refine OF rfl rfl (not_T h12) rfl <| OF rfl rfl (not_T h12) rfl <| OF rfl rfl (not_T h12) rfl <| PF rfl rfl (not_T h12) rfl <| AS rfl rfl <| ND <| ret_cv Try.func161 (res1 Try.func161 rfl (rv_tmp rfl)) <| ?_
                        simp [isReceiver, maxQuic, h1, h2, h3, h4, h5, h6, h8, h10, h12]
                    · replace h11 := of_not_F h11
                      refine OF rfl rfl (not_T h11) rfl <| OF rfl rfl (not_T h11) rfl <| PF rfl rfl (not_T h11) rfl <| MV rfl rfl <| OF rfl rfl rfl rfl <| OF rfl rfl rfl rfl <| OF rfl rfl rfl rfl <| PF rfl rfl rfl rfl <| AS rfl rfl <| ND <| ret_cv Try.func161 (res1 Try.func161 rfl (rv_tmp rfl)) <| ?_
                      simp_all []
                  · refine SQ <| RG <| EQ1 rfl rfl rfl <| AS rfl rfl <| ND <| ?_
                    refine gw_cond rfl (fun h13 => ?_) (fun h13 => ?_)
                    · refine SQ <| RG <| MV rfl rfl <| MV rfl rfl <| ?_
                      refine rw_case (j := 81) rfl (fun h14 => ?_) (fun h14 => ?_)
                      · refine ON rfl rfl h14 <| FA rfl tyF_impl_Receiver_4 rfl <| ON rfl rfl h14 <| LD (i := 0) rfl tyP_int rfl rfl rfl <| ON rfl rfl h14 <| EQ1 rfl rfl rfl <| PT rfl rfl h14 rfl <| AS rfl rfl <| ND <| ret_cv Try.func161 (res1 Try.func161 rfl (rv_tmp rfl)) <| ?_
                        simp [isReceiver, maxQuic, h1, h2, h3, h4, h5, h6, h8, h10, h13, h14]
                      · refine OF rfl rfl h14 rfl <| OF rfl rfl h14 rfl <| OF rfl rfl h14 rfl <| PF rfl rfl h14 rfl <| AS rfl rfl <| ND <| ret_cv Try.func161 (res1 Try.func161 rfl (rv_tmp rfl)) <| ?_
                        simp [isReceiver, maxQuic, h1, h2, h3, h4, h5, h6, h8, h10, h13, h14]
                    · refine SQ <| RG <| EQ1 rfl rfl rfl <| AS rfl rfl <| ND <| ?_
                      refine gw_cond rfl (fun h15 => ?_) (fun h15 => ?_)
                      · refine SQ <| RG <| MV rfl rfl <| MV rfl rfl <| ?_
                        refine rw_case (j := 89) rfl (fun h16 => ?_) (fun h16 => ?_)
                        · refine ON rfl rfl h16 <| FA rfl tyF_impl_Receiver_4 rfl <| ON rfl rfl h16 <| LD (i := 0) rfl tyP_int rfl rfl rfl <| ON rfl rfl h16 <| EQ1 rfl rfl rfl <| PT rfl rfl h16 rfl <| MV rfl rfl <| ?_
                          refine rw_case (j := 94) rfl (fun h17 => ?_) (fun h17 => ?_)
                          · refine ON rfl rfl h17 <| FA rfl tyF_impl_Receiver_1 rfl <| ON rfl rfl h17 <| FA rfl tyF_impl_Buffer_1 rfl <| ON rfl rfl h17 <| LD (i := 0) rfl tyP_S_impl_Chunk rfl rfl rfl <| ON rfl rfl h17 <| rw_len rfl tyE_S_impl_Chunk rfl <| ON rfl rfl h17 <| EQ1 rfl rfl rfl <| PT rfl rfl h17 rfl <| AS rfl rfl <| ND <| ret_cv Try.func161 (res1 Try.func161 rfl (rv_tmp rfl)) <| ?_
                            simp [isReceiver, maxQuic, h1, h2, h3, h4, h5, h6, h8, h10, h13, h15, h16, h17]
                          · refine OF rfl rfl h17 rfl <| OF rfl rfl h17 rfl <| OF rfl rfl h17 rfl <| OF rfl rfl h17 rfl <| OF rfl rfl h17 rfl <| PF rfl rfl h17 rfl <| AS rfl rfl <| ND <| ret_cv Try.func161 (res1 Try.func161 rfl (rv_tmp rfl)) <| ?_
                            simp [isReceiver, maxQuic, h1, h2, h3, h4, h5, h6, h8, h10, h13, h15, h16, h17]
                        · refine OF rfl rfl h16 rfl <| OF rfl rfl h16 rfl <| OF rfl rfl h16 rfl <| PF rfl rfl h16 rfl <| MV rfl rfl <| OF rfl rfl rfl rfl <| OF rfl rfl rfl rfl <| OF rfl rfl rfl rfl <| OF rfl rfl rfl rfl <| OF rfl rfl rfl rfl <| PF rfl rfl rfl rfl <| AS rfl rfl <| ND <| ret_cv Try.func161 (res1 Try.func161 rfl (rv_tmp rfl)) <| ?_
                          simp [isReceiver, maxQuic, h1, h2, h3, h4, h5, h6, h8, h10, h13, h15, h16]
                      · refine SQ <| SQ <| RG <| EQ1 rfl rfl rfl <| AS rfl rfl <| ND <| ?_
                        refine gw_cond rfl (fun h18 => ?_) (fun h18 => ?_)
                        · refine SK <| CT rfl h18 <| SQ <| RG <| FA rfl tyF_impl_Receiver_2 rfl <| LD (i := 0) rfl tyP_int rfl rfl rfl <| FA rfl tyF_impl_Receiver_3 rfl <| LD (i := 0) rfl tyP_int rfl rfl rfl <| EQ1 rfl rfl rfl <| MV rfl rfl <| ?_
                          refine rw_case (j := 109) rfl (fun h19 => ?_) (fun h19 => ?_)
                          · refine ON rfl rfl h19 <| FA rfl tyF_impl_Receiver_1 rfl <| ON rfl rfl h19 <| FA rfl tyF_impl_Buffer_1 rfl <| ON rfl rfl h19 <| LD (i := 0) rfl tyP_S_impl_Chunk rfl rfl rfl <| ON rfl rfl h19 <| rw_len rfl tyE_S_impl_Chunk rfl <| ON rfl rfl h19 <| EQ1 rfl rfl rfl <| PT rfl rfl h19 rfl <| AS rfl rfl <| ND <| ret_cv Try.func161 (res1 Try.func161 rfl (rv_tmp rfl)) <| ?_
                            simp [isReceiver, maxQuic, h1, h2, h3, h4, h5, h6, h8, h10, h13, h15, h18, h19]
                          · refine OF rfl rfl h19 rfl <| OF rfl rfl h19 rfl <| OF rfl rfl h19 rfl <| OF rfl rfl h19 rfl <| OF rfl rfl h19 rfl <| PF rfl rfl h19 rfl <| AS rfl rfl <| ND <| ret_cv Try.func161 (res1 Try.func161 rfl (rv_tmp rfl)) <| ?_
                            simp [isReceiver, maxQuic, h1, h2, h3, h4, h5, h6, h8, h10, h13, h15, h18, h19]
                        · refine RG <| EQ1 rfl rfl rfl <| AS rfl rfl <| ND <| ?_
                          refine gw_cond rfl (fun h20 => ?_) (fun h20 => ?_)
                          · refine SQ <| RG <| FA rfl tyF_impl_Receiver_2 rfl <| LD (i := 0) rfl tyP_int rfl rfl rfl <| FA rfl tyF_impl_Receiver_3 rfl <| LD (i := 0) rfl tyP_int rfl rfl rfl <| EQ1 rfl rfl rfl <| MV rfl rfl <| ?_
                            refine rw_case (j := 109) rfl (fun h21 => ?_) (fun h21 => ?_)
                            · refine ON rfl rfl h21 <| FA rfl tyF_impl_Receiver_1 rfl <| ON rfl rfl h21 <| FA rfl tyF_impl_Buffer_1 rfl <| ON rfl rfl h21 <| LD (i := 0) rfl tyP_S_impl_Chunk rfl rfl rfl <| ON rfl rfl h21 <| rw_len rfl tyE_S_impl_Chunk rfl <| ON rfl rfl h21 <| EQ1 rfl rfl rfl <| PT rfl rfl h21 rfl <| AS rfl rfl <| ND <| ret_cv Try.func161 (res1 Try.func161 rfl (rv_tmp rfl)) <| ?_
                              simp [isReceiver, maxQuic, h1, h2, h3, h4, h5, h6, h8, h10, h13, h15, h18, h20, h21]
                            · refine OF rfl rfl h21 rfl <| OF rfl rfl h21 rfl <| OF rfl rfl h21 rfl <| OF rfl rfl h21 rfl <| OF rfl rfl h21 rfl <| PF rfl rfl h21 rfl <| AS rfl rfl <| ND <| ret_cv Try.func161 (res1 Try.func161 rfl (rv_tmp rfl)) <| ?_
                              simp [isReceiver, maxQuic, h1, h2, h3, h4, h5, h6, h8, h10, h13, h15, h18, h20, h21]
                          · refine SK <| IB <| SQ <| RG <| AS rfl rfl <| ND <| ret_cv Try.func161 (res1 Try.func161 rfl (rv_tmp rfl)) <| ?_
                            simp [isReceiver, maxQuic, h1, h2, h3, h4, h5, h6, h8, h10, h13, h15, h18, h20]
              · replace h7 := of_not_F h7
                refine DT rfl rfl (fun K hk => OF rfl rfl (not_T h7) rfl hk) <| DT rfl rfl (fun K hk => OF rfl rfl (not_T h7) rfl hk) <| DT rfl rfl (fun K hk => OF rfl rfl (not_T h7) rfl hk) <| DT rfl rfl (fun K hk => OF rfl rfl (not_T h7) rfl hk) <| DT rfl rfl (fun K hk => OF rfl rfl (not_T h7) rfl hk) <| dw_nil <| OF rfl rfl (not_T h7) rfl <| PF rfl rfl (not_T h7) rfl <| AS rfl rfl <| ND <| SQ <| SQ <| RG <| FA rfl tyF_impl_Receiver_0 rfl <| LD (i := 0) rfl tyP_int rfl rfl rfl <| ND <| BK <| SQ <| ?_
                refine RG <| EQ1 rfl rfl rfl <| AS rfl rfl <| ND <| ?_
                refine gw_cond rfl (fun h22 => ?_) (fun h22 => ?_)
                · refine SQ <| RG <| FA rfl tyF_impl_Receiver_2 rfl <| LD (i := 0) rfl tyP_int rfl rfl rfl <| EQ1 rfl rfl rfl <| MV rfl rfl <| ?_
                  refine rw_case (j := 59) rfl (fun h23 => ?_) (fun h23 => ?_)
                  · refine ON rfl rfl h23 <| FA rfl tyF_impl_Receiver_4 rfl <| ON rfl rfl h23 <| LD (i := 0) rfl tyP_int rfl rfl rfl <| ON rfl rfl h23 <| EQ1 rfl rfl rfl <| PT rfl rfl h23 rfl <| AS rfl rfl <| ND <| ret_cv Try.func161 (res1 Try.func161 rfl (rv_tmp rfl)) <| ?_
                    simp_all []
                  · refine OF rfl rfl h23 rfl <| OF rfl rfl h23 rfl <| OF rfl rfl h23 rfl <| PF rfl rfl h23 rfl <| AS rfl rfl <| ND <| ret_cv Try.func161 (res1 Try.func161 rfl (rv_tmp rfl)) <| ?_
                    simp [isReceiver, maxQuic, h1, h2, h3, h4, h5, h6, h22]
                · refine SQ <| RG <| EQ1 rfl rfl rfl <| AS rfl rfl <| ND <| ?_
                  refine gw_cond rfl (fun h24 => ?_) (fun h24 => ?_)
                  · refine SQ <| RG <| FA rfl tyF_impl_Receiver_2 rfl <| LD (i := 0) rfl tyP_int rfl rfl rfl <| rw_neq rfl rfl rfl <| MV rfl rfl <| ?_
                    refine rw_case (j := 69) rfl (fun h25 => ?_) (fun h25 => ?_)
                    · replace h25 := of_not_T h25
                      refine ON rfl rfl (not_F h25) <| MV rfl rfl <| ON rfl rfl (not_F h25) <| NT rfl rfl <| PT rfl rfl (not_F h25) rfl <| MV rfl rfl <| ON rfl rfl rfl <| FA rfl tyF_impl_Receiver_4 rfl <| ON rfl rfl rfl <| LD (i := 0) rfl tyP_int rfl rfl rfl <| ON rfl rfl rfl <| EQ1 rfl rfl rfl <| PT rfl rfl rfl rfl <| AS rfl rfl <| ND <| ret_cv Try.func161 (res1 Try.func161 rfl (rv_tmp rfl)) <| ?_
                      simp_all []
                    · replace h25 := of_not_F h25
                      refine OF rfl rfl (not_T h25) rfl <| OF rfl rfl (not_T h25) rfl <| PF rfl rfl (not_T h25) rfl <| MV rfl rfl <| OF rfl rfl rfl rfl <| OF rfl rfl rfl rfl <| OF rfl rfl rfl rfl <| PF rfl rfl rfl rfl <| AS rfl rfl <| ND <| ret_cv Try.func161 (res1 Try.func161 rfl (rv_tmp rfl)) <| ?_
                      simp_all []
                  · refine SQ <| RG <| EQ1 rfl rfl rfl <| AS rfl rfl <| ND <| ?_
                    refine gw_cond rfl (fun h26 => ?_) (fun h26 => ?_)
                    · refine SQ <| RG <| MV rfl rfl <| MV rfl rfl <| OF rfl rfl rfl rfl <| OF rfl rfl rfl rfl <| OF rfl rfl rfl rfl <| PF rfl rfl rfl rfl <| AS rfl rfl <| ND <| ret_cv Try.func161 (res1 Try.func161 rfl (rv_tmp rfl)) <| ?_
                      simp_all []
                    · refine SQ <| RG <| EQ1 rfl rfl rfl <| AS rfl rfl <| ND <| ?_
                      refine gw_cond rfl (fun h27 => ?_) (fun h27 => ?_)
                      · refine SQ <| RG <| MV rfl rfl <| MV rfl rfl <| OF rfl rfl rfl rfl <| OF rfl rfl rfl rfl <| OF rfl rfl rfl rfl <| PF rfl rfl rfl rfl <| MV rfl rfl <| OF rfl rfl rfl rfl <| OF rfl rfl rfl rfl <| OF rfl rfl rfl rfl <| OF rfl rfl rfl rfl <| OF rfl rfl rfl rfl <| PF rfl rfl rfl rfl <| AS rfl rfl <| ND <| ret_cv Try.func161 (res1 Try.func161 rfl (rv_tmp rfl)) <| ?_
                        simp_all []
                      · refine SQ <| SQ <| RG <| EQ1 rfl rfl rfl <| AS rfl rfl <| ND <| ?_
                        refine gw_cond rfl (fun h28 => ?_) (fun h28 => ?_)
                        · refine SK <| CT rfl h28 <| SQ <| RG <| FA rfl tyF_impl_Receiver_2 rfl <| LD (i := 0) rfl tyP_int rfl rfl rfl <| FA rfl tyF_impl_Receiver_3 rfl <| LD (i := 0) rfl tyP_int rfl rfl rfl <| EQ1 rfl rfl rfl <| MV rfl rfl <| ?_
                          refine rw_case (j := 109) rfl (fun h29 => ?_) (fun h29 => ?_)
                          · refine ON rfl rfl h29 <| FA rfl tyF_impl_Receiver_1 rfl <| ON rfl rfl h29 <| FA rfl tyF_impl_Buffer_1 rfl <| ON rfl rfl h29 <| LD (i := 0) rfl tyP_S_impl_Chunk rfl rfl rfl <| ON rfl rfl h29 <| rw_len rfl tyE_S_impl_Chunk rfl <| ON rfl rfl h29 <| EQ1 rfl rfl rfl <| PT rfl rfl h29 rfl <| AS rfl rfl <| ND <| ret_cv Try.func161 (res1 Try.func161 rfl (rv_tmp rfl)) <| ?_
                            simp [isReceiver, maxQuic, h1, h2, h3, h4, h5, h6, h22, h24, h26, h27, h28, h29]
                          · refine OF rfl rfl h29 rfl <| OF rfl rfl h29 rfl <| OF rfl rfl h29 rfl <| OF rfl rfl h29 rfl <| OF rfl rfl h29 rfl <| PF rfl rfl h29 rfl <| AS rfl rfl <| ND <| ret_cv Try.func161 (res1 Try.func161 rfl (rv_tmp rfl)) <| ?_
                            simp [isReceiver, maxQuic, h1, h2, h3, h4, h5, h6, h22, h24, h26, h27, h28, h29]
                        · refine RG <| EQ1 rfl rfl rfl <| AS rfl rfl <| ND <| ?_
                          refine gw_cond rfl (fun h30 => ?_) (fun h30 => ?_)
                          · refine SQ <| RG <| FA rfl tyF_impl_Receiver_2 rfl <| LD (i := 0) rfl tyP_int rfl rfl rfl <| FA rfl tyF_impl_Receiver_3 rfl <| LD (i := 0) rfl tyP_int rfl rfl rfl <| EQ1 rfl rfl rfl <| MV rfl rfl <| ?_
                            refine rw_case (j := 109) rfl (fun h31 => ?_) (fun h31 => ?_)
                            · refine ON rfl rfl h31 <| FA rfl tyF_impl_Receiver_1 rfl <| ON rfl rfl h31 <| FA rfl tyF_impl_Buffer_1 rfl <| ON rfl rfl h31 <| LD (i := 0) rfl tyP_S_impl_Chunk rfl rfl rfl <| ON rfl rfl h31 <| rw_len rfl tyE_S_impl_Chunk rfl <| ON rfl rfl h31 <| EQ1 rfl rfl rfl <| PT rfl rfl h31 rfl <| AS rfl rfl <| ND <| ret_cv Try.func161 (res1 Try.func161 rfl (rv_tmp rfl)) <| ?_
                              simp [isReceiver, maxQuic, h1, h2, h3, h4, h5, h6, h22, h24, h26, h27, h28, h30, h31]
                            · refine OF rfl rfl h31 rfl <| OF rfl rfl h31 rfl <| OF rfl rfl h31 rfl <| OF rfl rfl h31 rfl <| OF rfl rfl h31 rfl <| PF rfl rfl h31 rfl <| AS rfl rfl <| ND <| ret_cv Try.func161 (res1 Try.func161 rfl (rv_tmp rfl)) <| ?_
                              simp [isReceiver, maxQuic, h1, h2, h3, h4, h5, h6, h22, h24, h26, h27, h28, h30, h31]
                          · refine SK <| IB <| SQ <| RG <| AS rfl rfl <| ND <| ret_cv Try.func161 (res1 Try.func161 rfl (rv_tmp rfl)) <| ?_
                            simp [isReceiver, maxQuic, h1, h2, h3, h4, h5, h6, h22, h24, h26, h27, h28, h30]
          · replace h5 := of_not_F h5
            refine DT rfl rfl (fun K hk => OF rfl rfl (not_T h5) rfl hk) <| DT rfl rfl (fun K hk => OF rfl rfl (not_T h5) rfl hk) <| DT rfl rfl (fun K hk => OF rfl rfl (not_T h5) rfl hk) <| DT rfl rfl (fun K hk => OF rfl rfl (not_T h5) rfl hk) <| dw_nil <| OF rfl rfl (not_T h5) rfl <| OF rfl rfl (not_T h5) rfl <| ON rfl rfl (not_T h4) <| PF rfl rfl (not_T h5) rfl <| PF rfl rfl (not_T h4) rfl <| ND <| CF rfl rfl <| SK <| SQ <| gw_draw' [(0, .det), (1, .det), (2, .det), (3, .det), (4, .det), (5, .det), (6, .det), (7, .det), (8, .det)] [9, 10, 11] mixed rfl (free_det (free_det (free_det (free_det (free_det (free_det (free_det (free_det (free_det free_nil))))))))) (ts := [_, _, _]) rfl <| ?_
            refine DT rfl rfl (fun K hk => FA rfl tyF_impl_Receiver_2 rfl hk) <| DT rfl rfl (fun K hk => LD (i := 0) rfl tyP_int rfl rfl rfl hk) <| DT rfl rfl (fun K hk => rw_neq rfl rfl rfl hk) <| DT rfl rfl (fun K hk => MV rfl rfl hk) <| ?_
            refine dw_case (i := 44) rfl (fun h32 => ?_) (fun h32 => ?_)
            · replace h32 := of_not_T h32
              refine DT rfl rfl (fun K hk => ON rfl rfl (not_F h32) (FA rfl tyF_impl_Receiver_1 rfl hk)) <| DT rfl rfl (fun K hk => ON rfl rfl (not_F h32) (LS (i := 0) [_, _] rfl tyS_impl_Buffer rfl rfl rfl rfl hk)) <| DT rfl rfl (fun K hk => ON rfl rfl (not_F h32) (CV1 rfl fun_impl_readyEnd rfl (fun w hs => impl_readyEnd ⟨_, rfl, (hA0.s Pl.keeps hs)⟩ ⟨hb0, hb1⟩) hk)) <| DT rfl rfl (fun K hk => ON rfl rfl (not_F h32) (FA rfl tyF_impl_Receiver_2 rfl hk)) <| DT rfl rfl (fun K hk => ON rfl rfl (not_F h32) (LD (i := 0) rfl tyP_int rfl rfl rfl hk)) <| ?_
              refine dw_nil <| ON rfl rfl (not_F h32) <| EQ1 rfl rfl rfl <| PT rfl rfl (not_F h32) rfl <| AS rfl rfl <| ND <| SQ <| SQ <| RG <| FA rfl tyF_impl_Receiver_0 rfl <| LD (i := 0) rfl tyP_int rfl rfl rfl <| ND <| BK <| SQ <| RG <| EQ1 rfl rfl rfl <| AS rfl rfl <| ND <| ?_
              refine gw_cond rfl (fun h33 => ?_) (fun h33 => ?_)
              · refine SQ <| RG <| FA rfl tyF_impl_Receiver_2 rfl <| LD (i := 0) rfl tyP_int rfl rfl rfl <| EQ1 rfl rfl rfl <| MV rfl rfl <| ?_
                refine rw_case (j := 59) rfl (fun h34 => ?_) (fun h34 => ?_)
                · refine ON rfl rfl h34 <| FA rfl tyF_impl_Receiver_4 rfl <| ON rfl rfl h34 <| LD (i := 0) rfl tyP_int rfl rfl rfl <| ON rfl rfl h34 <| EQ1 rfl rfl rfl <| PT rfl rfl h34 rfl <| AS rfl rfl <| ND <| ret_cv Try.func161 (res1 Try.func161 rfl (rv_tmp rfl)) <| ?_
                  simp [isReceiver, maxQuic, h1, h2, h3, h4, h5, h33]
                · refine OF rfl rfl h34 rfl <| OF rfl rfl h34 rfl <| OF rfl rfl h34 rfl <| PF rfl rfl h34 rfl <| AS rfl rfl <| ND <| ret_cv Try.func161 (res1 Try.func161 rfl (rv_tmp rfl)) <| ?_
                  simp_all []
              · refine SQ <| RG <| EQ1 rfl rfl rfl <| AS rfl rfl <| ND <| ?_
                refine gw_cond rfl (fun h35 => ?_) (fun h35 => ?_)
                · refine SQ <| RG <| FA rfl tyF_impl_Receiver_2 rfl <| LD (i := 0) rfl tyP_int rfl rfl rfl <| rw_neq rfl rfl rfl <| MV rfl rfl <| ?_
                  refine rw_case (j := 69) rfl (fun h36 => ?_) (fun h36 => ?_)
                  · replace h36 := of_not_T h36
                    refine ON rfl rfl (not_F h36) <| MV rfl rfl <| ON rfl rfl (not_F h36) <| NT rfl rfl <| PT rfl rfl (not_F h36) rfl <| MV rfl rfl <| ?_
                    refine rw_case (j := 73) rfl (fun h37 => ?_) (fun h37 => ?_)
                    · replace h37 := of_not_T h37
                      refine ON rfl rfl (not_F h37) <| FA rfl tyF_impl_Receiver_4 rfl <| ON rfl rfl (not_F h37) <| LD (i := 0) rfl tyP_int rfl rfl rfl <| ON rfl rfl (not_F h37) <| EQ1 rfl rfl rfl <| PT rfl rfl (not_F h37) rfl <| AS rfl rfl <| ND <| ret_cv Try.func161 (res1 Try.func161 rfl (rv_tmp rfl)) <| ?_
                      simp_all []
                    · replace h37 := of_not_F h37
                      refine OF rfl rfl (not_T h37) rfl <| OF rfl rfl (not_T h37) rfl <| OF rfl rfl (not_T h37) rfl <| PF rfl rfl (not_T h37) rfl <| AS rfl rfl <| ND <| ret_cv Try.func161 (res1 Try.func161 rfl (rv_tmp rfl)) <| ?_
                      simp [isReceiver, maxQuic, h1, h2, h3, h4, h5, h33, h35, h37]
                  · replace h36 := of_not_F h36
                    refine OF rfl rfl (not_T h36) rfl <| OF rfl rfl (not_T h36) rfl <| PF rfl rfl (not_T h36) rfl <| MV rfl rfl <| OF rfl rfl rfl rfl <| OF rfl rfl rfl rfl <| OF rfl rfl rfl rfl <| PF rfl rfl rfl rfl <| AS rfl rfl <| ND <| ret_cv Try.func161 (res1 Try.func161 rfl (rv_tmp rfl)) <| ?_
                    simp [isReceiver, maxQuic, h1, h2, h3, h4, h5, h33, h35]
                · refine SQ <| RG <| EQ1 rfl rfl rfl <| AS rfl rfl <| ND <| ?_
                  refine gw_cond rfl (fun h38 => ?_) (fun h38 => ?_)
                  · refine SQ <| RG <| MV rfl rfl <| MV rfl rfl <| ?_
                    refine rw_case (j := 81) rfl (fun h39 => ?_) (fun h39 => ?_)
                    · refine ON rfl rfl h39 <| FA rfl tyF_impl_Receiver_4 rfl <| ON rfl rfl h39 <| LD (i := 0) rfl tyP_int rfl rfl rfl <| ON rfl rfl h39 <| EQ1 rfl rfl rfl <| PT rfl rfl h39 rfl <| AS rfl rfl <| ND <| ret_cv Try.func161 (res1 Try.func161 rfl (rv_tmp rfl)) <| ?_
                      simp_all []
                    · refine OF rfl rfl h39 rfl <| OF rfl rfl h39 rfl <| OF rfl rfl h39 rfl <| PF rfl rfl h39 rfl <| AS rfl rfl <| ND <| ret_cv Try.func161 (res1 Try.func161 rfl (rv_tmp rfl)) <| ?_
                      simp [isReceiver, maxQuic, h1, h2, h3, h4, h5, h33, h35, h38, h39]
                  · refine SQ <| RG <| EQ1 rfl rfl rfl <| AS rfl rfl <| ND <| ?_
                    refine gw_cond rfl (fun h40 => ?_) (fun h40 => ?_)
                    · refine SQ <| RG <| MV rfl rfl <| MV rfl rfl <| ?_
                      refine rw_case (j := 89) rfl (fun h41 => ?_) (fun h41 => ?_)
                      · refine ON rfl rfl h41 <| FA rfl tyF_impl_Receiver_4 rfl <| ON rfl rfl h41 <| LD (i := 0) rfl tyP_int rfl rfl rfl <| ON rfl rfl h41 <| EQ1 rfl rfl rfl <| PT rfl rfl h41 rfl <| MV rfl rfl <| ?_
                        refine rw_case (j := 94) rfl (fun h42 => ?_) (fun h42 => ?_)
                        · refine ON rfl rfl h42 <| FA rfl tyF_impl_Receiver_1 rfl <| ON rfl rfl h42 <| FA rfl tyF_impl_Buffer_1 rfl <| ON rfl rfl h42 <| LD (i := 0) rfl tyP_S_impl_Chunk rfl rfl rfl <| ON rfl rfl h42 <| rw_len rfl tyE_S_impl_Chunk rfl <| ON rfl rfl h42 <| EQ1 rfl rfl rfl <| PT rfl rfl h42 rfl <| AS rfl rfl <| ND <| ret_cv Try.func161 (res1 Try.func161 rfl (rv_tmp rfl)) <| ?_
                          simp_all []
                        · refine OF rfl rfl h42 rfl <| OF rfl rfl h42 rfl <| OF rfl rfl h42 rfl <| OF rfl rfl h42 rfl <| OF rfl rfl h42 rfl <| PF rfl rfl h42 rfl <| AS rfl rfl <| ND <| ret_cv Try.func161 (res1 Try.func161 rfl (rv_tmp rfl)) <| ?_
                          simp [isReceiver, maxQuic, h1, h2, h3, h4, h5, h33, h35, h38, h40, h41, h42]
                      · refine OF rfl rfl h41 rfl <| OF rfl rfl h41 rfl <| OF rfl rfl h41 rfl <| PF rfl rfl h41 rfl <| MV rfl rfl <| OF rfl rfl rfl rfl <| OF rfl rfl rfl rfl <| OF rfl rfl rfl rfl <| OF rfl rfl rfl rfl <| OF rfl rfl rfl rfl <| PF rfl rfl rfl rfl <| AS rfl rfl <| ND <| ret_cv Try.func161 (res1 Try.func161 rfl (rv_tmp rfl)) <| ?_
                        simp [isReceiver, maxQuic, h1, h2, h3, h4, h5, h33, h35, h38, h40, h41]
                    · refine SQ <| SQ <| RG <| EQ1 rfl rfl rfl <| AS rfl rfl <| ND <| ?_
                      refine gw_cond rfl (fun h43 => ?_) (fun h43 => ?_)
                      · refine SK <| CT rfl h43 <| SQ <| RG <| FA rfl tyF_impl_Receiver_2 rfl <| LD (i := 0) rfl tyP_int rfl rfl rfl <| FA rfl tyF_impl_Receiver_3 rfl <| LD (i := 0) rfl tyP_int rfl rfl rfl <| EQ1 rfl rfl rfl <| MV rfl rfl <| ?_
                        refine rw_case (j := 109) rfl (fun h44 => ?_) (fun h44 => ?_)
                        · refine ON rfl rfl h44 <| FA rfl tyF_impl_Receiver_1 rfl <| ON rfl rfl h44 <| FA rfl tyF_impl_Buffer_1 rfl <| ON rfl rfl h44 <| LD (i := 0) rfl tyP_S_impl_Chunk rfl rfl rfl <| ON rfl rfl h44 <| rw_len rfl tyE_S_impl_Chunk rfl <| ON rfl rfl h44 <| EQ1 rfl rfl rfl <| PT rfl rfl h44 rfl <| AS rfl rfl <| ND <| ret_cv Try.func161 (res1 Try.func161 rfl (rv_tmp rfl)) <| ?_
                          simp [isReceiver, maxQuic, h1, h2, h3, h4, h5, h33, h35, h38, h40, h43, h44]
                        · refine OF rfl rfl h44 rfl <| OF rfl rfl h44 rfl <| OF rfl rfl h44 rfl <| OF rfl rfl h44 rfl <| OF rfl rfl h44 rfl <| PF rfl rfl h44 rfl <| AS rfl rfl <| ND <| ret_cv Try.func161 (res1 Try.func161 rfl (rv_tmp rfl)) <| ?_
                          simp [isReceiver, maxQuic, h1, h2, h3, h4, h5, h33, h35, h38, h40, h43, h44]
                      · refine RG <| EQ1 rfl rfl rfl <| AS rfl rfl <| ND <| ?_
                        refine gw_cond rfl (fun h45 => ?_) (fun h45 => ?_)
                        · refine SQ <| RG <| FA rfl tyF_impl_Receiver_2 rfl <| LD (i := 0) rfl tyP_int rfl rfl rfl <| FA rfl tyF_impl_Receiver_3 rfl <| LD (i := 0) rfl tyP_int rfl rfl rfl <| EQ1 rfl rfl rfl <| MV rfl rfl <| ?_
                          refine rw_case (j := 109) rfl (fun h46 => ?_) (fun h46 => ?_)
                          · refine ON rfl rfl h46 <| FA rfl tyF_impl_Receiver_1 rfl <| ON rfl rfl h46 <| FA rfl tyF_impl_Buffer_1 rfl <| ON rfl rfl h46 <| LD (i := 0) rfl tyP_S_impl_Chunk rfl rfl rfl <| ON rfl rfl h46 <| rw_len rfl tyE_S_impl_Chunk rfl <| ON rfl rfl h46 <| EQ1 rfl rfl rfl <| PT rfl rfl h46 rfl <| AS rfl rfl <| ND <| ret_cv Try.func161 (res1 Try.func161 rfl (rv_tmp rfl)) <| ?_
                            simp [isReceiver, maxQuic, h1, h2, h3, h4, h5, h33, h35, h38, h40, h43, h45, h46]
                          · refine OF rfl rfl h46 rfl <| OF rfl rfl h46 rfl <| OF rfl rfl h46 rfl <| OF rfl rfl h46 rfl <| OF rfl rfl h46 rfl <| PF rfl rfl h46 rfl <| AS rfl rfl <| ND <| ret_cv Try.func161 (res1 Try.func161 rfl (rv_tmp rfl)) <| ?_
                            simp [isReceiver, maxQuic, h1, h2, h3, h4, h5, h33, h35, h38, h40, h43, h45, h46]
                        · refine SK <| IB <| SQ <| RG <| AS rfl rfl <| ND <| ret_cv Try.func161 (res1 Try.func161 rfl (rv_tmp rfl)) <| ?_
                          simp [isReceiver, maxQuic, h1, h2, h3, h4, h5, h33, h35, h38, h40, h43, h45]
            · replace h32 := of_not_F h32
              refine DT rfl rfl (fun K hk => OF rfl rfl (not_T h32) rfl hk) <| DT rfl rfl (fun K hk => OF rfl rfl (not_T h32) rfl hk) <| DT rfl rfl (fun K hk => OF rfl rfl (not_T h32) rfl hk) <| DT rfl rfl (fun K hk => OF rfl rfl (not_T h32) rfl hk) <| DT rfl rfl (fun K hk => OF rfl rfl (not_T h32) rfl hk) <| dw_nil <| OF rfl rfl (not_T h32) rfl <| PF rfl rfl (not_T h32) rfl <| AS rfl rfl <| ND <| SQ <| SQ <| RG <| FA rfl tyF_impl_Receiver_0 rfl <| LD (i := 0) rfl tyP_int rfl rfl rfl <| ND <| BK <| ?_
              refine SQ <| RG <| EQ1 rfl rfl rfl <| AS rfl rfl <| ND <| ?_
              refine gw_cond rfl (fun h47 => ?_) (fun h47 => ?_)
              · refine SQ <| RG <| FA rfl tyF_impl_Receiver_2 rfl <| LD (i := 0) rfl tyP_int rfl rfl rfl <| EQ1 rfl rfl rfl <| MV rfl rfl <| ?_
                refine rw_case (j := 59) rfl (fun h48 => ?_) (fun h48 => ?_)
                · refine ON rfl rfl h48 <| FA rfl tyF_impl_Receiver_4 rfl <| ON rfl rfl h48 <| LD (i := 0) rfl tyP_int rfl rfl rfl <| ON rfl rfl h48 <| EQ1 rfl rfl rfl <| PT rfl rfl h48 rfl <| AS rfl rfl <| ND <| ret_cv Try.func161 (res1 Try.func161 rfl (rv_tmp rfl)) <| ?_
                  simp [isReceiver, maxQuic, h1, h2, h3, h4, h5, h47]
                · refine OF rfl rfl h48 rfl <| OF rfl rfl h48 rfl <| OF rfl rfl h48 rfl <| PF rfl rfl h48 rfl <| AS rfl rfl <| ND <| ret_cv Try.func161 (res1 Try.func161 rfl (rv_tmp rfl)) <| ?_
                  simp_all []
              · refine SQ <| RG <| EQ1 rfl rfl rfl <| AS rfl rfl <| ND <| ?_
                refine gw_cond rfl (fun h49 => ?_) (fun h49 => ?_)
                · refine SQ <| RG <| FA rfl tyF_impl_Receiver_2 rfl <| LD (i := 0) rfl tyP_int rfl rfl rfl <| rw_neq rfl rfl rfl <| MV rfl rfl <| ?_
                  refine rw_case (j := 69) rfl (fun h50 => ?_) (fun h50 => ?_)
                  · replace h50 := of_not_T h50
                    refine ON rfl rfl (not_F h50) <| MV rfl rfl <| ON rfl rfl (not_F h50) <| NT rfl rfl <| PT rfl rfl (not_F h50) rfl <| MV rfl rfl <| ON rfl rfl rfl <| FA rfl tyF_impl_Receiver_4 rfl <| ON rfl rfl rfl <| LD (i := 0) rfl tyP_int rfl rfl rfl <| ON rfl rfl rfl <| EQ1 rfl rfl rfl <| PT rfl rfl rfl rfl <| AS rfl rfl <| ND <| ret_cv Try.func161 (res1 Try.func161 rfl (rv_tmp rfl)) <| ?_
                    simp_all []
                  · replace h50 := of_not_F h50
                    refine OF rfl rfl (not_T h50) rfl <| OF rfl rfl (not_T h50) rfl <| PF rfl rfl (not_T h50) rfl <| MV rfl rfl <| OF rfl rfl rfl rfl <| OF rfl rfl rfl rfl <| OF rfl rfl rfl rfl <| PF rfl rfl rfl rfl <| AS rfl rfl <| ND <| ret_cv Try.func161 (res1 Try.func161 rfl (rv_tmp rfl)) <| ?_
                    simp [isReceiver, maxQuic, h1, h2, h3, h4, h5, h47, h49]
                · refine SQ <| RG <| EQ1 rfl rfl rfl <| AS rfl rfl <| ND <| ?_
                  refine gw_cond rfl (fun h51 => ?_) (fun h51 => ?_)
                  · refine SQ <| RG <| MV rfl rfl <| MV rfl rfl <| OF rfl rfl rfl rfl <| OF rfl rfl rfl rfl <| OF rfl rfl rfl rfl <| PF rfl rfl rfl rfl <| AS rfl rfl <| ND <| ret_cv Try.func161 (res1 Try.func161 rfl (rv_tmp rfl)) <| ?_
                    simp [isReceiver, maxQuic, h1, h2, h3, h4, h5, h47, h49, h51]
                  · refine SQ <| RG <| EQ1 rfl rfl rfl <| AS rfl rfl <| ND <| ?_
                    refine gw_cond rfl (fun h52 => ?_) (fun h52 => ?_)
                    · refine SQ <| RG <| MV rfl rfl <| MV rfl rfl <| OF rfl rfl rfl rfl <| OF rfl rfl rfl rfl <| OF rfl rfl rfl rfl <| PF rfl rfl rfl rfl <| MV rfl rfl <| OF rfl rfl rfl rfl <| OF rfl rfl rfl rfl <| OF rfl rfl rfl rfl <| OF rfl rfl rfl rfl <| OF rfl rfl rfl rfl <| PF rfl rfl rfl rfl <| AS rfl rfl <| ND <| ret_cv Try.func161 (res1 Try.func161 rfl (rv_tmp rfl)) <| ?_
                      simp [isReceiver, maxQuic, h1, h2, h3, h4, h5, h47, h49, h51, h52]
                    · refine SQ <| SQ <| RG <| EQ1 rfl rfl rfl <| AS rfl rfl <| ND <| ?_
                      refine gw_cond rfl (fun h53 => ?_) (fun h53 => ?_)
                      · refine SK <| CT rfl h53 <| SQ <| RG <| FA rfl tyF_impl_Receiver_2 rfl <| LD (i := 0) rfl tyP_int rfl rfl rfl <| FA rfl tyF_impl_Receiver_3 rfl <| LD (i := 0) rfl tyP_int rfl rfl rfl <| EQ1 rfl rfl rfl <| MV rfl rfl <| ?_
                        refine rw_case (j := 109) rfl (fun h54 => ?_) (fun h54 => ?_)
                        · refine ON rfl rfl h54 <| FA rfl tyF_impl_Receiver_1 rfl <| ON rfl rfl h54 <| FA rfl tyF_impl_Buffer_1 rfl <| ON rfl rfl h54 <| LD (i := 0) rfl tyP_S_impl_Chunk rfl rfl rfl <| ON rfl rfl h54 <| rw_len rfl tyE_S_impl_Chunk rfl <| ON rfl rfl h54 <| EQ1 rfl rfl rfl <| PT rfl rfl h54 rfl <| AS rfl rfl <| ND <| ret_cv Try.func161 (res1 Try.func161 rfl (rv_tmp rfl)) <| ?_
                          simp [isReceiver, maxQuic, h1, h2, h3, h4, h5, h47, h49, h51, h52, h53, h54]
                        · refine OF rfl rfl h54 rfl <| OF rfl rfl h54 rfl <| OF rfl rfl h54 rfl <| OF rfl rfl h54 rfl <| OF rfl rfl h54 rfl <| PF rfl rfl h54 rfl <| AS rfl rfl <| ND <| ret_cv Try.func161 (res1 Try.func161 rfl (rv_tmp rfl)) <| ?_
                          simp [isReceiver, maxQuic, h1, h2, h3, h4, h5, h47, h49, h51, h52, h53, h54]
                      · refine RG <| EQ1 rfl rfl rfl <| AS rfl rfl <| ND <| ?_
                        refine gw_cond rfl (fun h55 => ?_) (fun h55 => ?_)
                        · refine SQ <| RG <| FA rfl tyF_impl_Receiver_2 rfl <| LD (i := 0) rfl tyP_int rfl rfl rfl <| FA rfl tyF_impl_Receiver_3 rfl <| LD (i := 0) rfl tyP_int rfl rfl rfl <| EQ1 rfl rfl rfl <| MV rfl rfl <| ?_
                          refine rw_case (j := 109) rfl (fun h56 => ?_) (fun h56 => ?_)
                          · refine ON rfl rfl h56 <| FA rfl tyF_impl_Receiver_1 rfl <| ON rfl rfl h56 <| FA rfl tyF_impl_Buffer_1 rfl <| ON rfl rfl h56 <| LD (i := 0) rfl tyP_S_impl_Chunk rfl rfl rfl <| ON rfl rfl h56 <| rw_len rfl tyE_S_impl_Chunk rfl <| ON rfl rfl h56 <| EQ1 rfl rfl rfl <| PT rfl rfl h56 rfl <| AS rfl rfl <| ND <| ret_cv Try.func161 (res1 Try.func161 rfl (rv_tmp rfl)) <| ?_
                            simp [isReceiver, maxQuic, h1, h2, h3, h4, h5, h47, h49, h51, h52, h53, h55, h56]
                          · refine OF rfl rfl h56 rfl <| OF rfl rfl h56 rfl <| OF rfl rfl h56 rfl <| OF rfl rfl h56 rfl <| OF rfl rfl h56 rfl <| PF rfl rfl h56 rfl <| AS rfl rfl <| ND <| ret_cv Try.func161 (res1 Try.func161 rfl (rv_tmp rfl)) <| ?_
                            simp [isReceiver, maxQuic, h1, h2, h3, h4, h5, h47, h49, h51, h52, h53, h55, h56]
                        · refine SK <| IB <| SQ <| RG <| AS rfl rfl <| ND <| ret_cv Try.func161 (res1 Try.func161 rfl (rv_tmp rfl)) <| ?_
                          simp [isReceiver, maxQuic, h1, h2, h3, h4, h5, h47, h49, h51, h52, h53, h55]

theorem impl_IsReceived {w : World} {cs : List Value} {x : Receiver} (hv : RdReceiver w cs x) (hb : x.le 134217728) : CV Try.prog 97 [.agg cs.toArray] w (.bool (isReceived x)) := by
  obtain ⟨v0, rfl, k0⟩ := hv
  obtain ⟨A0, c0, rfl, hA0⟩ := k0
  obtain ⟨hb0, hb1⟩ := hb
  refine cv_of Try.func97 rfl rfl rfl <| SQ <| RG <| BX [_, _, _, _, _, _] rfl rfl rfl <| fun b1 => AS rfl rfl <| ND <| SQ <| RG <| LS (i := 0) [_, _, _, _, _, _] rfl tyS_impl_Receiver rfl rfl rfl rfl <| CV1 rfl fun_impl_IsReceiver rfl (fun w hs => impl_IsReceiver ⟨_, rfl, (hA0.s Pl.keeps hs)⟩ ⟨hb0, hb1⟩) <| MV rfl rfl <| ?_
  refine rw_case (j := 5) rfl (fun h1 => ?_) (fun h1 => ?_)
  · refine ON rfl rfl h1 <| FA rfl tyF_impl_Receiver_0 rfl <| ON rfl rfl h1 <| LD (i := 0) rfl tyP_int rfl rfl rfl <| ON rfl rfl h1 <| EQ1 rfl rfl rfl <| ON rfl rfl h1 <| MV rfl rfl <| ?_
    refine rw_case (j := 9) rfl (fun h2 => ?_) (fun h2 => ?_)
    · refine OF rfl rfl h2 rfl <| OF rfl rfl h2 rfl <| OF rfl rfl h2 rfl <| ON rfl rfl h1 <| PT rfl rfl h2 rfl <| PT rfl rfl h1 rfl <| AS rfl rfl <| ND <| ret_cv Try.func97 (res1 Try.func97 rfl (rv_tmp rfl)) <| ?_
      simp [isReceived, h1, h2]
    · refine ON rfl rfl h2 <| FA rfl tyF_impl_Receiver_0 rfl <| ON rfl rfl h2 <| LD (i := 0) rfl tyP_int rfl rfl rfl <| ON rfl rfl h2 <| EQ1 rfl rfl rfl <| ON rfl rfl h1 <| PF rfl rfl h2 rfl <| PT rfl rfl h1 rfl <| AS rfl rfl <| ND <| ret_cv Try.func97 (res1 Try.func97 rfl (rv_tmp rfl)) <| ?_
      simp [isReceived, h1, h2]
  · refine OF rfl rfl h1 rfl <| OF rfl rfl h1 rfl <| OF rfl rfl h1 rfl <| OF rfl rfl h1 rfl <| OU rfl rfl rfl <| OU rfl rfl rfl <| OU rfl rfl rfl <| OF rfl rfl h1 rfl <| PF rfl rfl h1 rfl <| AS rfl rfl <| ND <| ret_cv Try.func97 (res1 Try.func97 rfl (rv_tmp rfl)) <| ?_
    simp [isReceived, h1]

theorem impl_IsRecvOver {w : World} {cs : List Value} {x : Stream} (hv : RdStream w cs x) (hb : x.le 134217728) : CV Try.prog 33 [.agg cs.toArray] w (.bool (isRecvOver x)) := by
  obtain ⟨v0, v1, v2, v3, v4, rfl, k0, k1, k2, k3, k4⟩ := hv
  obtain ⟨A0, c0, rfl, hA0⟩ := k0
  obtain ⟨A1, c1, rfl, hA1⟩ := k1
  obtain ⟨A2, c2, rfl, hA2⟩ := k2
  obtain ⟨A3, c3, rfl, hA3⟩ := k3
  obtain ⟨A4, c4, rfl, hA4⟩ := k4
  obtain ⟨hb0, hb1, hb2, hb3, hb4, hb5⟩ := hb
  refine cv_of Try.func33 rfl rfl rfl <| SQ <| RG <| BX [_, _, _, _, _, _, _, _, _, _, _, _, _, _, _, _, _, _, _, _, _, _, _, _, _, _, _, _, _, _, _, _, _, _, _, _, _, _, _] rfl rfl rfl <| fun b1 => AS rfl rfl <| ND <| SQ <| RG <| FA rfl tyF_impl_Stream_7 rfl <| LD (i := 0) rfl tyP_bool rfl rfl rfl <| NT rfl rfl <| MV rfl rfl <| ?_
  refine rw_case (j := 6) rfl (fun h1 => ?_) (fun h1 => ?_)
  · replace h1 := of_not_T h1
    refine OF rfl rfl (not_F h1) rfl <| OF rfl rfl (not_F h1) rfl <| OF rfl rfl (not_F h1) rfl <| PT rfl rfl (not_F h1) rfl <| AS rfl rfl <| ND <| ret_cv Try.func33 (res1 Try.func33 rfl (rv_tmp rfl)) <| ?_
    simp [isRecvOver, h1]
  · replace h1 := of_not_F h1
    refine ON rfl rfl (not_T h1) <| FA rfl tyF_impl_Stream_3 rfl <| ON rfl rfl (not_T h1) <| LS (i := 0) [_, _, _, _, _, _] rfl tyS_impl_Receiver rfl rfl rfl rfl <| ON rfl rfl (not_T h1) <| CV1 rfl fun_impl_IsReceived rfl (fun w hs => impl_IsReceived ⟨_, rfl, (hA4.s Pl.keeps hs)⟩ ⟨hb4, hb5⟩) <| PF rfl rfl (not_T h1) rfl <| AS rfl rfl <| ND <| ret_cv Try.func33 (res1 Try.func33 rfl (rv_tmp rfl)) <| ?_
    simp [isRecvOver, h1]

theorem law_FnExactIsRecvOver {w : World} {cs : List Value} {x : Stream} (hv : RdStream w cs x) (hb : x.le 9223372036854775807) : CV Try.prog 7 [.agg cs.toArray] w (.bool true) := by
  obtain ⟨v0, v1, v2, v3, v4, rfl, k0, k1, k2, k3, k4⟩ := hv
  obtain ⟨A0, c0, rfl, hA0⟩ := k0
  obtain ⟨A1, c1, rfl, hA1⟩ := k1
  obtain ⟨A2, c2, rfl, hA2⟩ := k2
  obtain ⟨A3, c3, rfl, hA3⟩ := k3
  obtain ⟨A4, c4, rfl, hA4⟩ := k4
  obtain ⟨hb0, hb1, hb2, hb3, hb4, hb5⟩ := hb
  refine cv_of Try.func7 rfl rfl rfl <| SQ <| RG <| BX [_, _, _, _, _, _, _, _, _, _, _, _, _, _, _, _, _, _, _, _, _, _, _, _, _, _, _, _, _, _, _, _, _, _, _, _, _, _, _] rfl rfl rfl <| fun b1 => AS rfl rfl <| ND <| SQ <| RG <| AS rfl rfl <| ND <| SQ <| RG <| LS (i := 0) [_, _, _, _, _, _, _, _, _, _, _, _, _, _, _, _, _, _, _, _, _, _, _, _, _, _, _, _, _, _, _, _, _, _, _, _, _, _, _] rfl tyS_laws_Stream rfl rfl rfl rfl <| MV rfl rfl <| CV1 rfl fun_laws_szStream rfl (fun w hs => laws_szStream ⟨_, _, _, _, _, rfl, (hA0.s Pl.keeps hs), (hA1.s Pl.keeps hs), (hA2.s Pl.keeps hs), (hA3.s Pl.keeps hs), (hA4.s Pl.keeps hs)⟩ _ ⟨by first | omega | assumption, by first | omega | assumption, by first | omega | assumption, by first | omega | assumption, by first | omega | assumption, by first | omega | assumption⟩ (by omega) (by omega)) <| ?_
  refine AS rfl rfl <| ND <| SQ <| SQ <| RG <| MV rfl rfl <| rw_lss rfl rfl rfl <| ND <| ?_
  refine gw_cond rfl (fun h1 => ?_) (fun h1 => ?_)
  · refine SQ <| RG <| AS rfl rfl <| ND <| ret_cv Try.func7 (res1 Try.func7 rfl (rv_tmp rfl)) <| ?_
    rfl
  · have hnn1 := nn_of h1
    obtain ⟨hle1, hz1_0, hz1_1, hz1_2, hz1_3, hz1_4, hz1_5⟩ := szStream_ok ⟨by first | omega | assumption, by first | omega | assumption, by first | omega | assumption, by first | omega | assumption, by first | omega | assumption, by first | omega | assumption⟩ (by omega) (by omega) hnn1
    refine SK <| SQ <| RG <| LS (i := 0) [_, _, _, _, _, _, _, _, _, _, _, _, _, _, _, _, _, _, _, _, _, _, _, _, _, _, _, _, _, _, _, _, _, _, _, _, _, _, _] rfl tyS_laws_Stream rfl rfl rfl rfl <| CN1 rfl fun_laws_toStream rfl (fun w hs => laws_toStream ⟨_, _, _, _, _, rfl, (hA0.s Pl.keeps hs), (hA1.s Pl.keeps hs), (hA2.s Pl.keeps hs), (hA3.s Pl.keeps hs), (hA4.s Pl.keeps hs)⟩ ⟨hz1_0, hz1_1, hz1_2, hz1_3, hz1_4, hz1_5⟩) <| fun vv2 ch2 how2 => ?_
    obtain ⟨cs2, rfl, v2_0, v2_1, v2_2, v2_3, v2_4, c2_0, c2_1, c2_2, c2_3, c2_4, rfl, h2_0, h2_1, h2_2, h2_3, h2_4, rfl⟩ := how2
    refine rw_F (F' := c2_0 ++ (c2_1 ++ (c2_2 ++ (c2_3 ++ (c2_4 ++ ([])))))) (by simp only [List.append_assoc]) <| ?_
    obtain ⟨R2_0, b2_0, rfl, hR2_0, hrd2_0⟩ := h2_0.shape eInt
    obtain ⟨R2_1, b2_1, rfl, hR2_1, hrd2_1⟩ := h2_1.shape eRange
    obtain ⟨R2_2, b2_2, rfl, hR2_2, hrd2_2⟩ := h2_2.shape eRange
    obtain ⟨R2_3, b2_3, rfl, hR2_3, hrd2_3⟩ := h2_3.shape eRange
    obtain ⟨R2_4, b2_4, rfl, hR2_4, hrd2_4⟩ := h2_4.shape eChunk
    refine CV1 rfl fun_spec_IsRecvOver rfl (fun w hs => spec_IsRecvOver ⟨_, _, _, _, _, rfl, ⟨_, _, rfl, hrd2_0 _ (fun c hc => hs.at_ c (List.mem_append_right _ (List.mem_append_left _ hc)))⟩, ⟨_, _, rfl, hrd2_1 _ (fun c hc => hs.at_ c (List.mem_append_right _ (List.mem_append_right _ (List.mem_append_left _ hc))))⟩, ⟨_, _, rfl, hrd2_2 _ (fun c hc => hs.at_ c (List.mem_append_right _ (List.mem_append_right _ (List.mem_append_right _ (List.mem_append_left _ hc)))))⟩, ⟨_, _, rfl, hrd2_3 _ (fun c hc => hs.at_ c (List.mem_append_right _ (List.mem_append_right _ (List.mem_append_right _ (List.mem_append_right _ (List.mem_append_left _ hc))))))⟩, ⟨_, _, rfl, hrd2_4 _ (fun c hc => hs.at_ c (List.mem_append_right _ (List.mem_append_right _ (List.mem_append_right _ (List.mem_append_right _ (List.mem_append_right _ (List.mem_append_left _ hc)))))))⟩⟩ ⟨hz1_0, hz1_1, hz1_2, hz1_3, hz1_4, hz1_5⟩) <| ?_
    refine AS rfl rfl <| ND <| SQ <| RG <| LS (i := 0) [_, _, _, _, _, _, _, _, _, _, _, _, _, _, _, _, _, _, _, _, _, _, _, _, _, _, _, _, _, _, _, _, _, _, _, _, _, _, _] rfl tyS_laws_Stream rfl rfl rfl rfl <| CN1 rfl fun_laws_toStream rfl (fun w hs => laws_toStream ⟨_, _, _, _, _, rfl, (hA0.s Pl.keeps hs), (hA1.s Pl.keeps hs), (hA2.s Pl.keeps hs), (hA3.s Pl.keeps hs), (hA4.s Pl.keeps hs)⟩ ⟨hz1_0, hz1_1, hz1_2, hz1_3, hz1_4, hz1_5⟩) <| fun vv3 ch3 how3 => ?_
    obtain ⟨cs3, rfl, v3_0, v3_1, v3_2, v3_3, v3_4, c3_0, c3_1, c3_2, c3_3, c3_4, rfl, h3_0, h3_1, h3_2, h3_3, h3_4, rfl⟩ := how3
    refine rw_F (F' := c3_0 ++ (c3_1 ++ (c3_2 ++ (c3_3 ++ (c3_4 ++ (c2_0 ++ (c2_1 ++ (c2_2 ++ (c2_3 ++ (c2_4 ++ ([]))))))))))) (by simp only [List.append_assoc]) <| ?_
    obtain ⟨R3_0, b3_0, rfl, hR3_0, hrd3_0⟩ := h3_0.shape eInt
    obtain ⟨R3_1, b3_1, rfl, hR3_1, hrd3_1⟩ := h3_1.shape eRange
    obtain ⟨R3_2, b3_2, rfl, hR3_2, hrd3_2⟩ := h3_2.shape eRange
    obtain ⟨R3_3, b3_3, rfl, hR3_3, hrd3_3⟩ := h3_3.shape eRange
    obtain ⟨R3_4, b3_4, rfl, hR3_4, hrd3_4⟩ := h3_4.shape eChunk
    refine AL rfl tyZ_impl_Stream <| fun b2 => rw_storeN (i := 0) [_, _, _, _, _, _, _, _, _, _, _, _, _, _, _, _, _, _, _, _, _, _, _, _, _, _, _, _, _, _, _, _, _, _, _, _, _, _, _] [_, _, _, _, _, _, _, _, _, _, _, _, _, _, _, _, _, _, _, _, _, _, _, _, _, _, _, _, _, _, _, _, _, _, _, _, _, _, _] [_, _] tyS_impl_Stream.sz rfl rfl rfl rfl rfl rfl rfl rfl rfl <| ND <| SQ <| RG <| LS (i := 0) [_, _, _, _, _, _, _, _, _, _, _, _, _, _, _, _, _, _, _, _, _, _, _, _, _, _, _, _, _, _, _, _, _, _, _, _, _, _, _] rfl tyS_impl_Stream rfl rfl rfl rfl <| CV1 rfl fun_impl_IsRecvOver rfl (fun w hs => impl_IsRecvOver ⟨_, _, _, _, _, rfl, ⟨_, _, rfl, hrd3_0 _ (fun c hc => hs.at_ c (List.mem_append_right _ (List.mem_append_left _ hc)))⟩, ⟨_, _, rfl, hrd3_1 _ (fun c hc => hs.at_ c (List.mem_append_right _ (List.mem_append_right _ (List.mem_append_left _ hc))))⟩, ⟨_, _, rfl, hrd3_2 _ (fun c hc => hs.at_ c (List.mem_append_right _ (List.mem_append_right _ (List.mem_append_right _ (List.mem_append_left _ hc)))))⟩, ⟨_, _, rfl, hrd3_3 _ (fun c hc => hs.at_ c (List.mem_append_right _ (List.mem_append_right _ (List.mem_append_right _ (List.mem_append_right _ (List.mem_append_left _ hc))))))⟩, ⟨_, _, rfl, hrd3_4 _ (fun c hc => hs.at_ c (List.mem_append_right _ (List.mem_append_right _ (List.mem_append_right _ (List.mem_append_right _ (List.mem_append_right _ (List.mem_append_left _ hc)))))))⟩⟩ ⟨hz1_0, hz1_1, hz1_2, hz1_3, hz1_4, hz1_5⟩) <| ?_
    refine AS rfl rfl <| ND <| SQ <| SQ <| RG <| MV rfl rfl <| MV rfl rfl <| rw_neqSelfB (by kernel_rfl) rfl rfl rfl <| ND <| CF rfl rfl <| SK <| SQ <| SQ <| gw_draw' [(0, .det), (1, .det), (2, .add)] [3, 4] mixed rfl (free_det (free_det (free_add free_nil))) (ts := [_, _]) rfl <| DT rfl rfl (fun K hk => LS (i := 0) [_, _, _, _, _, _, _, _, _, _, _, _, _, _, _, _, _, _, _, _, _, _, _, _, _, _, _, _, _, _, _, _, _, _, _, _, _, _, _] rfl tyS_impl_Stream rfl rfl rfl rfl hk) <| DT rfl rfl (fun K hk => LS (i := 1) [_, _, _, _, _, _, _, _, _, _, _, _, _, _, _, _, _, _, _, _, _, _, _, _, _, _, _, _, _, _, _, _, _, _, _, _, _, _, _] rfl tyS_laws_Stream rfl rfl rfl rfl hk) <| ?_
    refine DA rfl rfl (fun K hk => CN1 rfl fun_laws_toStream rfl (fun w hs => laws_toStream ⟨_, _, _, _, _, rfl, (hA0.s Pl.keeps hs), (hA1.s Pl.keeps hs), (hA2.s Pl.keeps hs), (hA3.s Pl.keeps hs), (hA4.s Pl.keeps hs)⟩ ⟨hz1_0, hz1_1, hz1_2, hz1_3, hz1_4, hz1_5⟩) hk) <| fun vv4 ch4 how4 => ?_
    obtain ⟨cs4, rfl, v4_0, v4_1, v4_2, v4_3, v4_4, c4_0, c4_1, c4_2, c4_3, c4_4, rfl, h4_0, h4_1, h4_2, h4_3, h4_4, rfl⟩ := how4
    refine dw_F (F' := c4_0 ++ (c4_1 ++ (c4_2 ++ (c4_3 ++ (c4_4 ++ (c3_0 ++ (c3_1 ++ (c3_2 ++ (c3_3 ++ (c3_4 ++ (c2_0 ++ (c2_1 ++ (c2_2 ++ (c2_3 ++ (c2_4 ++ ([])))))))))))))))) (by simp only [List.append_assoc]) <| ?_
    obtain ⟨R4_0, b4_0, rfl, hR4_0, hrd4_0⟩ := h4_0.shape eInt
    obtain ⟨R4_1, b4_1, rfl, hR4_1, hrd4_1⟩ := h4_1.shape eRange
    obtain ⟨R4_2, b4_2, rfl, hR4_2, hrd4_2⟩ := h4_2.shape eRange
    obtain ⟨R4_3, b4_3, rfl, hR4_3, hrd4_3⟩ := h4_3.shape eRange
    obtain ⟨R4_4, b4_4, rfl, hR4_4, hrd4_4⟩ := h4_4.shape eChunk
    refine dw_nil <| CV1 rfl fun_laws_eqStream rfl (fun w hs => laws_eqStream ⟨_, _, _, _, _, rfl, ⟨_, _, rfl, hrd3_0 _ (fun c hc => hs.at_ c (List.mem_append_right _ (List.mem_append_right _ (List.mem_append_right _ (List.mem_append_right _ (List.mem_append_right _ (List.mem_append_right _ (List.mem_append_left _ hc))))))))⟩, ⟨_, _, rfl, hrd3_1 _ (fun c hc => hs.at_ c (List.mem_append_right _ (List.mem_append_right _ (List.mem_append_right _ (List.mem_append_right _ (List.mem_append_right _ (List.mem_append_right _ (List.mem_append_right _ (List.mem_append_left _ hc)))))))))⟩, ⟨_, _, rfl, hrd3_2 _ (fun c hc => hs.at_ c (List.mem_append_right _ (List.mem_append_right _ (List.mem_append_right _ (List.mem_append_right _ (List.mem_append_right _ (List.mem_append_right _ (List.mem_append_right _ (List.mem_append_right _ (List.mem_append_left _ hc))))))))))⟩, ⟨_, _, rfl, hrd3_3 _ (fun c hc => hs.at_ c (List.mem_append_right _ (List.mem_append_right _ (List.mem_append_right _ (List.mem_append_right _ (List.mem_append_right _ (List.mem_append_right _ (List.mem_append_right _ (List.mem_append_right _ (List.mem_append_right _ (List.mem_append_left _ hc)))))))))))⟩, ⟨_, _, rfl, hrd3_4 _ (fun c hc => hs.at_ c (List.mem_append_right _ (List.mem_append_right _ (List.mem_append_right _ (List.mem_append_right _ (List.mem_append_right _ (List.mem_append_right _ (List.mem_append_right _ (List.mem_append_right _ (List.mem_append_right _ (List.mem_append_right _ (List.mem_append_left _ hc))))))))))))⟩⟩ ⟨hz1_0, hz1_1, hz1_2, hz1_3, hz1_4, hz1_5⟩ ⟨_, _, _, _, _, rfl, ⟨_, _, rfl, hrd4_0 _ (fun c hc => hs.at_ c (List.mem_append_right _ (List.mem_append_left _ hc)))⟩, ⟨_, _, rfl, hrd4_1 _ (fun c hc => hs.at_ c (List.mem_append_right _ (List.mem_append_right _ (List.mem_append_left _ hc))))⟩, ⟨_, _, rfl, hrd4_2 _ (fun c hc => hs.at_ c (List.mem_append_right _ (List.mem_append_right _ (List.mem_append_right _ (List.mem_append_left _ hc)))))⟩, ⟨_, _, rfl, hrd4_3 _ (fun c hc => hs.at_ c (List.mem_append_right _ (List.mem_append_right _ (List.mem_append_right _ (List.mem_append_right _ (List.mem_append_left _ hc))))))⟩, ⟨_, _, rfl, hrd4_4 _ (fun c hc => hs.at_ c (List.mem_append_right _ (List.mem_append_right _ (List.mem_append_right _ (List.mem_append_right _ (List.mem_append_right _ (List.mem_append_left _ hc)))))))⟩⟩) <| ?_
    refine NT rfl rfl <| ND <| CF rfl rfl <| SK <| SQ <| RG <| AS rfl rfl <| ND <| ret_cv Try.func7 (res1 Try.func7 rfl (rv_tmp rfl)) <| ?_
    rfl

theorem spec_FindStream {w : World} {v : Value} {l : List Stream} (hv : RdS w 39 RdStream v l) (hb : l.length ≤ 134217728) (id : Int) : CV Try.prog 21 [v, .int .i64 id] w (.int .i64 (findStream l id)) := by
  obtain ⟨A, c, rfl, hA⟩ := hv
  refine cv_of Try.func21 rfl rfl rfl <| SQ <| RG <| AS rfl rfl <| ND <| SQ <| SQ <| RG <| AS rfl rfl <| ND <| BK <| ?_
  refine gw_loopC (α := Nat) (fun z_ => z_ ≤ l.length ∧ findStream l id = findFrom id z_ (l.drop z_)) (fun z_ => l.length - z_) (fun e z_ => (5, .int .i64 (z_ : Int)) :: e) 0 [(0, _), (1, _)] (Sub.consE rfl rfl (Sub.cons (i := 0) rfl (Sub.cons (i := 1) rfl (Sub.nil _)))) ?_ ?_
  · exact ⟨Nat.zero_le _, rfl⟩
  · rintro i hI1 ih1
    try dsimp only
    obtain ⟨hle, hI⟩ := hI1
    refine SQ <| SQ <| RG <| MV rfl rfl <| MV rfl rfl <| rw_len rfl tyE_S_impl_Stream rfl <| rw_lss rfl rfl rfl <| ND <| ?_
    refine gw_cond rfl (fun h1 => ?_) (fun h1 => ?_)
    · have hi2 := lt_of_dec h1
      obtain ⟨x3, hx3⟩ := get_of_lt hi2
      have hd3 := drop_cons hx3
      refine SK <| SQ <| BK <| SQ <| RG <| MV rfl rfl <| MV rfl rfl <| ?_
      obtain ⟨cse4_, hRe4_, hq4⟩ := hA.get hx3
      obtain ⟨ve4_0, ve4_1, ve4_2, ve4_3, ve4_4, rfl, ke4_0, ke4_1, ke4_2, ke4_3, ke4_4⟩ := hRe4_
      obtain ⟨Ae4_0, ce4_0, rfl, hAe4_0⟩ := ke4_0
      obtain ⟨Ae4_1, ce4_1, rfl, hAe4_1⟩ := ke4_1
      obtain ⟨Ae4_2, ce4_2, rfl, hAe4_2⟩ := ke4_2
      obtain ⟨Ae4_3, ce4_3, rfl, hAe4_3⟩ := ke4_3
      obtain ⟨Ae4_4, ce4_4, rfl, hAe4_4⟩ := ke4_4
      refine rw_indexAddr (i) rfl tyE_S_impl_Stream rfl rfl rfl (hA.some hi2) hi2 <| FX rfl tyF_impl_Stream_0 rfl <| rw_loadX _ rfl tyP_int rfl (fun w hs => hq4.ld hs rfl) <| MV rfl rfl <| EQ1 rfl rfl rfl <| ND <| ?_
      refine gw_cond rfl (fun h2 => ?_) (fun h2 => ?_)
      · refine SQ <| RG <| MV rfl rfl <| AS rfl rfl <| ND <| ret_cv Try.func21 (res1 Try.func21 rfl (rv_tmp rfl)) <| ?_
        rw [hI, hd3]; simp [findFrom, h2]
      · refine SK <| IB <| RG <| MV rfl rfl <| rw_add rfl rfl rfl <| AS rfl rfl <| ND <| ?_
        refine gw_sub (Sub.consE (i := 5) rfl (int_succ (by omega)) (Sub.cons (i := 0) rfl (Sub.cons (i := 1) rfl (Sub.nil _)))) (ih1 (i + 1) ?_ ?_)
        · exact ⟨by omega, by rw [hI, hd3]; simp [findFrom, h2]⟩
        · show l.length - (i + 1) < l.length - i; omega
    · have hn5 := nil_of_dec h1
      refine EX rfl <| SQ <| RG <| AS rfl rfl <| ND <| ret_cv Try.func21 (res1 Try.func21 rfl (rv_tmp rfl)) <| ?_
      rw [hI, hn5]; rfl

theorem impl_FindStream_1 {w : World} {q : Addr} {id : Int} {cs : List Value} {x : Stream} (hv : RdStream w cs x) (hq : At w q [.int .i64 id]) : CV Try.prog 68 [.agg cs.toArray, .pointer (some q)] w (.bool (x.id == id)) := by
  obtain ⟨v0, v1, v2, v3, v4, rfl, k0, k1, k2, k3, k4⟩ := hv
  obtain ⟨A0, c0, rfl, hA0⟩ := k0
  obtain ⟨A1, c1, rfl, hA1⟩ := k1
  obtain ⟨A2, c2, rfl, hA2⟩ := k2
  obtain ⟨A3, c3, rfl, hA3⟩ := k3
  obtain ⟨A4, c4, rfl, hA4⟩ := k4
  refine cv_of Try.func68 rfl rfl rfl <| SQ <| RG <| BX [_, _, _, _, _, _, _, _, _, _, _, _, _, _, _, _, _, _, _, _, _, _, _, _, _, _, _, _, _, _, _, _, _, _, _, _, _, _, _] rfl rfl rfl <| fun b1 => AS rfl rfl <| ND <| SQ <| RG <| FA rfl tyF_impl_Stream_0 rfl <| LD (i := 0) rfl tyP_int rfl rfl rfl <| rw_loadX _ rfl tyP_int rfl (fun w hs => hq.ld0 hs rfl) <| EQ1 rfl rfl rfl <| AS rfl rfl <| ND <| ret_cv Try.func68 (res1 Try.func68 rfl (rv_tmp rfl)) <| ?_
  rfl

theorem slices_IndexFunc_Stream {w : World} {v : Value} {l : List Stream} (hv : RdS w 39 RdStream v l) (hb : l.length ≤ 134217728) {q : Addr} {id : Int} (hq : At w q [.int .i64 id]) : CV Try.prog 67 [v, .func (.func 68) #[] #[.pointer (some q)]] w (.int .i64 (findStream l id)) := by
  obtain ⟨A, c, rfl, hA⟩ := hv
  refine cv_of Try.func67 rfl rfl rfl <| SQ <| RG <| AS rfl rfl <| ND <| SQ <| SQ <| RG <| MV rfl rfl <| rw_len rfl tyE_S_impl_Stream rfl <| MV rfl rfl <| ND <| BK <| ?_
  refine gw_loopC (α := Nat) (fun z_ => z_ ≤ l.length ∧ findStream l id = findFrom id z_ (l.drop z_)) (fun z_ => l.length - z_) (fun e z_ => (8, .int .i64 (z_ : Int)) :: e) 0 [(0, _), (1, _), (7, _)] (Sub.consE rfl rfl (Sub.cons (i := 0) rfl (Sub.cons (i := 1) rfl (Sub.cons (i := 7) rfl (Sub.nil _))))) ?_ ?_
  · exact ⟨Nat.zero_le _, rfl⟩
  · rintro i hI1 ih1
    try dsimp only
    obtain ⟨hle, hI⟩ := hI1
    refine SQ <| RG <| rw_lss rfl rfl rfl <| ND <| SQ <| ?_
    refine gw_cond rfl (fun h1 => ?_) (fun h1 => ?_)
    · have hi2 := lt_of_dec h1
      obtain ⟨x3, hx3⟩ := get_of_lt hi2
      have hd3 := drop_cons hx3
      refine SK <| SQ <| BK <| SQ <| RG <| MV rfl rfl <| AS rfl rfl <| ND <| SQ <| RG <| MV rfl rfl <| MV rfl rfl <| MV rfl rfl <| ?_
      obtain ⟨cse4_, hRe4_, hq4⟩ := hA.get hx3
      obtain ⟨ve4_0, ve4_1, ve4_2, ve4_3, ve4_4, rfl, ke4_0, ke4_1, ke4_2, ke4_3, ke4_4⟩ := hRe4_
      obtain ⟨Ae4_0, ce4_0, rfl, hAe4_0⟩ := ke4_0
      obtain ⟨Ae4_1, ce4_1, rfl, hAe4_1⟩ := ke4_1
      obtain ⟨Ae4_2, ce4_2, rfl, hAe4_2⟩ := ke4_2
      obtain ⟨Ae4_3, ce4_3, rfl, hAe4_3⟩ := ke4_3
      obtain ⟨Ae4_4, ce4_4, rfl, hAe4_4⟩ := ke4_4
      refine rw_indexAddr (i) rfl tyE_S_impl_Stream rfl rfl rfl (hA.some hi2) hi2 <| rw_loadX_s [_, _, _, _, _, _, _, _, _, _, _, _, _, _, _, _, _, _, _, _, _, _, _, _, _, _, _, _, _, _, _, _, _, _, _, _, _, _, _] rfl tyS_impl_Stream rfl rfl (fun w hs => hq4.lds0 (n := 39) hs rfl) <| rw_cvF rfl rfl fun_impl_FindStream_1 rfl (fun w hs => impl_FindStream_1 ⟨_, _, _, _, _, rfl, (hAe4_0.s Pl.keeps hs), (hAe4_1.s Pl.keeps hs), (hAe4_2.s Pl.keeps hs), (hAe4_3.s Pl.keeps hs), (hAe4_4.s Pl.keeps hs)⟩ (hq.sat hs)) <| ND <| ?_
      refine gw_cond rfl (fun h2 => ?_) (fun h2 => ?_)
      · refine SQ <| RG <| MV rfl rfl <| AS rfl rfl <| ND <| ret_cv Try.func67 (res1 Try.func67 rfl (rv_tmp rfl)) <| ?_
        rw [hI, hd3]; simp [findFrom, h2]
      · refine SK <| IB <| RG <| rw_add rfl rfl rfl <| MV rfl rfl <| ND <| ?_
        refine gw_sub (Sub.consE (i := 8) rfl (int_succ (by omega)) (Sub.cons (i := 0) rfl (Sub.cons (i := 1) rfl (Sub.cons (i := 7) rfl (Sub.nil _))))) (ih1 (i + 1) ?_ ?_)
        · exact ⟨by omega, by rw [hI, hd3]; simp [findFrom, h2]⟩
        · show l.length - (i + 1) < l.length - i; omega
    · have hn5 := nil_of_dec h1
      refine EX rfl <| SQ <| RG <| AS rfl rfl <| ND <| ret_cv Try.func67 (res1 Try.func67 rfl (rv_tmp rfl)) <| ?_
      rw [hI, hn5]; rfl

theorem impl_FindStream {w : World} {v : Value} {l : List Stream} (hv : RdS w 39 RdStream v l) (hb : l.length ≤ 134217728) (id : Int) : CV Try.prog 23 [v, .int .i64 id] w (.int .i64 (findStream l id)) := by
  obtain ⟨A, c, rfl, hA⟩ := hv
  refine cv_of Try.func23 rfl rfl rfl <| SQ <| RG <| BX [_] rfl rfl rfl <| fun b1 => AS rfl rfl <| ND <| SQ <| RG <| MV rfl rfl <| rw_makeFunc rfl rfl <| CV1 rfl fun_slices_IndexFunc_S_impl_Stream_impl_Stream rfl (fun w hs => slices_IndexFunc_Stream (hA.s RdStream.keeps hs) hb (Ck.In.at0 (c := ⟨b1, _, [_]⟩) (hs.at_ _ (List.mem_append_left _ (List.mem_of_getElem? (i := 0) rfl))))) <| AS rfl rfl <| ND <| ret_cv Try.func23 (res1 Try.func23 rfl (rv_tmp rfl)) <| ?_
  rfl

theorem law_FnExactFindStream {w : World} {v : Value} {l : List Stream} (hv : RdS w 39 RdStream v l) (hb : l.length ≤ 9223372036854775807) (hall : ∀ y ∈ l, y.le 9223372036854775807) (id : Int) : CV Try.prog 4 [v, .int .i64 id] w (.bool true) := by
  obtain ⟨A, c, rfl, hA⟩ := hv
  refine cv_of Try.func4 rfl rfl rfl <| SQ <| RG <| AS rfl rfl <| ND <| SQ <| RG <| AS rfl rfl <| ND <| SQ <| RG <| MV rfl rfl <| MV rfl rfl <| CV1 rfl fun_laws_szStreamS rfl (fun w hs => laws_szStreamS (hA.s RdStream.keeps hs) _ (by first | omega | assumption) (by first | omega | assumption) (by omega) (by omega)) <| AS rfl rfl <| ND <| SQ <| SQ <| RG <| MV rfl rfl <| rw_lss rfl rfl rfl <| ND <| ?_
  refine gw_cond rfl (fun h1 => ?_) (fun h1 => ?_)
  · refine SQ <| RG <| AS rfl rfl <| ND <| ret_cv Try.func4 (res1 Try.func4 rfl (rv_tmp rfl)) <| ?_
    rfl
  · have hnn1 := nn_of h1
    obtain ⟨hle1, hz1_0, hz1_1⟩ := szStreams_ok (by first | omega | assumption) (by first | omega | assumption) (by omega) (by omega) hnn1
    refine SK <| SQ <| RG <| MV rfl rfl <| CN1 rfl fun_laws_toStreamS rfl (fun w hs => laws_toStreamS (hA.s RdStream.keeps hs) hz1_0 hz1_1) <| fun v2 ch2 how2 => ?_
    obtain ⟨R2, rc2, rfl, hR2, hrd2⟩ := how2.shape eStream
    refine MV rfl rfl <| CV1 rfl fun_spec_FindStream rfl (fun w hs => spec_FindStream ⟨_, _, rfl, hrd2 _ (fun c hc => hs.at_ c (List.mem_append_right _ (List.mem_append_left _ hc)))⟩ hz1_0 _) <| AS rfl rfl <| ND <| SQ <| RG <| MV rfl rfl <| CN1 rfl fun_laws_toStreamS rfl (fun w hs => laws_toStreamS (hA.s RdStream.keeps hs) hz1_0 hz1_1) <| fun v3 ch3 how3 => ?_
    obtain ⟨R3, rc3, rfl, hR3, hrd3⟩ := how3.shape eStream
    refine AS rfl rfl <| ND <| SQ <| RG <| MV rfl rfl <| MV rfl rfl <| CV1 rfl fun_impl_FindStream rfl (fun w hs => impl_FindStream ⟨_, _, rfl, hrd3 _ (fun c hc => hs.at_ c (List.mem_append_right _ (List.mem_append_left _ hc)))⟩ hz1_0 _) <| AS rfl rfl <| ND <| SQ <| SQ <| RG <| MV rfl rfl <| MV rfl rfl <| NS rfl rfl rfl <| ND <| CF rfl rfl <| SK <| SQ <| SQ <| RG <| MV rfl rfl <| MV rfl rfl <| CN1 rfl fun_laws_toStreamS rfl (fun w hs => laws_toStreamS (hA.s RdStream.keeps hs) hz1_0 hz1_1) <| fun v4 ch4 how4 => ?_
    obtain ⟨R4, rc4, rfl, hR4, hrd4⟩ := how4.shape eStream
    refine CV1 rfl fun_laws_eqStreamS rfl (fun w hs => laws_eqStreamS ⟨_, _, rfl, hrd3 _ (fun c hc => hs.at_ c (List.mem_append_right _ (List.mem_append_right _ (List.mem_append_left _ hc))))⟩ hz1_0 hz1_1 ⟨_, _, rfl, hrd4 _ (fun c hc => hs.at_ c (List.mem_append_right _ (List.mem_append_left _ hc)))⟩) <| NT rfl rfl <| ND <| CF rfl rfl <| SK <| SQ <| RG <| AS rfl rfl <| ND <| ret_cv Try.func4 (res1 Try.func4 rfl (rv_tmp rfl)) <| ?_
    rfl
end Go.Proofs.Ytmoegjhihjgmgaa
