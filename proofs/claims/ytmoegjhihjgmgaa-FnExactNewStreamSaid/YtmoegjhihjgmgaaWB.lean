/- Walks: comparisons of the program. -/
import Derived.Test.YtmoegjhihjgmgaaWA
namespace Go.Proofs.Ytmoegjhihjgmgaa
open SL Go.RowKit
theorem spec_EqualRings {w : World} {cs : List Value} {x : Ring} (hv : RdRing w cs x) (hb : x.le 134217728) {cs1_ : List Value} {y : Ring} (hv1_ : RdRing w cs1_ y) : CV Try.prog 154 [.agg cs.toArray, .agg cs1_.toArray] w (.bool (eqRings x y)) := by
  obtain ⟨v0, rfl, k0⟩ := hv
  obtain ⟨A0, c0, rfl, hA0⟩ := k0
  have hb0 : x.cells.length ≤ 134217728 := hb
  obtain ⟨v1_0, rfl, k1_0⟩ := hv1_
  obtain ⟨A1_0, c1_0, rfl, hA1_0⟩ := k1_0
  refine cv_of Try.func154 rfl rfl rfl <| SQ <| RG <| BX [_, _, _, _] rfl rfl rfl <| fun b1 => BX [_, _, _, _] rfl rfl rfl <| fun b2 => AS rfl rfl <| ND <| SQ <| SQ <| RG <| FA rfl tyF_impl_Ring_0 rfl <| LD (i := 1) rfl tyP_int rfl rfl rfl <| FA rfl tyF_impl_Ring_0 rfl <| LD (i := 0) rfl tyP_int rfl rfl rfl <| rw_neq rfl rfl rfl <| MV rfl rfl <| ?_
  refine rw_case (j := 11) rfl (fun h1 => ?_) (fun h1 => ?_)
  · replace h1 := of_not_T h1
    refine OF rfl rfl (not_F h1) rfl <| OF rfl rfl (not_F h1) rfl <| OF rfl rfl (not_F h1) rfl <| OF rfl rfl (not_F h1) rfl <| OF rfl rfl (not_F h1) rfl <| PT rfl rfl (not_F h1) rfl <| MV rfl rfl <| OF rfl rfl rfl rfl <| OF rfl rfl rfl rfl <| OF rfl rfl rfl rfl <| OF rfl rfl rfl rfl <| OF rfl rfl rfl rfl <| PT rfl rfl rfl rfl <| MV rfl rfl <| OF rfl rfl rfl rfl <| OF rfl rfl rfl rfl <| OF rfl rfl rfl rfl <| OF rfl rfl rfl rfl <| OF rfl rfl rfl rfl <| ?_
    refine OF rfl rfl rfl rfl <| OF rfl rfl rfl rfl <| PT rfl rfl rfl rfl <| ND <| CT rfl rfl <| SQ <| RG <| AS rfl rfl <| ND <| ret_cv Try.func154 (res1 Try.func154 rfl (rv_tmp rfl)) <| ?_
    simp [eqRings, h1]
  · replace h1 := of_not_F h1
    refine ON rfl rfl (not_T h1) <| FA rfl tyF_impl_Ring_1 rfl <| ON rfl rfl (not_T h1) <| LD (i := 1) rfl tyP_int rfl rfl rfl <| ON rfl rfl (not_T h1) <| FA rfl tyF_impl_Ring_1 rfl <| ON rfl rfl (not_T h1) <| LD (i := 0) rfl tyP_int rfl rfl rfl <| ON rfl rfl (not_T h1) <| rw_neq rfl rfl rfl <| PF rfl rfl (not_T h1) rfl <| MV rfl rfl <| ?_
    refine rw_case (j := 18) rfl (fun h2 => ?_) (fun h2 => ?_)
    · replace h2 := of_not_T h2
      refine OF rfl rfl (not_F h2) rfl <| OF rfl rfl (not_F h2) rfl <| OF rfl rfl (not_F h2) rfl <| OF rfl rfl (not_F h2) rfl <| OF rfl rfl (not_F h2) rfl <| PT rfl rfl (not_F h2) rfl <| MV rfl rfl <| OF rfl rfl rfl rfl <| OF rfl rfl rfl rfl <| OF rfl rfl rfl rfl <| OF rfl rfl rfl rfl <| OF rfl rfl rfl rfl <| OF rfl rfl rfl rfl <| OF rfl rfl rfl rfl <| PT rfl rfl rfl rfl <| ND <| CT rfl rfl <| SQ <| RG <| AS rfl rfl <| ND <| ret_cv Try.func154 (res1 Try.func154 rfl (rv_tmp rfl)) <| ?_
      simp [eqRings, h1, h2]
    · replace h2 := of_not_F h2
      refine ON rfl rfl (not_T h2) <| FA rfl tyF_impl_Ring_2 rfl <| ON rfl rfl (not_T h2) <| LD (i := 1) rfl tyP_int rfl rfl rfl <| ON rfl rfl (not_T h2) <| FA rfl tyF_impl_Ring_2 rfl <| ON rfl rfl (not_T h2) <| LD (i := 0) rfl tyP_int rfl rfl rfl <| ON rfl rfl (not_T h2) <| rw_neq rfl rfl rfl <| PF rfl rfl (not_T h2) rfl <| MV rfl rfl <| ?_
      refine rw_case (j := 25) rfl (fun h3 => ?_) (fun h3 => ?_)
      · replace h3 := of_not_T h3
        refine OF rfl rfl (not_F h3) rfl <| OF rfl rfl (not_F h3) rfl <| OF rfl rfl (not_F h3) rfl <| OF rfl rfl (not_F h3) rfl <| OF rfl rfl (not_F h3) rfl <| OF rfl rfl (not_F h3) rfl <| OF rfl rfl (not_F h3) rfl <| PT rfl rfl (not_F h3) rfl <| ND <| CT rfl rfl <| SQ <| RG <| AS rfl rfl <| ND <| ret_cv Try.func154 (res1 Try.func154 rfl (rv_tmp rfl)) <| ?_
        simp [eqRings, h1, h2, h3]
      · replace h3 := of_not_F h3
        refine ON rfl rfl (not_T h3) <| FA rfl tyF_impl_Ring_3 rfl <| ON rfl rfl (not_T h3) <| LD (i := 1) rfl tyP_S_int rfl rfl rfl <| ON rfl rfl (not_T h3) <| rw_len rfl tyE_S_int rfl <| ON rfl rfl (not_T h3) <| FA rfl tyF_impl_Ring_3 rfl <| ON rfl rfl (not_T h3) <| LD (i := 0) rfl tyP_S_int rfl rfl rfl <| ON rfl rfl (not_T h3) <| rw_len rfl tyE_S_int rfl <| ON rfl rfl (not_T h3) <| rw_neq rfl rfl rfl <| PF rfl rfl (not_T h3) rfl <| ND <| ?_
        refine gw_cond rfl (fun h4 => ?_) (fun h4 => ?_)
        · replace h4 := of_not_T h4
          have hlne1 := len_ne_of h4
          refine SQ <| RG <| AS rfl rfl <| ND <| ret_cv Try.func154 (res1 Try.func154 rfl (rv_tmp rfl)) <| ?_
          simp [eqRings, eqL_len _ _ _ hlne1, h1, h2, h3]
        · replace h4 := of_not_F h4
          have hlen2 := len_eq_of h4
          refine SK <| SQ <| SQ <| RG <| AS rfl rfl <| ND <| BK <| ?_
          refine gw_loopC (α := Nat) (fun z_ => z_ ≤ x.cells.length ∧ eqRings x y = eqL intC (x.cells.drop z_) (y.cells.drop z_)) (fun z_ => x.cells.length - z_) (fun e z_ => (5, .int .i64 (z_ : Int)) :: e) 0 [(2, _), (3, _)] (Sub.consE rfl rfl (Sub.cons (i := 2) rfl (Sub.cons (i := 3) rfl (Sub.nil _)))) ?_ ?_
          · exact ⟨Nat.zero_le _, by simp [eqRings, h1, h2, h3]⟩
          · rintro i hI3 ih3
            try dsimp only
            obtain ⟨hle, hI⟩ := hI3
            refine SQ <| SQ <| RG <| MV rfl rfl <| FA rfl tyF_impl_Ring_3 rfl <| LD (i := 1) rfl tyP_S_int rfl rfl rfl <| rw_len rfl tyE_S_int rfl <| rw_lss rfl rfl rfl <| ND <| ?_
            refine gw_cond rfl (fun h5 => ?_) (fun h5 => ?_)
            · have hi4 := lt_of_dec h5
              obtain ⟨x5, hx5⟩ := get_of_lt hi4
              have hd5 := drop_cons hx5
              refine SK <| SQ <| BK <| SQ <| gw_draw' [(0, .det), (1, .det), (2, .det), (3, .det), (4, .det), (5, .det), (6, .det), (7, .det), (8, .det), (9, .det)] [10] mixed rfl (free_det (free_det (free_det (free_det (free_det (free_det (free_det (free_det (free_det (free_det free_nil)))))))))) (ts := [_]) rfl <| DT rfl rfl (fun K hk => FA rfl tyF_impl_Ring_3 rfl hk) <| DT rfl rfl (fun K hk => LD (i := 1) rfl tyP_S_int rfl rfl rfl hk) <| DT rfl rfl (fun K hk => MV rfl rfl hk) <| ?_
              have hq6 := hA0.plain hx5
              refine DT rfl rfl (fun K hk => rw_indexAddr (i) rfl tyE_S_int rfl rfl rfl (hA0.some hi4) hi4 hk) <| DT rfl rfl (fun K hk => rw_loadX _ rfl tyP_int rfl (fun w hs => hq6.ld0 hs rfl) hk) <| DT rfl rfl (fun K hk => FA rfl tyF_impl_Ring_3 rfl hk) <| DT rfl rfl (fun K hk => LD (i := 0) rfl tyP_S_int rfl rfl rfl hk) <| DT rfl rfl (fun K hk => MV rfl rfl hk) <| ?_
              have hi7 : i < y.cells.length := by omega
              obtain ⟨x8, hx8⟩ := get_of_lt hi7
              have hd8 := drop_cons hx8
              have hq9 := hA1_0.plain hx8
              refine DT rfl rfl (fun K hk => rw_indexAddr (i) rfl tyE_S_int rfl rfl rfl (hA1_0.some hi7) hi7 hk) <| DT rfl rfl (fun K hk => rw_loadX _ rfl tyP_int rfl (fun w hs => hq9.ld0 hs rfl) hk) <| dw_nil <| rw_neq rfl rfl rfl <| ND <| ?_
              refine gw_cond rfl (fun h6 => ?_) (fun h6 => ?_)
              · replace h6 := of_not_T h6
                refine SQ <| RG <| AS rfl rfl <| ND <| ret_cv Try.func154 (res1 Try.func154 rfl (rv_tmp rfl)) <| ?_
                rw [hI, hd5, hd8]; simp [eqL, eqC_int, h6]
              · replace h6 := of_not_F h6
                refine SK <| IB <| RG <| MV rfl rfl <| rw_add rfl rfl rfl <| AS rfl rfl <| ND <| ?_
                refine gw_sub (Sub.consE (i := 5) rfl (int_succ (by omega)) (Sub.cons (i := 2) rfl (Sub.cons (i := 3) rfl (Sub.nil _)))) (ih3 (i + 1) ?_ ?_)
                · exact ⟨by omega, by rw [hI, hd5, hd8]; simp [eqL, eqC_int, h6]⟩
                · show x.cells.length - (i + 1) < x.cells.length - i; omega
            · have hn10 := nil_of_dec h5
              refine EX rfl <| SQ <| RG <| AS rfl rfl <| ND <| ret_cv Try.func154 (res1 Try.func154 rfl (rv_tmp rfl)) <| ?_
              rw [hI, hn10, drop_nil_of hlen2 hn10]; rfl

theorem spec_EqualRanges {w : World} {v : Value} {l : List Range} (hv : RdS w 2 (Pl Range.cells) v l) (hb : l.length ≤ 134217728) {v1 : Value} {l1 : List Range} (hv1 : RdS w 2 (Pl Range.cells) v1 l1) : CV Try.prog 155 [v, v1] w (.bool (eqL Range.cells l l1)) := by
  obtain ⟨A, c, rfl, hA⟩ := hv
  obtain ⟨A1, c1, rfl, hA1⟩ := hv1
  refine cv_of Try.func155 rfl rfl rfl <| SQ <| RG <| AS rfl rfl <| ND <| SQ <| SQ <| RG <| MV rfl rfl <| rw_len rfl tyE_S_impl_Range rfl <| MV rfl rfl <| rw_len rfl tyE_S_impl_Range rfl <| rw_neq rfl rfl rfl <| ND <| ?_
  refine gw_cond rfl (fun h1 => ?_) (fun h1 => ?_)
  · replace h1 := of_not_T h1
    have hlne1 := len_ne_of h1
    refine SQ <| RG <| AS rfl rfl <| ND <| ret_cv Try.func155 (res1 Try.func155 rfl (rv_tmp rfl)) <| ?_
    simp [eqL_len _ _ _ hlne1]
  · replace h1 := of_not_F h1
    have hlen2 := len_eq_of h1
    refine SK <| SQ <| SQ <| RG <| AS rfl rfl <| ND <| BK <| ?_
    refine gw_loopC (α := Nat) (fun z_ => z_ ≤ l.length ∧ eqL Range.cells l l1 = eqL Range.cells (l.drop z_) (l1.drop z_)) (fun z_ => l.length - z_) (fun e z_ => (5, .int .i64 (z_ : Int)) :: e) 0 [(0, _), (1, _)] (Sub.consE rfl rfl (Sub.cons (i := 0) rfl (Sub.cons (i := 1) rfl (Sub.nil _)))) ?_ ?_
    · exact ⟨Nat.zero_le _, by simp [List.drop_zero]⟩
    · rintro i hI3 ih3
      try dsimp only
      obtain ⟨hle, hI⟩ := hI3
      refine SQ <| SQ <| RG <| MV rfl rfl <| MV rfl rfl <| rw_len rfl tyE_S_impl_Range rfl <| rw_lss rfl rfl rfl <| ND <| ?_
      refine gw_cond rfl (fun h2 => ?_) (fun h2 => ?_)
      · have hi4 := lt_of_dec h2
        obtain ⟨x5, hx5⟩ := get_of_lt hi4
        have hd5 := drop_cons hx5
        refine SK <| SQ <| BK <| SQ <| gw_draw' [(0, .det), (1, .det), (2, .det), (3, .det), (4, .det), (5, .det), (6, .det), (7, .det)] [8] mixed rfl (free_det (free_det (free_det (free_det (free_det (free_det (free_det (free_det free_nil)))))))) (ts := [_]) rfl <| DT rfl rfl (fun K hk => MV rfl rfl hk) <| DT rfl rfl (fun K hk => MV rfl rfl hk) <| ?_
        have hq6 := hA.plain hx5
        refine DT rfl rfl (fun K hk => rw_indexAddr (i) rfl tyE_S_impl_Range rfl rfl rfl (hA.some hi4) hi4 hk) <| DT rfl rfl (fun K hk => rw_loadX_s [_, _] rfl tyS_impl_Range rfl rfl (fun w hs => hq6.lds0 (n := 2) hs rfl) hk) <| DT rfl rfl (fun K hk => MV rfl rfl hk) <| DT rfl rfl (fun K hk => MV rfl rfl hk) <| ?_
        have hi7 : i < l1.length := by omega
        obtain ⟨x8, hx8⟩ := get_of_lt hi7
        have hd8 := drop_cons hx8
        have hq9 := hA1.plain hx8
        refine DT rfl rfl (fun K hk => rw_indexAddr (i) rfl tyE_S_impl_Range rfl rfl rfl (hA1.some hi7) hi7 hk) <| DT rfl rfl (fun K hk => rw_loadX_s [_, _] rfl tyS_impl_Range rfl rfl (fun w hs => hq9.lds0 (n := 2) hs rfl) hk) <| dw_nil <| rw_neqQ rfl tyQ_impl_Range rfl rfl rfl rfl <| ND <| ?_
        refine gw_cond rfl (fun h3 => ?_) (fun h3 => ?_)
        · replace h3 := of_not_T h3
          refine SQ <| RG <| AS rfl rfl <| ND <| ret_cv Try.func155 (res1 Try.func155 rfl (rv_tmp rfl)) <| ?_
          rw [hI, hd5, hd8]; simp [eqL, show eqC (Range.cells x5) (Range.cells x8) = false from h3]
        · replace h3 := of_not_F h3
          refine SK <| IB <| RG <| MV rfl rfl <| rw_add rfl rfl rfl <| AS rfl rfl <| ND <| ?_
          refine gw_sub (Sub.consE (i := 5) rfl (int_succ (by omega)) (Sub.cons (i := 0) rfl (Sub.cons (i := 1) rfl (Sub.nil _)))) (ih3 (i + 1) ?_ ?_)
          · exact ⟨by omega, by rw [hI, hd5, hd8]; simp [eqL, show eqC (Range.cells x5) (Range.cells x8) = true from h3]⟩
          · show l.length - (i + 1) < l.length - i; omega
      · have hn10 := nil_of_dec h2
        refine EX rfl <| SQ <| RG <| AS rfl rfl <| ND <| ret_cv Try.func155 (res1 Try.func155 rfl (rv_tmp rfl)) <| ?_
        rw [hI, hn10, drop_nil_of hlen2 hn10]; rfl

set_option maxRecDepth 20000 in
theorem spec_EqualSenders {w : World} {cs : List Value} {x : Sender} (hv : RdSender w cs x) (hb : x.le 134217728) {cs1_ : List Value} {y : Sender} (hv1_ : RdSender w cs1_ y) : CV Try.prog 91 [.agg cs.toArray, .agg cs1_.toArray] w (.bool (eqSenders x y)) := by
  obtain ⟨v0, v1, v2, v3, rfl, k0, k1, k2, k3⟩ := hv
  obtain ⟨A0, c0, rfl, hA0⟩ := k0
  obtain ⟨A1, c1, rfl, hA1⟩ := k1
  obtain ⟨A2, c2, rfl, hA2⟩ := k2
  obtain ⟨A3, c3, rfl, hA3⟩ := k3
  obtain ⟨hb0, hb1, hb2, hb3⟩ := hb
  obtain ⟨v1_0, v1_1, v1_2, v1_3, rfl, k1_0, k1_1, k1_2, k1_3⟩ := hv1_
  obtain ⟨A1_0, c1_0, rfl, hA1_0⟩ := k1_0
  obtain ⟨A1_1, c1_1, rfl, hA1_1⟩ := k1_1
  obtain ⟨A1_2, c1_2, rfl, hA1_2⟩ := k1_2
  obtain ⟨A1_3, c1_3, rfl, hA1_3⟩ := k1_3
  refine cv_of Try.func91 rfl rfl rfl <| SQ <| RG <| BX [_, _, _, _, _, _, _, _, _, _, _, _] rfl rfl rfl <| fun b1 => BX [_, _, _, _, _, _, _, _, _, _, _, _] rfl rfl rfl <| fun b2 => AS rfl rfl <| ND <| SQ <| RG <| FA rfl tyF_impl_Sender_0 rfl <| LD (i := 1) rfl tyP_int rfl rfl rfl <| FA rfl tyF_impl_Sender_0 rfl <| LD (i := 0) rfl tyP_int rfl rfl rfl <| EQ1 rfl rfl rfl <| MV rfl rfl <| ?_
  refine rw_case (j := 10) rfl (fun h1 => ?_) (fun h1 => ?_)
  · refine ON rfl rfl h1 <| FA rfl tyF_impl_Sender_1 rfl <| ON rfl rfl h1 <| LS (i := 1) [_, _, _, _] rfl tyS_impl_Ring rfl rfl rfl rfl <| ON rfl rfl h1 <| FA rfl tyF_impl_Sender_1 rfl <| ON rfl rfl h1 <| LS (i := 0) [_, _, _, _] rfl tyS_impl_Ring rfl rfl rfl rfl <| ON rfl rfl h1 <| CV1 rfl fun_spec_EqualRings rfl (fun w hs => spec_EqualRings ⟨_, rfl, (hA0.s Pl.keeps hs)⟩ (show _ ≤ _ from hb0) ⟨_, rfl, (hA1_0.s Pl.keeps hs)⟩) <| PT rfl rfl h1 rfl <| MV rfl rfl <| ?_
    refine rw_case (j := 17) rfl (fun h2 => ?_) (fun h2 => ?_)
    · refine ON rfl rfl h2 <| FA rfl tyF_impl_Sender_2 rfl <| ON rfl rfl h2 <| LD (i := 1) rfl tyP_S_impl_Range rfl rfl rfl <| ON rfl rfl h2 <| FA rfl tyF_impl_Sender_2 rfl <| ON rfl rfl h2 <| LD (i := 0) rfl tyP_S_impl_Range rfl rfl rfl <| ON rfl rfl h2 <| CV1 rfl fun_spec_EqualRanges rfl (fun w hs => spec_EqualRanges (hA1.s Pl.keeps hs) (by omega) (hA1_1.s Pl.keeps hs) ) <| PT rfl rfl h2 rfl <| MV rfl rfl <| ?_
      refine rw_case (j := 24) rfl (fun h3 => ?_) (fun h3 => ?_)
      · refine ON rfl rfl h3 <| FA rfl tyF_impl_Sender_3 rfl <| ON rfl rfl h3 <| LD (i := 1) rfl tyP_S_impl_Range rfl rfl rfl <| ON rfl rfl h3 <| FA rfl tyF_impl_Sender_3 rfl <| ON rfl rfl h3 <| LD (i := 0) rfl tyP_S_impl_Range rfl rfl rfl <| ON rfl rfl h3 <| CV1 rfl fun_spec_EqualRanges rfl (fun w hs => spec_EqualRanges (hA2.s Pl.keeps hs) (by omega) (hA1_2.s Pl.keeps hs) ) <| PT rfl rfl h3 rfl <| MV rfl rfl <| ?_
        refine rw_case (j := 31) rfl (fun h4 => ?_) (fun h4 => ?_)
        · refine ON rfl rfl h4 <| FA rfl tyF_impl_Sender_4 rfl <| ON rfl rfl h4 <| LD (i := 1) rfl tyP_S_impl_Range rfl rfl rfl <| ON rfl rfl h4 <| FA rfl tyF_impl_Sender_4 rfl <| ON rfl rfl h4 <| LD (i := 0) rfl tyP_S_impl_Range rfl rfl rfl <| ON rfl rfl h4 <| CV1 rfl fun_spec_EqualRanges rfl (fun w hs => spec_EqualRanges (hA3.s Pl.keeps hs) (by omega) (hA1_3.s Pl.keeps hs) ) <| PT rfl rfl h4 rfl <| MV rfl rfl <| ?_
          refine rw_case (j := 38) rfl (fun h5 => ?_) (fun h5 => ?_)
          · refine ON rfl rfl h5 <| FA rfl tyF_impl_Sender_5 rfl <| ON rfl rfl h5 <| LD (i := 1) rfl tyP_int rfl rfl rfl <| ON rfl rfl h5 <| FA rfl tyF_impl_Sender_5 rfl <| ON rfl rfl h5 <| LD (i := 0) rfl tyP_int rfl rfl rfl <| ON rfl rfl h5 <| EQ1 rfl rfl rfl <| PT rfl rfl h5 rfl <| MV rfl rfl <| ?_
            refine rw_case (j := 45) rfl (fun h6 => ?_) (fun h6 => ?_)
            · refine ON rfl rfl h6 <| FA rfl tyF_impl_Sender_6 rfl <| ON rfl rfl h6 <| LD (i := 1) rfl tyP_int rfl rfl rfl <| ON rfl rfl h6 <| FA rfl tyF_impl_Sender_6 rfl <| ON rfl rfl h6 <| LD (i := 0) rfl tyP_int rfl rfl rfl <| ON rfl rfl h6 <| EQ1 rfl rfl rfl <| PT rfl rfl h6 rfl <| MV rfl rfl <| ?_
              refine rw_case (j := 52) rfl (fun h7 => ?_) (fun h7 => ?_)
              · refine ON rfl rfl h7 <| FA rfl tyF_impl_Sender_7 rfl <| ON rfl rfl h7 <| LD (i := 1) rfl tyP_int rfl rfl rfl <| ON rfl rfl h7 <| FA rfl tyF_impl_Sender_7 rfl <| ON rfl rfl h7 <| LD (i := 0) rfl tyP_int rfl rfl rfl <| ON rfl rfl h7 <| EQ1 rfl rfl rfl <| PT rfl rfl h7 rfl <| MV rfl rfl <| ?_
                refine rw_case (j := 59) rfl (fun h8 => ?_) (fun h8 => ?_)
                · refine ON rfl rfl h8 <| FA rfl tyF_impl_Sender_8 rfl <| ON rfl rfl h8 <| LD (i := 1) rfl tyP_int rfl rfl rfl <| ON rfl rfl h8 <| FA rfl tyF_impl_Sender_8 rfl <| ON rfl rfl h8 <| LD (i := 0) rfl tyP_int rfl rfl rfl <| ON rfl rfl h8 <| EQ1 rfl rfl rfl <| PT rfl rfl h8 rfl <| AS rfl rfl <| ND <| ret_cv Try.func91 (res1 Try.func91 rfl (rv_tmp rfl)) <| ?_
                  simp [eqSenders, h1, h2, h3, h4, h5, h6, h7, h8]
                · refine OF rfl rfl h8 rfl <| OF rfl rfl h8 rfl <| OF rfl rfl h8 rfl <| OF rfl rfl h8 rfl <| OF rfl rfl h8 rfl <| PF rfl rfl h8 rfl <| AS rfl rfl <| ND <| ret_cv Try.func91 (res1 Try.func91 rfl (rv_tmp rfl)) <| ?_
                  simp [eqSenders, h1, h2, h3, h4, h5, h6, h7, h8]
              · refine OF rfl rfl h7 rfl <| OF rfl rfl h7 rfl <| OF rfl rfl h7 rfl <| OF rfl rfl h7 rfl <| OF rfl rfl h7 rfl <| PF rfl rfl h7 rfl <| MV rfl rfl <| OF rfl rfl rfl rfl <| OF rfl rfl rfl rfl <| OF rfl rfl rfl rfl <| OF rfl rfl rfl rfl <| OF rfl rfl rfl rfl <| PF rfl rfl rfl rfl <| AS rfl rfl <| ND <| ret_cv Try.func91 (res1 Try.func91 rfl (rv_tmp rfl)) <| ?_
                simp [eqSenders, h1, h2, h3, h4, h5, h6, h7]
            · refine OF rfl rfl h6 rfl <| OF rfl rfl h6 rfl <| OF rfl rfl h6 rfl <| OF rfl rfl h6 rfl <| OF rfl rfl h6 rfl <| PF rfl rfl h6 rfl <| MV rfl rfl <| OF rfl rfl rfl rfl <| OF rfl rfl rfl rfl <| OF rfl rfl rfl rfl <| OF rfl rfl rfl rfl <| OF rfl rfl rfl rfl <| PF rfl rfl rfl rfl <| MV rfl rfl <| OF rfl rfl rfl rfl <| OF rfl rfl rfl rfl <| OF rfl rfl rfl rfl <| OF rfl rfl rfl rfl <| OF rfl rfl rfl rfl <| PF rfl rfl rfl rfl <| AS rfl rfl <| ?_
              refine ND <| ret_cv Try.func91 (res1 Try.func91 rfl (rv_tmp rfl)) <| ?_
              simp [eqSenders, h1, h2, h3, h4, h5, h6]
          · refine OF rfl rfl h5 rfl <| OF rfl rfl h5 rfl <| OF rfl rfl h5 rfl <| OF rfl rfl h5 rfl <| OF rfl rfl h5 rfl <| PF rfl rfl h5 rfl <| MV rfl rfl <| OF rfl rfl rfl rfl <| OF rfl rfl rfl rfl <| OF rfl rfl rfl rfl <| OF rfl rfl rfl rfl <| OF rfl rfl rfl rfl <| PF rfl rfl rfl rfl <| MV rfl rfl <| OF rfl rfl rfl rfl <| OF rfl rfl rfl rfl <| OF rfl rfl rfl rfl <| OF rfl rfl rfl rfl <| OF rfl rfl rfl rfl <| PF rfl rfl rfl rfl <| MV rfl rfl <| ?_
            refine OF rfl rfl rfl rfl <| OF rfl rfl rfl rfl <| OF rfl rfl rfl rfl <| OF rfl rfl rfl rfl <| OF rfl rfl rfl rfl <| PF rfl rfl rfl rfl <| AS rfl rfl <| ND <| ret_cv Try.func91 (res1 Try.func91 rfl (rv_tmp rfl)) <| ?_
            simp [eqSenders, h1, h2, h3, h4, h5]
        · refine OF rfl rfl h4 rfl <| OF rfl rfl h4 rfl <| OF rfl rfl h4 rfl <| OF rfl rfl h4 rfl <| OF rfl rfl h4 rfl <| PF rfl rfl h4 rfl <| MV rfl rfl <| OF rfl rfl rfl rfl <| OF rfl rfl rfl rfl <| OF rfl rfl rfl rfl <| OF rfl rfl rfl rfl <| OF rfl rfl rfl rfl <| PF rfl rfl rfl rfl <| MV rfl rfl <| OF rfl rfl rfl rfl <| OF rfl rfl rfl rfl <| OF rfl rfl rfl rfl <| OF rfl rfl rfl rfl <| OF rfl rfl rfl rfl <| PF rfl rfl rfl rfl <| MV rfl rfl <| ?_
          refine OF rfl rfl rfl rfl <| OF rfl rfl rfl rfl <| OF rfl rfl rfl rfl <| OF rfl rfl rfl rfl <| OF rfl rfl rfl rfl <| PF rfl rfl rfl rfl <| MV rfl rfl <| OF rfl rfl rfl rfl <| OF rfl rfl rfl rfl <| OF rfl rfl rfl rfl <| OF rfl rfl rfl rfl <| OF rfl rfl rfl rfl <| PF rfl rfl rfl rfl <| AS rfl rfl <| ND <| ret_cv Try.func91 (res1 Try.func91 rfl (rv_tmp rfl)) <| ?_
          simp [eqSenders, h1, h2, h3, h4]
      · refine OF rfl rfl h3 rfl <| OF rfl rfl h3 rfl <| OF rfl rfl h3 rfl <| OF rfl rfl h3 rfl <| OF rfl rfl h3 rfl <| PF rfl rfl h3 rfl <| MV rfl rfl <| OF rfl rfl rfl rfl <| OF rfl rfl rfl rfl <| OF rfl rfl rfl rfl <| OF rfl rfl rfl rfl <| OF rfl rfl rfl rfl <| PF rfl rfl rfl rfl <| MV rfl rfl <| OF rfl rfl rfl rfl <| OF rfl rfl rfl rfl <| OF rfl rfl rfl rfl <| OF rfl rfl rfl rfl <| OF rfl rfl rfl rfl <| PF rfl rfl rfl rfl <| MV rfl rfl <| ?_
        refine OF rfl rfl rfl rfl <| OF rfl rfl rfl rfl <| OF rfl rfl rfl rfl <| OF rfl rfl rfl rfl <| OF rfl rfl rfl rfl <| PF rfl rfl rfl rfl <| MV rfl rfl <| OF rfl rfl rfl rfl <| OF rfl rfl rfl rfl <| OF rfl rfl rfl rfl <| OF rfl rfl rfl rfl <| OF rfl rfl rfl rfl <| PF rfl rfl rfl rfl <| MV rfl rfl <| OF rfl rfl rfl rfl <| OF rfl rfl rfl rfl <| OF rfl rfl rfl rfl <| OF rfl rfl rfl rfl <| OF rfl rfl rfl rfl <| PF rfl rfl rfl rfl <| ?_
        refine AS rfl rfl <| ND <| ret_cv Try.func91 (res1 Try.func91 rfl (rv_tmp rfl)) <| ?_
        simp [eqSenders, h1, h2, h3]
    · refine OF rfl rfl h2 rfl <| OF rfl rfl h2 rfl <| OF rfl rfl h2 rfl <| OF rfl rfl h2 rfl <| OF rfl rfl h2 rfl <| PF rfl rfl h2 rfl <| MV rfl rfl <| OF rfl rfl rfl rfl <| OF rfl rfl rfl rfl <| OF rfl rfl rfl rfl <| OF rfl rfl rfl rfl <| OF rfl rfl rfl rfl <| PF rfl rfl rfl rfl <| MV rfl rfl <| OF rfl rfl rfl rfl <| OF rfl rfl rfl rfl <| OF rfl rfl rfl rfl <| OF rfl rfl rfl rfl <| OF rfl rfl rfl rfl <| PF rfl rfl rfl rfl <| MV rfl rfl <| ?_
      refine OF rfl rfl rfl rfl <| OF rfl rfl rfl rfl <| OF rfl rfl rfl rfl <| OF rfl rfl rfl rfl <| OF rfl rfl rfl rfl <| PF rfl rfl rfl rfl <| MV rfl rfl <| OF rfl rfl rfl rfl <| OF rfl rfl rfl rfl <| OF rfl rfl rfl rfl <| OF rfl rfl rfl rfl <| OF rfl rfl rfl rfl <| PF rfl rfl rfl rfl <| MV rfl rfl <| OF rfl rfl rfl rfl <| OF rfl rfl rfl rfl <| OF rfl rfl rfl rfl <| OF rfl rfl rfl rfl <| OF rfl rfl rfl rfl <| PF rfl rfl rfl rfl <| ?_
      refine MV rfl rfl <| OF rfl rfl rfl rfl <| OF rfl rfl rfl rfl <| OF rfl rfl rfl rfl <| OF rfl rfl rfl rfl <| OF rfl rfl rfl rfl <| PF rfl rfl rfl rfl <| AS rfl rfl <| ND <| ret_cv Try.func91 (res1 Try.func91 rfl (rv_tmp rfl)) <| ?_
      simp [eqSenders, h1, h2]
  · refine OF rfl rfl h1 rfl <| OF rfl rfl h1 rfl <| OF rfl rfl h1 rfl <| OF rfl rfl h1 rfl <| OF rfl rfl h1 rfl <| PF rfl rfl h1 rfl <| MV rfl rfl <| OF rfl rfl rfl rfl <| OF rfl rfl rfl rfl <| OF rfl rfl rfl rfl <| OF rfl rfl rfl rfl <| OF rfl rfl rfl rfl <| PF rfl rfl rfl rfl <| MV rfl rfl <| OF rfl rfl rfl rfl <| OF rfl rfl rfl rfl <| OF rfl rfl rfl rfl <| OF rfl rfl rfl rfl <| OF rfl rfl rfl rfl <| PF rfl rfl rfl rfl <| MV rfl rfl <| ?_
    refine OF rfl rfl rfl rfl <| OF rfl rfl rfl rfl <| OF rfl rfl rfl rfl <| OF rfl rfl rfl rfl <| OF rfl rfl rfl rfl <| PF rfl rfl rfl rfl <| MV rfl rfl <| OF rfl rfl rfl rfl <| OF rfl rfl rfl rfl <| OF rfl rfl rfl rfl <| OF rfl rfl rfl rfl <| OF rfl rfl rfl rfl <| PF rfl rfl rfl rfl <| MV rfl rfl <| OF rfl rfl rfl rfl <| OF rfl rfl rfl rfl <| OF rfl rfl rfl rfl <| OF rfl rfl rfl rfl <| OF rfl rfl rfl rfl <| PF rfl rfl rfl rfl <| ?_
    refine MV rfl rfl <| OF rfl rfl rfl rfl <| OF rfl rfl rfl rfl <| OF rfl rfl rfl rfl <| OF rfl rfl rfl rfl <| OF rfl rfl rfl rfl <| PF rfl rfl rfl rfl <| MV rfl rfl <| OF rfl rfl rfl rfl <| OF rfl rfl rfl rfl <| OF rfl rfl rfl rfl <| OF rfl rfl rfl rfl <| OF rfl rfl rfl rfl <| PF rfl rfl rfl rfl <| AS rfl rfl <| ND <| ret_cv Try.func91 (res1 Try.func91 rfl (rv_tmp rfl)) <| ?_
    simp [eqSenders, h1]

theorem spec_EqualBuffers {w : World} {cs : List Value} {x : Buffer} (hv : RdBuffer w cs x) (hb : x.le 134217728) {cs1_ : List Value} {y : Buffer} (hv1_ : RdBuffer w cs1_ y) : CV Try.prog 156 [.agg cs.toArray, .agg cs1_.toArray] w (.bool (eqBuffers x y)) := by
  obtain ⟨v0, rfl, k0⟩ := hv
  obtain ⟨A0, c0, rfl, hA0⟩ := k0
  obtain ⟨hb0, hb1⟩ := hb
  obtain ⟨v1_0, rfl, k1_0⟩ := hv1_
  obtain ⟨A1_0, c1_0, rfl, hA1_0⟩ := k1_0
  refine cv_of Try.func156 rfl rfl rfl <| SQ <| RG <| BX [_, _] rfl rfl rfl <| fun b1 => BX [_, _] rfl rfl rfl <| fun b2 => AS rfl rfl <| ND <| SQ <| SQ <| RG <| FA rfl tyF_impl_Buffer_0 rfl <| LD (i := 1) rfl tyP_int rfl rfl rfl <| FA rfl tyF_impl_Buffer_0 rfl <| LD (i := 0) rfl tyP_int rfl rfl rfl <| rw_neq rfl rfl rfl <| MV rfl rfl <| ?_
  refine rw_case (j := 11) rfl (fun h1 => ?_) (fun h1 => ?_)
  · replace h1 := of_not_T h1
    refine OF rfl rfl (not_F h1) rfl <| OF rfl rfl (not_F h1) rfl <| OF rfl rfl (not_F h1) rfl <| OF rfl rfl (not_F h1) rfl <| OF rfl rfl (not_F h1) rfl <| OF rfl rfl (not_F h1) rfl <| OF rfl rfl (not_F h1) rfl <| PT rfl rfl (not_F h1) rfl <| ND <| CT rfl rfl <| SQ <| RG <| AS rfl rfl <| ND <| ret_cv Try.func156 (res1 Try.func156 rfl (rv_tmp rfl)) <| ?_
    simp [eqBuffers, h1]
  · replace h1 := of_not_F h1
    refine ON rfl rfl (not_T h1) <| FA rfl tyF_impl_Buffer_1 rfl <| ON rfl rfl (not_T h1) <| LD (i := 1) rfl tyP_S_impl_Chunk rfl rfl rfl <| ON rfl rfl (not_T h1) <| rw_len rfl tyE_S_impl_Chunk rfl <| ON rfl rfl (not_T h1) <| FA rfl tyF_impl_Buffer_1 rfl <| ON rfl rfl (not_T h1) <| LD (i := 0) rfl tyP_S_impl_Chunk rfl rfl rfl <| ON rfl rfl (not_T h1) <| rw_len rfl tyE_S_impl_Chunk rfl <| ON rfl rfl (not_T h1) <| rw_neq rfl rfl rfl <| PF rfl rfl (not_T h1) rfl <| ND <| ?_
    refine gw_cond rfl (fun h2 => ?_) (fun h2 => ?_)
    · replace h2 := of_not_T h2
      have hlne1 := len_ne_of h2
      refine SQ <| RG <| AS rfl rfl <| ND <| ret_cv Try.func156 (res1 Try.func156 rfl (rv_tmp rfl)) <| ?_
      simp [eqBuffers, eqL_len _ _ _ hlne1, h1]
    · replace h2 := of_not_F h2
      have hlen2 := len_eq_of h2
      refine SK <| SQ <| SQ <| RG <| AS rfl rfl <| ND <| BK <| ?_
      refine gw_loopC (α := Nat) (fun z_ => z_ ≤ x.chunks.length ∧ eqBuffers x y = eqL Chunk.cells (x.chunks.drop z_) (y.chunks.drop z_)) (fun z_ => x.chunks.length - z_) (fun e z_ => (5, .int .i64 (z_ : Int)) :: e) 0 [(2, _), (3, _)] (Sub.consE rfl rfl (Sub.cons (i := 2) rfl (Sub.cons (i := 3) rfl (Sub.nil _)))) ?_ ?_
      · exact ⟨Nat.zero_le _, by simp [eqBuffers, h1]⟩
      · rintro i hI3 ih3
        try dsimp only
        obtain ⟨hle, hI⟩ := hI3
        refine SQ <| SQ <| RG <| MV rfl rfl <| FA rfl tyF_impl_Buffer_1 rfl <| LD (i := 1) rfl tyP_S_impl_Chunk rfl rfl rfl <| rw_len rfl tyE_S_impl_Chunk rfl <| rw_lss rfl rfl rfl <| ND <| ?_
        refine gw_cond rfl (fun h3 => ?_) (fun h3 => ?_)
        · have hi4 := lt_of_dec h3
          obtain ⟨x5, hx5⟩ := get_of_lt hi4
          have hd5 := drop_cons hx5
          refine SK <| SQ <| BK <| SQ <| gw_draw' [(0, .det), (1, .det), (2, .det), (3, .det), (4, .det), (5, .det), (6, .det), (7, .det), (8, .det), (9, .det)] [10] mixed rfl (free_det (free_det (free_det (free_det (free_det (free_det (free_det (free_det (free_det (free_det free_nil)))))))))) (ts := [_]) rfl <| DT rfl rfl (fun K hk => FA rfl tyF_impl_Buffer_1 rfl hk) <| DT rfl rfl (fun K hk => LD (i := 1) rfl tyP_S_impl_Chunk rfl rfl rfl hk) <| DT rfl rfl (fun K hk => MV rfl rfl hk) <| ?_
          have hq6 := hA0.plain hx5
          refine DT rfl rfl (fun K hk => rw_indexAddr (i) rfl tyE_S_impl_Chunk rfl rfl rfl (hA0.some hi4) hi4 hk) <| DT rfl rfl (fun K hk => rw_loadX_s [_, _] rfl tyS_impl_Chunk rfl rfl (fun w hs => hq6.lds0 (n := 2) hs rfl) hk) <| DT rfl rfl (fun K hk => FA rfl tyF_impl_Buffer_1 rfl hk) <| DT rfl rfl (fun K hk => LD (i := 0) rfl tyP_S_impl_Chunk rfl rfl rfl hk) <| DT rfl rfl (fun K hk => MV rfl rfl hk) <| ?_
          have hi7 : i < y.chunks.length := by omega
          obtain ⟨x8, hx8⟩ := get_of_lt hi7
          have hd8 := drop_cons hx8
          have hq9 := hA1_0.plain hx8
          refine DT rfl rfl (fun K hk => rw_indexAddr (i) rfl tyE_S_impl_Chunk rfl rfl rfl (hA1_0.some hi7) hi7 hk) <| DT rfl rfl (fun K hk => rw_loadX_s [_, _] rfl tyS_impl_Chunk rfl rfl (fun w hs => hq9.lds0 (n := 2) hs rfl) hk) <| dw_nil <| rw_neqQ rfl tyQ_impl_Chunk rfl rfl rfl rfl <| ND <| ?_
          refine gw_cond rfl (fun h4 => ?_) (fun h4 => ?_)
          · replace h4 := of_not_T h4
            refine SQ <| RG <| AS rfl rfl <| ND <| ret_cv Try.func156 (res1 Try.func156 rfl (rv_tmp rfl)) <| ?_
            rw [hI, hd5, hd8]; simp [eqL, show eqC (Chunk.cells x5) (Chunk.cells x8) = false from h4]
          · replace h4 := of_not_F h4
            refine SK <| IB <| RG <| MV rfl rfl <| rw_add rfl rfl rfl <| AS rfl rfl <| ND <| ?_
            refine gw_sub (Sub.consE (i := 5) rfl (int_succ (by omega)) (Sub.cons (i := 2) rfl (Sub.cons (i := 3) rfl (Sub.nil _)))) (ih3 (i + 1) ?_ ?_)
            · exact ⟨by omega, by rw [hI, hd5, hd8]; simp [eqL, show eqC (Chunk.cells x5) (Chunk.cells x8) = true from h4]⟩
            · show x.chunks.length - (i + 1) < x.chunks.length - i; omega
        · have hn10 := nil_of_dec h3
          refine EX rfl <| SQ <| RG <| AS rfl rfl <| ND <| ret_cv Try.func156 (res1 Try.func156 rfl (rv_tmp rfl)) <| ?_
          rw [hI, hn10, drop_nil_of hlen2 hn10]; rfl

theorem spec_EqualReceivers {w : World} {cs : List Value} {x : Receiver} (hv : RdReceiver w cs x) (hb : x.le 134217728) {cs1_ : List Value} {y : Receiver} (hv1_ : RdReceiver w cs1_ y) : CV Try.prog 92 [.agg cs.toArray, .agg cs1_.toArray] w (.bool (eqReceivers x y)) := by
  obtain ⟨v0, rfl, k0⟩ := hv
  obtain ⟨A0, c0, rfl, hA0⟩ := k0
  obtain ⟨hb0, hb1⟩ := hb
  obtain ⟨v1_0, rfl, k1_0⟩ := hv1_
  obtain ⟨A1_0, c1_0, rfl, hA1_0⟩ := k1_0
  refine cv_of Try.func92 rfl rfl rfl <| SQ <| RG <| BX [_, _, _, _, _, _] rfl rfl rfl <| fun b1 => BX [_, _, _, _, _, _] rfl rfl rfl <| fun b2 => AS rfl rfl <| ND <| SQ <| RG <| FA rfl tyF_impl_Receiver_0 rfl <| LD (i := 1) rfl tyP_int rfl rfl rfl <| FA rfl tyF_impl_Receiver_0 rfl <| LD (i := 0) rfl tyP_int rfl rfl rfl <| EQ1 rfl rfl rfl <| MV rfl rfl <| ?_
  refine rw_case (j := 10) rfl (fun h1 => ?_) (fun h1 => ?_)
  · refine ON rfl rfl h1 <| FA rfl tyF_impl_Receiver_1 rfl <| ON rfl rfl h1 <| LS (i := 1) [_, _] rfl tyS_impl_Buffer rfl rfl rfl rfl <| ON rfl rfl h1 <| FA rfl tyF_impl_Receiver_1 rfl <| ON rfl rfl h1 <| LS (i := 0) [_, _] rfl tyS_impl_Buffer rfl rfl rfl rfl <| ON rfl rfl h1 <| CV1 rfl fun_spec_EqualBuffers rfl (fun w hs => spec_EqualBuffers ⟨_, rfl, (hA0.s Pl.keeps hs)⟩ ⟨hb0, hb1⟩ ⟨_, rfl, (hA1_0.s Pl.keeps hs)⟩) <| PT rfl rfl h1 rfl <| MV rfl rfl <| ?_
    refine rw_case (j := 17) rfl (fun h2 => ?_) (fun h2 => ?_)
    · refine ON rfl rfl h2 <| FA rfl tyF_impl_Receiver_2 rfl <| ON rfl rfl h2 <| LD (i := 1) rfl tyP_int rfl rfl rfl <| ON rfl rfl h2 <| FA rfl tyF_impl_Receiver_2 rfl <| ON rfl rfl h2 <| LD (i := 0) rfl tyP_int rfl rfl rfl <| ON rfl rfl h2 <| EQ1 rfl rfl rfl <| PT rfl rfl h2 rfl <| MV rfl rfl <| ?_
      refine rw_case (j := 24) rfl (fun h3 => ?_) (fun h3 => ?_)
      · refine ON rfl rfl h3 <| FA rfl tyF_impl_Receiver_3 rfl <| ON rfl rfl h3 <| LD (i := 1) rfl tyP_int rfl rfl rfl <| ON rfl rfl h3 <| FA rfl tyF_impl_Receiver_3 rfl <| ON rfl rfl h3 <| LD (i := 0) rfl tyP_int rfl rfl rfl <| ON rfl rfl h3 <| EQ1 rfl rfl rfl <| PT rfl rfl h3 rfl <| MV rfl rfl <| ?_
        refine rw_case (j := 31) rfl (fun h4 => ?_) (fun h4 => ?_)
        · refine ON rfl rfl h4 <| FA rfl tyF_impl_Receiver_4 rfl <| ON rfl rfl h4 <| LD (i := 1) rfl tyP_int rfl rfl rfl <| ON rfl rfl h4 <| FA rfl tyF_impl_Receiver_4 rfl <| ON rfl rfl h4 <| LD (i := 0) rfl tyP_int rfl rfl rfl <| ON rfl rfl h4 <| EQ1 rfl rfl rfl <| PT rfl rfl h4 rfl <| AS rfl rfl <| ND <| ret_cv Try.func92 (res1 Try.func92 rfl (rv_tmp rfl)) <| ?_
          simp [eqReceivers, h1, h2, h3, h4]
        · refine OF rfl rfl h4 rfl <| OF rfl rfl h4 rfl <| OF rfl rfl h4 rfl <| OF rfl rfl h4 rfl <| OF rfl rfl h4 rfl <| PF rfl rfl h4 rfl <| AS rfl rfl <| ND <| ret_cv Try.func92 (res1 Try.func92 rfl (rv_tmp rfl)) <| ?_
          simp [eqReceivers, h1, h2, h3, h4]
      · refine OF rfl rfl h3 rfl <| OF rfl rfl h3 rfl <| OF rfl rfl h3 rfl <| OF rfl rfl h3 rfl <| OF rfl rfl h3 rfl <| PF rfl rfl h3 rfl <| MV rfl rfl <| OF rfl rfl rfl rfl <| OF rfl rfl rfl rfl <| OF rfl rfl rfl rfl <| OF rfl rfl rfl rfl <| OF rfl rfl rfl rfl <| PF rfl rfl rfl rfl <| AS rfl rfl <| ND <| ret_cv Try.func92 (res1 Try.func92 rfl (rv_tmp rfl)) <| ?_
        simp [eqReceivers, h1, h2, h3]
    · refine OF rfl rfl h2 rfl <| OF rfl rfl h2 rfl <| OF rfl rfl h2 rfl <| OF rfl rfl h2 rfl <| OF rfl rfl h2 rfl <| PF rfl rfl h2 rfl <| MV rfl rfl <| OF rfl rfl rfl rfl <| OF rfl rfl rfl rfl <| OF rfl rfl rfl rfl <| OF rfl rfl rfl rfl <| OF rfl rfl rfl rfl <| PF rfl rfl rfl rfl <| MV rfl rfl <| OF rfl rfl rfl rfl <| OF rfl rfl rfl rfl <| OF rfl rfl rfl rfl <| OF rfl rfl rfl rfl <| OF rfl rfl rfl rfl <| PF rfl rfl rfl rfl <| AS rfl rfl <| ?_
      refine ND <| ret_cv Try.func92 (res1 Try.func92 rfl (rv_tmp rfl)) <| ?_
      simp [eqReceivers, h1, h2]
  · refine OF rfl rfl h1 rfl <| OF rfl rfl h1 rfl <| OF rfl rfl h1 rfl <| OF rfl rfl h1 rfl <| OF rfl rfl h1 rfl <| PF rfl rfl h1 rfl <| MV rfl rfl <| OF rfl rfl rfl rfl <| OF rfl rfl rfl rfl <| OF rfl rfl rfl rfl <| OF rfl rfl rfl rfl <| OF rfl rfl rfl rfl <| PF rfl rfl rfl rfl <| MV rfl rfl <| OF rfl rfl rfl rfl <| OF rfl rfl rfl rfl <| OF rfl rfl rfl rfl <| OF rfl rfl rfl rfl <| OF rfl rfl rfl rfl <| PF rfl rfl rfl rfl <| MV rfl rfl <| ?_
    refine OF rfl rfl rfl rfl <| OF rfl rfl rfl rfl <| OF rfl rfl rfl rfl <| OF rfl rfl rfl rfl <| OF rfl rfl rfl rfl <| PF rfl rfl rfl rfl <| AS rfl rfl <| ND <| ret_cv Try.func92 (res1 Try.func92 rfl (rv_tmp rfl)) <| ?_
    simp [eqReceivers, h1]

set_option maxRecDepth 20000 in
theorem spec_EqualStreams {w : World} {cs : List Value} {x : Stream} (hv : RdStream w cs x) (hb : x.le 134217728) {cs1_ : List Value} {y : Stream} (hv1_ : RdStream w cs1_ y) : CV Try.prog 30 [.agg cs.toArray, .agg cs1_.toArray] w (.bool (eqStreams x y)) := by
  obtain ⟨v0, v1, v2, v3, v4, rfl, k0, k1, k2, k3, k4⟩ := hv
  obtain ⟨A0, c0, rfl, hA0⟩ := k0
  obtain ⟨A1, c1, rfl, hA1⟩ := k1
  obtain ⟨A2, c2, rfl, hA2⟩ := k2
  obtain ⟨A3, c3, rfl, hA3⟩ := k3
  obtain ⟨A4, c4, rfl, hA4⟩ := k4
  obtain ⟨hb0, hb1, hb2, hb3, hb4, hb5⟩ := hb
  obtain ⟨v1_0, v1_1, v1_2, v1_3, v1_4, rfl, k1_0, k1_1, k1_2, k1_3, k1_4⟩ := hv1_
  obtain ⟨A1_0, c1_0, rfl, hA1_0⟩ := k1_0
  obtain ⟨A1_1, c1_1, rfl, hA1_1⟩ := k1_1
  obtain ⟨A1_2, c1_2, rfl, hA1_2⟩ := k1_2
  obtain ⟨A1_3, c1_3, rfl, hA1_3⟩ := k1_3
  obtain ⟨A1_4, c1_4, rfl, hA1_4⟩ := k1_4
  refine cv_of Try.func30 rfl rfl rfl <| SQ <| RG <| BX [_, _, _, _, _, _, _, _, _, _, _, _, _, _, _, _, _, _, _, _, _, _, _, _, _, _, _, _, _, _, _, _, _, _, _, _, _, _, _] rfl rfl rfl <| fun b1 => BX [_, _, _, _, _, _, _, _, _, _, _, _, _, _, _, _, _, _, _, _, _, _, _, _, _, _, _, _, _, _, _, _, _, _, _, _, _, _, _] rfl rfl rfl <| fun b2 => AS rfl rfl <| ND <| SQ <| RG <| FA rfl tyF_impl_Stream_0 rfl <| LD (i := 1) rfl tyP_int rfl rfl rfl <| FA rfl tyF_impl_Stream_0 rfl <| LD (i := 0) rfl tyP_int rfl rfl rfl <| ?_
  refine EQ1 rfl rfl rfl <| MV rfl rfl <| ?_
  refine rw_case (j := 10) rfl (fun h1 => ?_) (fun h1 => ?_)
  · refine ON rfl rfl h1 <| FA rfl tyF_impl_Stream_1 rfl <| ON rfl rfl h1 <| LS (i := 1) [_, _, _, _, _, _, _, _, _, _, _, _] rfl tyS_impl_Sender rfl rfl rfl rfl <| ON rfl rfl h1 <| FA rfl tyF_impl_Stream_1 rfl <| ON rfl rfl h1 <| LS (i := 0) [_, _, _, _, _, _, _, _, _, _, _, _] rfl tyS_impl_Sender rfl rfl rfl rfl <| ON rfl rfl h1 <| CV1 rfl fun_spec_EqualSenders rfl (fun w hs => spec_EqualSenders ⟨_, _, _, _, rfl, (hA0.s Pl.keeps hs), (hA1.s Pl.keeps hs), (hA2.s Pl.keeps hs), (hA3.s Pl.keeps hs)⟩ ⟨hb0, hb1, hb2, hb3⟩ ⟨_, _, _, _, rfl, (hA1_0.s Pl.keeps hs), (hA1_1.s Pl.keeps hs), (hA1_2.s Pl.keeps hs), (hA1_3.s Pl.keeps hs)⟩) <| ?_
    refine PT rfl rfl h1 rfl <| MV rfl rfl <| ?_
    refine rw_case (j := 17) rfl (fun h2 => ?_) (fun h2 => ?_)
    · refine ON rfl rfl h2 <| FA rfl tyF_impl_Stream_2 rfl <| ON rfl rfl h2 <| LS (i := 1) [_, _, _, _] rfl tyS_impl_Credit rfl rfl rfl rfl <| ON rfl rfl h2 <| FA rfl tyF_impl_Stream_2 rfl <| ON rfl rfl h2 <| LS (i := 0) [_, _, _, _] rfl tyS_impl_Credit rfl rfl rfl rfl <| ON rfl rfl h2 <| rw_eqlQ rfl tyQ_impl_Credit rfl rfl rfl rfl <| PT rfl rfl h2 rfl <| MV rfl rfl <| ?_
      refine rw_case (j := 24) rfl (fun h3 => ?_) (fun h3 => ?_)
      · refine ON rfl rfl h3 <| FA rfl tyF_impl_Stream_3 rfl <| ON rfl rfl h3 <| LS (i := 1) [_, _, _, _, _, _] rfl tyS_impl_Receiver rfl rfl rfl rfl <| ON rfl rfl h3 <| FA rfl tyF_impl_Stream_3 rfl <| ON rfl rfl h3 <| LS (i := 0) [_, _, _, _, _, _] rfl tyS_impl_Receiver rfl rfl rfl rfl <| ON rfl rfl h3 <| CV1 rfl fun_spec_EqualReceivers rfl (fun w hs => spec_EqualReceivers ⟨_, rfl, (hA4.s Pl.keeps hs)⟩ ⟨hb4, hb5⟩ ⟨_, rfl, (hA1_4.s Pl.keeps hs)⟩) <| PT rfl rfl h3 rfl <| MV rfl rfl <| ?_
        refine rw_case (j := 31) rfl (fun h4 => ?_) (fun h4 => ?_)
        · refine ON rfl rfl h4 <| FA rfl tyF_impl_Stream_4 rfl <| ON rfl rfl h4 <| LS (i := 1) [_, _, _, _, _, _] rfl tyS_impl_Window rfl rfl rfl rfl <| ON rfl rfl h4 <| FA rfl tyF_impl_Stream_4 rfl <| ON rfl rfl h4 <| LS (i := 0) [_, _, _, _, _, _] rfl tyS_impl_Window rfl rfl rfl rfl <| ON rfl rfl h4 <| rw_eqlQ rfl tyQ_impl_Window rfl rfl rfl rfl <| PT rfl rfl h4 rfl <| MV rfl rfl <| ?_
          refine rw_case (j := 38) rfl (fun h5 => ?_) (fun h5 => ?_)
          · refine ON rfl rfl h5 <| FA rfl tyF_impl_Stream_5 rfl <| ON rfl rfl h5 <| LS (i := 1) [_, _] rfl tyS_impl_Priority rfl rfl rfl rfl <| ON rfl rfl h5 <| FA rfl tyF_impl_Stream_5 rfl <| ON rfl rfl h5 <| LS (i := 0) [_, _] rfl tyS_impl_Priority rfl rfl rfl rfl <| ON rfl rfl h5 <| rw_eqlQ rfl tyQ_impl_Priority rfl rfl rfl rfl <| PT rfl rfl h5 rfl <| MV rfl rfl <| ?_
            refine rw_case (j := 45) rfl (fun h6 => ?_) (fun h6 => ?_)
            · refine ON rfl rfl h6 <| FA rfl tyF_impl_Stream_6 rfl <| ON rfl rfl h6 <| LD (i := 1) rfl tyP_bool rfl rfl rfl <| ON rfl rfl h6 <| FA rfl tyF_impl_Stream_6 rfl <| ON rfl rfl h6 <| LD (i := 0) rfl tyP_bool rfl rfl rfl <| ON rfl rfl h6 <| rw_eqlB (by kernel_rfl) rfl rfl rfl <| PT rfl rfl h6 rfl <| MV rfl rfl <| ?_
              refine rw_case (j := 52) rfl (fun h7 => ?_) (fun h7 => ?_)
              · refine ON rfl rfl h7 <| FA rfl tyF_impl_Stream_7 rfl <| ON rfl rfl h7 <| LD (i := 1) rfl tyP_bool rfl rfl rfl <| ON rfl rfl h7 <| FA rfl tyF_impl_Stream_7 rfl <| ON rfl rfl h7 <| LD (i := 0) rfl tyP_bool rfl rfl rfl <| ON rfl rfl h7 <| rw_eqlB (by kernel_rfl) rfl rfl rfl <| PT rfl rfl h7 rfl <| MV rfl rfl <| ?_
                refine rw_case (j := 59) rfl (fun h8 => ?_) (fun h8 => ?_)
                · refine ON rfl rfl h8 <| FA rfl tyF_impl_Stream_8 rfl <| ON rfl rfl h8 <| LD (i := 1) rfl tyP_bool rfl rfl rfl <| ON rfl rfl h8 <| FA rfl tyF_impl_Stream_8 rfl <| ON rfl rfl h8 <| LD (i := 0) rfl tyP_bool rfl rfl rfl <| ON rfl rfl h8 <| rw_eqlB (by kernel_rfl) rfl rfl rfl <| PT rfl rfl h8 rfl <| MV rfl rfl <| ?_
                  refine rw_case (j := 66) rfl (fun h9 => ?_) (fun h9 => ?_)
                  · refine ON rfl rfl h9 <| FA rfl tyF_impl_Stream_9 rfl <| ON rfl rfl h9 <| LD (i := 1) rfl tyP_bool rfl rfl rfl <| ON rfl rfl h9 <| FA rfl tyF_impl_Stream_9 rfl <| ON rfl rfl h9 <| LD (i := 0) rfl tyP_bool rfl rfl rfl <| ON rfl rfl h9 <| rw_eqlB (by kernel_rfl) rfl rfl rfl <| PT rfl rfl h9 rfl <| MV rfl rfl <| ?_
                    refine rw_case (j := 73) rfl (fun h10 => ?_) (fun h10 => ?_)
                    · refine ON rfl rfl h10 <| FA rfl tyF_impl_Stream_10 rfl <| ON rfl rfl h10 <| LD (i := 1) rfl tyP_bool rfl rfl rfl <| ON rfl rfl h10 <| FA rfl tyF_impl_Stream_10 rfl <| ON rfl rfl h10 <| LD (i := 0) rfl tyP_bool rfl rfl rfl <| ON rfl rfl h10 <| rw_eqlB (by kernel_rfl) rfl rfl rfl <| PT rfl rfl h10 rfl <| MV rfl rfl <| ?_
                      refine rw_case (j := 80) rfl (fun h11 => ?_) (fun h11 => ?_)
                      · refine ON rfl rfl h11 <| FA rfl tyF_impl_Stream_11 rfl <| ON rfl rfl h11 <| LD (i := 1) rfl tyP_bool rfl rfl rfl <| ON rfl rfl h11 <| FA rfl tyF_impl_Stream_11 rfl <| ON rfl rfl h11 <| LD (i := 0) rfl tyP_bool rfl rfl rfl <| ON rfl rfl h11 <| rw_eqlB (by kernel_rfl) rfl rfl rfl <| PT rfl rfl h11 rfl <| MV rfl rfl <| ?_
                        refine rw_case (j := 87) rfl (fun h12 => ?_) (fun h12 => ?_)
                        · refine ON rfl rfl h12 <| FA rfl tyF_impl_Stream_12 rfl <| ON rfl rfl h12 <| LD (i := 1) rfl tyP_int rfl rfl rfl <| ON rfl rfl h12 <| FA rfl tyF_impl_Stream_12 rfl <| ON rfl rfl h12 <| LD (i := 0) rfl tyP_int rfl rfl rfl <| ON rfl rfl h12 <| EQ1 rfl rfl rfl <| PT rfl rfl h12 rfl <| MV rfl rfl <| ?_
                          refine rw_case (j := 94) rfl (fun h13 => ?_) (fun h13 => ?_)
                          · refine ON rfl rfl h13 <| FA rfl tyF_impl_Stream_13 rfl <| ON rfl rfl h13 <| LD (i := 1) rfl tyP_bool rfl rfl rfl <| ON rfl rfl h13 <| FA rfl tyF_impl_Stream_13 rfl <| ON rfl rfl h13 <| LD (i := 0) rfl tyP_bool rfl rfl rfl <| ON rfl rfl h13 <| rw_eqlB (by kernel_rfl) rfl rfl rfl <| PT rfl rfl h13 rfl <| AS rfl rfl <| ND <| ret_cv Try.func30 (res1 Try.func30 rfl (rv_tmp rfl)) <| ?_
                            simp [eqStreams, Credit.cells, Window.cells, Priority.cells, h1, h2, h3, h4, h5, h6, h7, h8, h9, h10, h11, h12, h13]
                          · refine OF rfl rfl h13 rfl <| OF rfl rfl h13 rfl <| OF rfl rfl h13 rfl <| OF rfl rfl h13 rfl <| OF rfl rfl h13 rfl <| PF rfl rfl h13 rfl <| AS rfl rfl <| ND <| ret_cv Try.func30 (res1 Try.func30 rfl (rv_tmp rfl)) <| ?_
                            simp [eqStreams, Credit.cells, Window.cells, Priority.cells, h1, h2, h3, h4, h5, h6, h7, h8, h9, h10, h11, h12, h13]
                        · refine OF rfl rfl h12 rfl <| OF rfl rfl h12 rfl <| OF rfl rfl h12 rfl <| OF rfl rfl h12 rfl <| OF rfl rfl h12 rfl <| PF rfl rfl h12 rfl <| MV rfl rfl <| OF rfl rfl rfl rfl <| OF rfl rfl rfl rfl <| OF rfl rfl rfl rfl <| OF rfl rfl rfl rfl <| OF rfl rfl rfl rfl <| PF rfl rfl rfl rfl <| AS rfl rfl <| ND <| ret_cv Try.func30 (res1 Try.func30 rfl (rv_tmp rfl)) <| ?_
                          simp [eqStreams, Credit.cells, Window.cells, Priority.cells, h1, h2, h3, h4, h5, h6, h7, h8, h9, h10, h11, h12]
                      · refine OF rfl rfl h11 rfl <| OF rfl rfl h11 rfl <| OF rfl rfl h11 rfl <| OF rfl rfl h11 rfl <| OF rfl rfl h11 rfl <| PF rfl rfl h11 rfl <| MV rfl rfl <| OF rfl rfl rfl rfl <| OF rfl rfl rfl rfl <| OF rfl rfl rfl rfl <| OF rfl rfl rfl rfl <| OF rfl rfl rfl rfl <| PF rfl rfl rfl rfl <| MV rfl rfl <| OF rfl rfl rfl rfl <| OF rfl rfl rfl rfl <| OF rfl rfl rfl rfl <| OF rfl rfl rfl rfl <| OF rfl rfl rfl rfl <| PF rfl rfl rfl rfl <| ?_
                        refine AS rfl rfl <| ND <| ret_cv Try.func30 (res1 Try.func30 rfl (rv_tmp rfl)) <| ?_
                        simp [eqStreams, Credit.cells, Window.cells, Priority.cells, h1, h2, h3, h4, h5, h6, h7, h8, h9, h10, h11]
                    · refine OF rfl rfl h10 rfl <| OF rfl rfl h10 rfl <| OF rfl rfl h10 rfl <| OF rfl rfl h10 rfl <| OF rfl rfl h10 rfl <| PF rfl rfl h10 rfl <| MV rfl rfl <| OF rfl rfl rfl rfl <| OF rfl rfl rfl rfl <| OF rfl rfl rfl rfl <| OF rfl rfl rfl rfl <| OF rfl rfl rfl rfl <| PF rfl rfl rfl rfl <| MV rfl rfl <| OF rfl rfl rfl rfl <| OF rfl rfl rfl rfl <| OF rfl rfl rfl rfl <| OF rfl rfl rfl rfl <| OF rfl rfl rfl rfl <| PF rfl rfl rfl rfl <| ?_
                      refine MV rfl rfl <| OF rfl rfl rfl rfl <| OF rfl rfl rfl rfl <| OF rfl rfl rfl rfl <| OF rfl rfl rfl rfl <| OF rfl rfl rfl rfl <| PF rfl rfl rfl rfl <| AS rfl rfl <| ND <| ret_cv Try.func30 (res1 Try.func30 rfl (rv_tmp rfl)) <| ?_
                      simp [eqStreams, Credit.cells, Window.cells, Priority.cells, h1, h2, h3, h4, h5, h6, h7, h8, h9, h10]
                  · refine OF rfl rfl h9 rfl <| OF rfl rfl h9 rfl <| OF rfl rfl h9 rfl <| OF rfl rfl h9 rfl <| OF rfl rfl h9 rfl <| PF rfl rfl h9 rfl <| MV rfl rfl <| OF rfl rfl rfl rfl <| OF rfl rfl rfl rfl <| OF rfl rfl rfl rfl <| OF rfl rfl rfl rfl <| OF rfl rfl rfl rfl <| PF rfl rfl rfl rfl <| MV rfl rfl <| OF rfl rfl rfl rfl <| OF rfl rfl rfl rfl <| OF rfl rfl rfl rfl <| OF rfl rfl rfl rfl <| OF rfl rfl rfl rfl <| PF rfl rfl rfl rfl <| MV rfl rfl <| ?_
                    refine OF rfl rfl rfl rfl <| OF rfl rfl rfl rfl <| OF rfl rfl rfl rfl <| OF rfl rfl rfl rfl <| OF rfl rfl rfl rfl <| PF rfl rfl rfl rfl <| MV rfl rfl <| OF rfl rfl rfl rfl <| OF rfl rfl rfl rfl <| OF rfl rfl rfl rfl <| OF rfl rfl rfl rfl <| OF rfl rfl rfl rfl <| PF rfl rfl rfl rfl <| AS rfl rfl <| ND <| ret_cv Try.func30 (res1 Try.func30 rfl (rv_tmp rfl)) <| ?_
                    simp [eqStreams, Credit.cells, Window.cells, Priority.cells, h1, h2, h3, h4, h5, h6, h7, h8, h9]
                · refine OF rfl rfl h8 rfl <| OF rfl rfl h8 rfl <| OF rfl rfl h8 rfl <| OF rfl rfl h8 rfl <| OF rfl rfl h8 rfl <| PF rfl rfl h8 rfl <| MV rfl rfl <| OF rfl rfl rfl rfl <| OF rfl rfl rfl rfl <| OF rfl rfl rfl rfl <| OF rfl rfl rfl rfl <| OF rfl rfl rfl rfl <| PF rfl rfl rfl rfl <| MV rfl rfl <| OF rfl rfl rfl rfl <| OF rfl rfl rfl rfl <| OF rfl rfl rfl rfl <| OF rfl rfl rfl rfl <| OF rfl rfl rfl rfl <| PF rfl rfl rfl rfl <| MV rfl rfl <| ?_
                  refine OF rfl rfl rfl rfl <| OF rfl rfl rfl rfl <| OF rfl rfl rfl rfl <| OF rfl rfl rfl rfl <| OF rfl rfl rfl rfl <| PF rfl rfl rfl rfl <| MV rfl rfl <| OF rfl rfl rfl rfl <| OF rfl rfl rfl rfl <| OF rfl rfl rfl rfl <| OF rfl rfl rfl rfl <| OF rfl rfl rfl rfl <| PF rfl rfl rfl rfl <| MV rfl rfl <| OF rfl rfl rfl rfl <| OF rfl rfl rfl rfl <| OF rfl rfl rfl rfl <| OF rfl rfl rfl rfl <| OF rfl rfl rfl rfl <| PF rfl rfl rfl rfl <| ?_
                  refine AS rfl rfl <| ND <| ret_cv Try.func30 (res1 Try.func30 rfl (rv_tmp rfl)) <| ?_
                  simp [eqStreams, Credit.cells, Window.cells, Priority.cells, h1, h2, h3, h4, h5, h6, h7, h8]
              · refine OF rfl rfl h7 rfl <| OF rfl rfl h7 rfl <| OF rfl rfl h7 rfl <| OF rfl rfl h7 rfl <| OF rfl rfl h7 rfl <| PF rfl rfl h7 rfl <| MV rfl rfl <| OF rfl rfl rfl rfl <| OF rfl rfl rfl rfl <| OF rfl rfl rfl rfl <| OF rfl rfl rfl rfl <| OF rfl rfl rfl rfl <| PF rfl rfl rfl rfl <| MV rfl rfl <| OF rfl rfl rfl rfl <| OF rfl rfl rfl rfl <| OF rfl rfl rfl rfl <| OF rfl rfl rfl rfl <| OF rfl rfl rfl rfl <| PF rfl rfl rfl rfl <| MV rfl rfl <| ?_
                refine OF rfl rfl rfl rfl <| OF rfl rfl rfl rfl <| OF rfl rfl rfl rfl <| OF rfl rfl rfl rfl <| OF rfl rfl rfl rfl <| PF rfl rfl rfl rfl <| MV rfl rfl <| OF rfl rfl rfl rfl <| OF rfl rfl rfl rfl <| OF rfl rfl rfl rfl <| OF rfl rfl rfl rfl <| OF rfl rfl rfl rfl <| PF rfl rfl rfl rfl <| MV rfl rfl <| OF rfl rfl rfl rfl <| OF rfl rfl rfl rfl <| OF rfl rfl rfl rfl <| OF rfl rfl rfl rfl <| OF rfl rfl rfl rfl <| PF rfl rfl rfl rfl <| ?_
                refine MV rfl rfl <| OF rfl rfl rfl rfl <| OF rfl rfl rfl rfl <| OF rfl rfl rfl rfl <| OF rfl rfl rfl rfl <| OF rfl rfl rfl rfl <| PF rfl rfl rfl rfl <| AS rfl rfl <| ND <| ret_cv Try.func30 (res1 Try.func30 rfl (rv_tmp rfl)) <| ?_
                simp [eqStreams, Credit.cells, Window.cells, Priority.cells, h1, h2, h3, h4, h5, h6, h7]
            · refine OF rfl rfl h6 rfl <| OF rfl rfl h6 rfl <| OF rfl rfl h6 rfl <| OF rfl rfl h6 rfl <| OF rfl rfl h6 rfl <| PF rfl rfl h6 rfl <| MV rfl rfl <| OF rfl rfl rfl rfl <| OF rfl rfl rfl rfl <| OF rfl rfl rfl rfl <| OF rfl rfl rfl rfl <| OF rfl rfl rfl rfl <| PF rfl rfl rfl rfl <| MV rfl rfl <| OF rfl rfl rfl rfl <| OF rfl rfl rfl rfl <| OF rfl rfl rfl rfl <| OF rfl rfl rfl rfl <| OF rfl rfl rfl rfl <| PF rfl rfl rfl rfl <| MV rfl rfl <| ?_
              refine OF rfl rfl rfl rfl <| OF rfl rfl rfl rfl <| OF rfl rfl rfl rfl <| OF rfl rfl rfl rfl <| OF rfl rfl rfl rfl <| PF rfl rfl rfl rfl <| MV rfl rfl <| OF rfl rfl rfl rfl <| OF rfl rfl rfl rfl <| OF rfl rfl rfl rfl <| OF rfl rfl rfl rfl <| OF rfl rfl rfl rfl <| PF rfl rfl rfl rfl <| MV rfl rfl <| OF rfl rfl rfl rfl <| OF rfl rfl rfl rfl <| OF rfl rfl rfl rfl <| OF rfl rfl rfl rfl <| OF rfl rfl rfl rfl <| PF rfl rfl rfl rfl <| ?_
              refine MV rfl rfl <| OF rfl rfl rfl rfl <| OF rfl rfl rfl rfl <| OF rfl rfl rfl rfl <| OF rfl rfl rfl rfl <| OF rfl rfl rfl rfl <| PF rfl rfl rfl rfl <| MV rfl rfl <| OF rfl rfl rfl rfl <| OF rfl rfl rfl rfl <| OF rfl rfl rfl rfl <| OF rfl rfl rfl rfl <| OF rfl rfl rfl rfl <| PF rfl rfl rfl rfl <| AS rfl rfl <| ND <| ret_cv Try.func30 (res1 Try.func30 rfl (rv_tmp rfl)) <| ?_
              simp [eqStreams, Credit.cells, Window.cells, Priority.cells, h1, h2, h3, h4, h5, h6]
          · refine OF rfl rfl h5 rfl <| OF rfl rfl h5 rfl <| OF rfl rfl h5 rfl <| OF rfl rfl h5 rfl <| OF rfl rfl h5 rfl <| PF rfl rfl h5 rfl <| MV rfl rfl <| OF rfl rfl rfl rfl <| OF rfl rfl rfl rfl <| OF rfl rfl rfl rfl <| OF rfl rfl rfl rfl <| OF rfl rfl rfl rfl <| PF rfl rfl rfl rfl <| MV rfl rfl <| OF rfl rfl rfl rfl <| OF rfl rfl rfl rfl <| OF rfl rfl rfl rfl <| OF rfl rfl rfl rfl <| OF rfl rfl rfl rfl <| PF rfl rfl rfl rfl <| MV rfl rfl <| ?_
            refine OF rfl rfl rfl rfl <| OF rfl rfl rfl rfl <| OF rfl rfl rfl rfl <| OF rfl rfl rfl rfl <| OF rfl rfl rfl rfl <| PF rfl rfl rfl rfl <| MV rfl rfl <| OF rfl rfl rfl rfl <| OF rfl rfl rfl rfl <| OF rfl rfl rfl rfl <| OF rfl rfl rfl rfl <| OF rfl rfl rfl rfl <| PF rfl rfl rfl rfl <| MV rfl rfl <| OF rfl rfl rfl rfl <| OF rfl rfl rfl rfl <| OF rfl rfl rfl rfl <| OF rfl rfl rfl rfl <| OF rfl rfl rfl rfl <| PF rfl rfl rfl rfl <| ?_
            refine MV rfl rfl <| OF rfl rfl rfl rfl <| OF rfl rfl rfl rfl <| OF rfl rfl rfl rfl <| OF rfl rfl rfl rfl <| OF rfl rfl rfl rfl <| PF rfl rfl rfl rfl <| MV rfl rfl <| OF rfl rfl rfl rfl <| OF rfl rfl rfl rfl <| OF rfl rfl rfl rfl <| OF rfl rfl rfl rfl <| OF rfl rfl rfl rfl <| PF rfl rfl rfl rfl <| MV rfl rfl <| OF rfl rfl rfl rfl <| OF rfl rfl rfl rfl <| OF rfl rfl rfl rfl <| OF rfl rfl rfl rfl <| OF rfl rfl rfl rfl <| PF rfl rfl rfl rfl <| ?_
            refine AS rfl rfl <| ND <| ret_cv Try.func30 (res1 Try.func30 rfl (rv_tmp rfl)) <| ?_
            simp [eqStreams, Credit.cells, Window.cells, Priority.cells, h1, h2, h3, h4, h5]
        · refine OF rfl rfl h4 rfl <| OF rfl rfl h4 rfl <| OF rfl rfl h4 rfl <| OF rfl rfl h4 rfl <| OF rfl rfl h4 rfl <| PF rfl rfl h4 rfl <| MV rfl rfl <| OF rfl rfl rfl rfl <| OF rfl rfl rfl rfl <| OF rfl rfl rfl rfl <| OF rfl rfl rfl rfl <| OF rfl rfl rfl rfl <| PF rfl rfl rfl rfl <| MV rfl rfl <| OF rfl rfl rfl rfl <| OF rfl rfl rfl rfl <| OF rfl rfl rfl rfl <| OF rfl rfl rfl rfl <| OF rfl rfl rfl rfl <| PF rfl rfl rfl rfl <| MV rfl rfl <| ?_
          refine OF rfl rfl rfl rfl <| OF rfl rfl rfl rfl <| OF rfl rfl rfl rfl <| OF rfl rfl rfl rfl <| OF rfl rfl rfl rfl <| PF rfl rfl rfl rfl <| MV rfl rfl <| OF rfl rfl rfl rfl <| OF rfl rfl rfl rfl <| OF rfl rfl rfl rfl <| OF rfl rfl rfl rfl <| OF rfl rfl rfl rfl <| PF rfl rfl rfl rfl <| MV rfl rfl <| OF rfl rfl rfl rfl <| OF rfl rfl rfl rfl <| OF rfl rfl rfl rfl <| OF rfl rfl rfl rfl <| OF rfl rfl rfl rfl <| PF rfl rfl rfl rfl <| ?_
          refine MV rfl rfl <| OF rfl rfl rfl rfl <| OF rfl rfl rfl rfl <| OF rfl rfl rfl rfl <| OF rfl rfl rfl rfl <| OF rfl rfl rfl rfl <| PF rfl rfl rfl rfl <| MV rfl rfl <| OF rfl rfl rfl rfl <| OF rfl rfl rfl rfl <| OF rfl rfl rfl rfl <| OF rfl rfl rfl rfl <| OF rfl rfl rfl rfl <| PF rfl rfl rfl rfl <| MV rfl rfl <| OF rfl rfl rfl rfl <| OF rfl rfl rfl rfl <| OF rfl rfl rfl rfl <| OF rfl rfl rfl rfl <| OF rfl rfl rfl rfl <| PF rfl rfl rfl rfl <| ?_
          refine MV rfl rfl <| OF rfl rfl rfl rfl <| OF rfl rfl rfl rfl <| OF rfl rfl rfl rfl <| OF rfl rfl rfl rfl <| OF rfl rfl rfl rfl <| PF rfl rfl rfl rfl <| AS rfl rfl <| ND <| ret_cv Try.func30 (res1 Try.func30 rfl (rv_tmp rfl)) <| ?_
          simp [eqStreams, Credit.cells, Window.cells, Priority.cells, h1, h2, h3, h4]
      · refine OF rfl rfl h3 rfl <| OF rfl rfl h3 rfl <| OF rfl rfl h3 rfl <| OF rfl rfl h3 rfl <| OF rfl rfl h3 rfl <| PF rfl rfl h3 rfl <| MV rfl rfl <| OF rfl rfl rfl rfl <| OF rfl rfl rfl rfl <| OF rfl rfl rfl rfl <| OF rfl rfl rfl rfl <| OF rfl rfl rfl rfl <| PF rfl rfl rfl rfl <| MV rfl rfl <| OF rfl rfl rfl rfl <| OF rfl rfl rfl rfl <| OF rfl rfl rfl rfl <| OF rfl rfl rfl rfl <| OF rfl rfl rfl rfl <| PF rfl rfl rfl rfl <| MV rfl rfl <| ?_
        refine OF rfl rfl rfl rfl <| OF rfl rfl rfl rfl <| OF rfl rfl rfl rfl <| OF rfl rfl rfl rfl <| OF rfl rfl rfl rfl <| PF rfl rfl rfl rfl <| MV rfl rfl <| OF rfl rfl rfl rfl <| OF rfl rfl rfl rfl <| OF rfl rfl rfl rfl <| OF rfl rfl rfl rfl <| OF rfl rfl rfl rfl <| PF rfl rfl rfl rfl <| MV rfl rfl <| OF rfl rfl rfl rfl <| OF rfl rfl rfl rfl <| OF rfl rfl rfl rfl <| OF rfl rfl rfl rfl <| OF rfl rfl rfl rfl <| PF rfl rfl rfl rfl <| ?_
        refine MV rfl rfl <| OF rfl rfl rfl rfl <| OF rfl rfl rfl rfl <| OF rfl rfl rfl rfl <| OF rfl rfl rfl rfl <| OF rfl rfl rfl rfl <| PF rfl rfl rfl rfl <| MV rfl rfl <| OF rfl rfl rfl rfl <| OF rfl rfl rfl rfl <| OF rfl rfl rfl rfl <| OF rfl rfl rfl rfl <| OF rfl rfl rfl rfl <| PF rfl rfl rfl rfl <| MV rfl rfl <| OF rfl rfl rfl rfl <| OF rfl rfl rfl rfl <| OF rfl rfl rfl rfl <| OF rfl rfl rfl rfl <| OF rfl rfl rfl rfl <| PF rfl rfl rfl rfl <| ?_
        refine MV rfl rfl <| OF rfl rfl rfl rfl <| OF rfl rfl rfl rfl <| OF rfl rfl rfl rfl <| OF rfl rfl rfl rfl <| OF rfl rfl rfl rfl <| PF rfl rfl rfl rfl <| MV rfl rfl <| OF rfl rfl rfl rfl <| OF rfl rfl rfl rfl <| OF rfl rfl rfl rfl <| OF rfl rfl rfl rfl <| OF rfl rfl rfl rfl <| PF rfl rfl rfl rfl <| AS rfl rfl <| ND <| ret_cv Try.func30 (res1 Try.func30 rfl (rv_tmp rfl)) <| ?_
        simp [eqStreams, Credit.cells, Window.cells, Priority.cells, h1, h2, h3]
    · refine OF rfl rfl h2 rfl <| OF rfl rfl h2 rfl <| OF rfl rfl h2 rfl <| OF rfl rfl h2 rfl <| OF rfl rfl h2 rfl <| PF rfl rfl h2 rfl <| MV rfl rfl <| OF rfl rfl rfl rfl <| OF rfl rfl rfl rfl <| OF rfl rfl rfl rfl <| OF rfl rfl rfl rfl <| OF rfl rfl rfl rfl <| PF rfl rfl rfl rfl <| MV rfl rfl <| OF rfl rfl rfl rfl <| OF rfl rfl rfl rfl <| OF rfl rfl rfl rfl <| OF rfl rfl rfl rfl <| OF rfl rfl rfl rfl <| PF rfl rfl rfl rfl <| MV rfl rfl <| ?_
      refine OF rfl rfl rfl rfl <| OF rfl rfl rfl rfl <| OF rfl rfl rfl rfl <| OF rfl rfl rfl rfl <| OF rfl rfl rfl rfl <| PF rfl rfl rfl rfl <| MV rfl rfl <| OF rfl rfl rfl rfl <| OF rfl rfl rfl rfl <| OF rfl rfl rfl rfl <| OF rfl rfl rfl rfl <| OF rfl rfl rfl rfl <| PF rfl rfl rfl rfl <| MV rfl rfl <| OF rfl rfl rfl rfl <| OF rfl rfl rfl rfl <| OF rfl rfl rfl rfl <| OF rfl rfl rfl rfl <| OF rfl rfl rfl rfl <| PF rfl rfl rfl rfl <| ?_
      refine MV rfl rfl <| OF rfl rfl rfl rfl <| OF rfl rfl rfl rfl <| OF rfl rfl rfl rfl <| OF rfl rfl rfl rfl <| OF rfl rfl rfl rfl <| PF rfl rfl rfl rfl <| MV rfl rfl <| OF rfl rfl rfl rfl <| OF rfl rfl rfl rfl <| OF rfl rfl rfl rfl <| OF rfl rfl rfl rfl <| OF rfl rfl rfl rfl <| PF rfl rfl rfl rfl <| MV rfl rfl <| OF rfl rfl rfl rfl <| OF rfl rfl rfl rfl <| OF rfl rfl rfl rfl <| OF rfl rfl rfl rfl <| OF rfl rfl rfl rfl <| PF rfl rfl rfl rfl <| ?_
      refine MV rfl rfl <| OF rfl rfl rfl rfl <| OF rfl rfl rfl rfl <| OF rfl rfl rfl rfl <| OF rfl rfl rfl rfl <| OF rfl rfl rfl rfl <| PF rfl rfl rfl rfl <| MV rfl rfl <| OF rfl rfl rfl rfl <| OF rfl rfl rfl rfl <| OF rfl rfl rfl rfl <| OF rfl rfl rfl rfl <| OF rfl rfl rfl rfl <| PF rfl rfl rfl rfl <| MV rfl rfl <| OF rfl rfl rfl rfl <| OF rfl rfl rfl rfl <| OF rfl rfl rfl rfl <| OF rfl rfl rfl rfl <| OF rfl rfl rfl rfl <| PF rfl rfl rfl rfl <| ?_
      refine AS rfl rfl <| ND <| ret_cv Try.func30 (res1 Try.func30 rfl (rv_tmp rfl)) <| ?_
      simp [eqStreams, Credit.cells, Window.cells, Priority.cells, h1, h2]
  · refine OF rfl rfl h1 rfl <| OF rfl rfl h1 rfl <| OF rfl rfl h1 rfl <| OF rfl rfl h1 rfl <| OF rfl rfl h1 rfl <| PF rfl rfl h1 rfl <| MV rfl rfl <| OF rfl rfl rfl rfl <| OF rfl rfl rfl rfl <| OF rfl rfl rfl rfl <| OF rfl rfl rfl rfl <| OF rfl rfl rfl rfl <| PF rfl rfl rfl rfl <| MV rfl rfl <| OF rfl rfl rfl rfl <| OF rfl rfl rfl rfl <| OF rfl rfl rfl rfl <| OF rfl rfl rfl rfl <| OF rfl rfl rfl rfl <| PF rfl rfl rfl rfl <| MV rfl rfl <| ?_
    refine OF rfl rfl rfl rfl <| OF rfl rfl rfl rfl <| OF rfl rfl rfl rfl <| OF rfl rfl rfl rfl <| OF rfl rfl rfl rfl <| PF rfl rfl rfl rfl <| MV rfl rfl <| OF rfl rfl rfl rfl <| OF rfl rfl rfl rfl <| OF rfl rfl rfl rfl <| OF rfl rfl rfl rfl <| OF rfl rfl rfl rfl <| PF rfl rfl rfl rfl <| MV rfl rfl <| OF rfl rfl rfl rfl <| OF rfl rfl rfl rfl <| OF rfl rfl rfl rfl <| OF rfl rfl rfl rfl <| OF rfl rfl rfl rfl <| PF rfl rfl rfl rfl <| ?_
    refine MV rfl rfl <| OF rfl rfl rfl rfl <| OF rfl rfl rfl rfl <| OF rfl rfl rfl rfl <| OF rfl rfl rfl rfl <| OF rfl rfl rfl rfl <| PF rfl rfl rfl rfl <| MV rfl rfl <| OF rfl rfl rfl rfl <| OF rfl rfl rfl rfl <| OF rfl rfl rfl rfl <| OF rfl rfl rfl rfl <| OF rfl rfl rfl rfl <| PF rfl rfl rfl rfl <| MV rfl rfl <| OF rfl rfl rfl rfl <| OF rfl rfl rfl rfl <| OF rfl rfl rfl rfl <| OF rfl rfl rfl rfl <| OF rfl rfl rfl rfl <| PF rfl rfl rfl rfl <| ?_
    refine MV rfl rfl <| OF rfl rfl rfl rfl <| OF rfl rfl rfl rfl <| OF rfl rfl rfl rfl <| OF rfl rfl rfl rfl <| OF rfl rfl rfl rfl <| PF rfl rfl rfl rfl <| MV rfl rfl <| OF rfl rfl rfl rfl <| OF rfl rfl rfl rfl <| OF rfl rfl rfl rfl <| OF rfl rfl rfl rfl <| OF rfl rfl rfl rfl <| PF rfl rfl rfl rfl <| MV rfl rfl <| OF rfl rfl rfl rfl <| OF rfl rfl rfl rfl <| OF rfl rfl rfl rfl <| OF rfl rfl rfl rfl <| OF rfl rfl rfl rfl <| PF rfl rfl rfl rfl <| ?_
    refine MV rfl rfl <| OF rfl rfl rfl rfl <| OF rfl rfl rfl rfl <| OF rfl rfl rfl rfl <| OF rfl rfl rfl rfl <| OF rfl rfl rfl rfl <| PF rfl rfl rfl rfl <| AS rfl rfl <| ND <| ret_cv Try.func30 (res1 Try.func30 rfl (rv_tmp rfl)) <| ?_
    simp [eqStreams, Credit.cells, Window.cells, Priority.cells, h1]

theorem impl_flags {w : World} {cs : List Value} {x : Stream} (hv : RdStream w cs x)  : CV Try.prog 93 [.agg cs.toArray] w (.agg [.bool x.canSend, .bool x.canRecv, .bool x.tellReset, .bool x.tellStop, .bool x.tellMost, .bool x.stopped, .bool x.counted].toArray) := by
  obtain ⟨v0, v1, v2, v3, v4, rfl, k0, k1, k2, k3, k4⟩ := hv
  obtain ⟨A0, c0, rfl, hA0⟩ := k0
  obtain ⟨A1, c1, rfl, hA1⟩ := k1
  obtain ⟨A2, c2, rfl, hA2⟩ := k2
  obtain ⟨A3, c3, rfl, hA3⟩ := k3
  obtain ⟨A4, c4, rfl, hA4⟩ := k4
  refine cv_of Try.func93 rfl rfl rfl <| SQ <| RG <| BX [_, _, _, _, _, _, _, _, _, _, _, _, _, _, _, _, _, _, _, _, _, _, _, _, _, _, _, _, _, _, _, _, _, _, _, _, _, _, _] rfl rfl rfl <| fun b1 => AL rfl tyZ_7_bool <| fun b2 => ND <| SQ <| RG <| FA rfl tyF_impl_Stream_6 rfl <| LD (i := 1) rfl tyP_bool rfl rfl rfl <| FA rfl tyF_impl_Stream_7 rfl <| LD (i := 1) rfl tyP_bool rfl rfl rfl <| FA rfl tyF_impl_Stream_8 rfl <| LD (i := 1) rfl tyP_bool rfl rfl rfl <| FA rfl tyF_impl_Stream_9 rfl <| ?_
  refine LD (i := 1) rfl tyP_bool rfl rfl rfl <| FA rfl tyF_impl_Stream_10 rfl <| LD (i := 1) rfl tyP_bool rfl rfl rfl <| FA rfl tyF_impl_Stream_11 rfl <| LD (i := 1) rfl tyP_bool rfl rfl rfl <| FA rfl tyF_impl_Stream_13 rfl <| LD (i := 1) rfl tyP_bool rfl rfl rfl <| rw_buildA [_, _, _, _, _, _, _] rfl tyA_7_bool tyZ_7_bool rfl rfl <| ST (i := 0) [_, _, _, _, _, _, _] [_, _, _, _, _, _, _] tyS_7_bool.sz rfl rfl rfl rfl rfl rfl rfl rfl <| ND <| ret_cv Try.func93 (res1 Try.func93 rfl (rv_s (i := 0) [_, _, _, _, _, _, _] tyS_7_bool rfl rfl rfl rfl)) <| ?_
  rfl

theorem slices_Equal_Int {w : World} {v : Value} {l : List Int} (hv : RdS w 1 (Pl intC) v l) (hb : l.length ≤ 134217728) {v1 : Value} {l1 : List Int} (hv1 : RdS w 1 (Pl intC) v1 l1) : CV Try.prog 193 [v, v1] w (.bool (eqL intC l l1)) := by
  obtain ⟨A, c, rfl, hA⟩ := hv
  obtain ⟨A1, c1, rfl, hA1⟩ := hv1
  refine cv_of Try.func193 rfl rfl rfl <| SQ <| RG <| AS rfl rfl <| ND <| SQ <| SQ <| RG <| MV rfl rfl <| rw_len rfl tyE_S_int rfl <| MV rfl rfl <| rw_len rfl tyE_S_int rfl <| rw_neq rfl rfl rfl <| ND <| ?_
  refine gw_cond rfl (fun h1 => ?_) (fun h1 => ?_)
  · replace h1 := of_not_T h1
    have hlne1 := len_ne_of h1
    refine SQ <| RG <| AS rfl rfl <| ND <| ret_cv Try.func193 (res1 Try.func193 rfl (rv_tmp rfl)) <| ?_
    simp [eqL_len _ _ _ hlne1]
  · replace h1 := of_not_F h1
    have hlen2 := len_eq_of h1
    refine SK <| SQ <| SQ <| RG <| MV rfl rfl <| rw_len rfl tyE_S_int rfl <| MV rfl rfl <| ND <| BK <| ?_
    refine gw_loopC (α := Nat) (fun z_ => z_ ≤ l.length ∧ eqL intC l l1 = eqL intC (l.drop z_) (l1.drop z_)) (fun z_ => l.length - z_) (fun e z_ => (13, .int .i64 (z_ : Int)) :: e) 0 [(0, _), (1, _), (12, _)] (Sub.consE rfl rfl (Sub.cons (i := 0) rfl (Sub.cons (i := 1) rfl (Sub.cons (i := 12) rfl (Sub.nil _))))) ?_ ?_
    · exact ⟨Nat.zero_le _, by simp [List.drop_zero]⟩
    · rintro i hI3 ih3
      try dsimp only
      obtain ⟨hle, hI⟩ := hI3
      refine SQ <| RG <| rw_lss rfl rfl rfl <| ND <| SQ <| ?_
      refine gw_cond rfl (fun h2 => ?_) (fun h2 => ?_)
      · have hi4 := lt_of_dec h2
        obtain ⟨x5, hx5⟩ := get_of_lt hi4
        have hd5 := drop_cons hx5
        refine SK <| SQ <| BK <| SQ <| RG <| MV rfl rfl <| AS rfl rfl <| ND <| SQ <| gw_draw' [(0, .det), (1, .det), (2, .det), (3, .det), (4, .det), (5, .det), (6, .det), (7, .det)] [8] mixed rfl (free_det (free_det (free_det (free_det (free_det (free_det (free_det (free_det free_nil)))))))) (ts := [_]) rfl <| DT rfl rfl (fun K hk => MV rfl rfl hk) <| DT rfl rfl (fun K hk => MV rfl rfl hk) <| ?_
        have hq6 := hA.plain hx5
        refine DT rfl rfl (fun K hk => rw_indexAddr (i) rfl tyE_S_int rfl rfl rfl (hA.some hi4) hi4 hk) <| DT rfl rfl (fun K hk => rw_loadX _ rfl tyP_int rfl (fun w hs => hq6.ld0 hs rfl) hk) <| DT rfl rfl (fun K hk => MV rfl rfl hk) <| DT rfl rfl (fun K hk => MV rfl rfl hk) <| ?_
        have hi7 : i < l1.length := by omega
        obtain ⟨x8, hx8⟩ := get_of_lt hi7
        have hd8 := drop_cons hx8
        have hq9 := hA1.plain hx8
        refine DT rfl rfl (fun K hk => rw_indexAddr (i) rfl tyE_S_int rfl rfl rfl (hA1.some hi7) hi7 hk) <| DT rfl rfl (fun K hk => rw_loadX _ rfl tyP_int rfl (fun w hs => hq9.ld0 hs rfl) hk) <| dw_nil <| rw_neq rfl rfl rfl <| ND <| ?_
        refine gw_cond rfl (fun h3 => ?_) (fun h3 => ?_)
        · replace h3 := of_not_T h3
          refine SQ <| RG <| AS rfl rfl <| ND <| ret_cv Try.func193 (res1 Try.func193 rfl (rv_tmp rfl)) <| ?_
          rw [hI, hd5, hd8]; simp [eqL, eqC_int, h3]
        · replace h3 := of_not_F h3
          refine SK <| IB <| RG <| rw_add rfl rfl rfl <| MV rfl rfl <| ND <| ?_
          refine gw_sub (Sub.consE (i := 13) rfl (int_succ (by omega)) (Sub.cons (i := 0) rfl (Sub.cons (i := 1) rfl (Sub.cons (i := 12) rfl (Sub.nil _))))) (ih3 (i + 1) ?_ ?_)
          · exact ⟨by omega, by rw [hI, hd5, hd8]; simp [eqL, eqC_int, h3]⟩
          · show l.length - (i + 1) < l.length - i; omega
      · have hn10 := nil_of_dec h2
        refine EX rfl <| SQ <| RG <| AS rfl rfl <| ND <| ret_cv Try.func193 (res1 Try.func193 rfl (rv_tmp rfl)) <| ?_
        rw [hI, hn10, drop_nil_of hlen2 hn10]; rfl

theorem impl_EqualRings {w : World} {cs : List Value} {x : Ring} (hv : RdRing w cs x) (hb : x.le 134217728) {cs1_ : List Value} {y : Ring} (hv1_ : RdRing w cs1_ y) : CV Try.prog 157 [.agg cs.toArray, .agg cs1_.toArray] w (.bool (eqRings x y)) := by
  obtain ⟨v0, rfl, k0⟩ := hv
  obtain ⟨A0, c0, rfl, hA0⟩ := k0
  have hb0 : x.cells.length ≤ 134217728 := hb
  obtain ⟨v1_0, rfl, k1_0⟩ := hv1_
  obtain ⟨A1_0, c1_0, rfl, hA1_0⟩ := k1_0
  refine cv_of Try.func157 rfl rfl rfl <| SQ <| RG <| BX [_, _, _, _] rfl rfl rfl <| fun b1 => BX [_, _, _, _] rfl rfl rfl <| fun b2 => AS rfl rfl <| ND <| SQ <| RG <| FA rfl tyF_impl_Ring_0 rfl <| LD (i := 1) rfl tyP_int rfl rfl rfl <| FA rfl tyF_impl_Ring_0 rfl <| LD (i := 0) rfl tyP_int rfl rfl rfl <| EQ1 rfl rfl rfl <| MV rfl rfl <| ?_
  refine rw_case (j := 10) rfl (fun h1 => ?_) (fun h1 => ?_)
  · refine ON rfl rfl h1 <| FA rfl tyF_impl_Ring_1 rfl <| ON rfl rfl h1 <| LD (i := 1) rfl tyP_int rfl rfl rfl <| ON rfl rfl h1 <| FA rfl tyF_impl_Ring_1 rfl <| ON rfl rfl h1 <| LD (i := 0) rfl tyP_int rfl rfl rfl <| ON rfl rfl h1 <| EQ1 rfl rfl rfl <| PT rfl rfl h1 rfl <| MV rfl rfl <| ?_
    refine rw_case (j := 17) rfl (fun h2 => ?_) (fun h2 => ?_)
    · refine ON rfl rfl h2 <| FA rfl tyF_impl_Ring_2 rfl <| ON rfl rfl h2 <| LD (i := 1) rfl tyP_int rfl rfl rfl <| ON rfl rfl h2 <| FA rfl tyF_impl_Ring_2 rfl <| ON rfl rfl h2 <| LD (i := 0) rfl tyP_int rfl rfl rfl <| ON rfl rfl h2 <| EQ1 rfl rfl rfl <| PT rfl rfl h2 rfl <| MV rfl rfl <| ?_
      refine rw_case (j := 24) rfl (fun h3 => ?_) (fun h3 => ?_)
      · refine ON rfl rfl h3 <| FA rfl tyF_impl_Ring_3 rfl <| ON rfl rfl h3 <| LD (i := 1) rfl tyP_S_int rfl rfl rfl <| ON rfl rfl h3 <| FA rfl tyF_impl_Ring_3 rfl <| ON rfl rfl h3 <| LD (i := 0) rfl tyP_S_int rfl rfl rfl <| ON rfl rfl h3 <| CV1 rfl fun_slices_Equal_S_int_int rfl (fun w hs => slices_Equal_Int (hA0.s Pl.keeps hs) (by omega) (hA1_0.s Pl.keeps hs) ) <| PT rfl rfl h3 rfl <| AS rfl rfl <| ND <| ret_cv Try.func157 (res1 Try.func157 rfl (rv_tmp rfl)) <| ?_
        simp [eqRings, h1, h2, h3]
      · refine OF rfl rfl h3 rfl <| OF rfl rfl h3 rfl <| OF rfl rfl h3 rfl <| OF rfl rfl h3 rfl <| OF rfl rfl h3 rfl <| PF rfl rfl h3 rfl <| AS rfl rfl <| ND <| ret_cv Try.func157 (res1 Try.func157 rfl (rv_tmp rfl)) <| ?_
        simp [eqRings, h1, h2, h3]
    · refine OF rfl rfl h2 rfl <| OF rfl rfl h2 rfl <| OF rfl rfl h2 rfl <| OF rfl rfl h2 rfl <| OF rfl rfl h2 rfl <| PF rfl rfl h2 rfl <| MV rfl rfl <| OF rfl rfl rfl rfl <| OF rfl rfl rfl rfl <| OF rfl rfl rfl rfl <| OF rfl rfl rfl rfl <| OF rfl rfl rfl rfl <| PF rfl rfl rfl rfl <| AS rfl rfl <| ND <| ret_cv Try.func157 (res1 Try.func157 rfl (rv_tmp rfl)) <| ?_
      simp [eqRings, h1, h2]
  · refine OF rfl rfl h1 rfl <| OF rfl rfl h1 rfl <| OF rfl rfl h1 rfl <| OF rfl rfl h1 rfl <| OF rfl rfl h1 rfl <| PF rfl rfl h1 rfl <| MV rfl rfl <| OF rfl rfl rfl rfl <| OF rfl rfl rfl rfl <| OF rfl rfl rfl rfl <| OF rfl rfl rfl rfl <| OF rfl rfl rfl rfl <| PF rfl rfl rfl rfl <| MV rfl rfl <| OF rfl rfl rfl rfl <| OF rfl rfl rfl rfl <| OF rfl rfl rfl rfl <| OF rfl rfl rfl rfl <| OF rfl rfl rfl rfl <| PF rfl rfl rfl rfl <| AS rfl rfl <| ?_
    refine ND <| ret_cv Try.func157 (res1 Try.func157 rfl (rv_tmp rfl)) <| ?_
    simp [eqRings, h1]

theorem slices_Equal_Range {w : World} {v : Value} {l : List Range} (hv : RdS w 2 (Pl Range.cells) v l) (hb : l.length ≤ 134217728) {v1 : Value} {l1 : List Range} (hv1 : RdS w 2 (Pl Range.cells) v1 l1) : CV Try.prog 194 [v, v1] w (.bool (eqL Range.cells l l1)) := by
  obtain ⟨A, c, rfl, hA⟩ := hv
  obtain ⟨A1, c1, rfl, hA1⟩ := hv1
  refine cv_of Try.func194 rfl rfl rfl <| SQ <| RG <| AS rfl rfl <| ND <| SQ <| SQ <| RG <| MV rfl rfl <| rw_len rfl tyE_S_impl_Range rfl <| MV rfl rfl <| rw_len rfl tyE_S_impl_Range rfl <| rw_neq rfl rfl rfl <| ND <| ?_
  refine gw_cond rfl (fun h1 => ?_) (fun h1 => ?_)
  · replace h1 := of_not_T h1
    have hlne1 := len_ne_of h1
    refine SQ <| RG <| AS rfl rfl <| ND <| ret_cv Try.func194 (res1 Try.func194 rfl (rv_tmp rfl)) <| ?_
    simp [eqL_len _ _ _ hlne1]
  · replace h1 := of_not_F h1
    have hlen2 := len_eq_of h1
    refine SK <| SQ <| SQ <| RG <| MV rfl rfl <| rw_len rfl tyE_S_impl_Range rfl <| MV rfl rfl <| ND <| BK <| ?_
    refine gw_loopC (α := Nat) (fun z_ => z_ ≤ l.length ∧ eqL Range.cells l l1 = eqL Range.cells (l.drop z_) (l1.drop z_)) (fun z_ => l.length - z_) (fun e z_ => (13, .int .i64 (z_ : Int)) :: e) 0 [(0, _), (1, _), (12, _)] (Sub.consE rfl rfl (Sub.cons (i := 0) rfl (Sub.cons (i := 1) rfl (Sub.cons (i := 12) rfl (Sub.nil _))))) ?_ ?_
    · exact ⟨Nat.zero_le _, by simp [List.drop_zero]⟩
    · rintro i hI3 ih3
      try dsimp only
      obtain ⟨hle, hI⟩ := hI3
      refine SQ <| RG <| rw_lss rfl rfl rfl <| ND <| SQ <| ?_
      refine gw_cond rfl (fun h2 => ?_) (fun h2 => ?_)
      · have hi4 := lt_of_dec h2
        obtain ⟨x5, hx5⟩ := get_of_lt hi4
        have hd5 := drop_cons hx5
        refine SK <| SQ <| BK <| SQ <| RG <| MV rfl rfl <| AS rfl rfl <| ND <| SQ <| gw_draw' [(0, .det), (1, .det), (2, .det), (3, .det), (4, .det), (5, .det), (6, .det), (7, .det)] [8] mixed rfl (free_det (free_det (free_det (free_det (free_det (free_det (free_det (free_det free_nil)))))))) (ts := [_]) rfl <| DT rfl rfl (fun K hk => MV rfl rfl hk) <| DT rfl rfl (fun K hk => MV rfl rfl hk) <| ?_
        have hq6 := hA.plain hx5
        refine DT rfl rfl (fun K hk => rw_indexAddr (i) rfl tyE_S_impl_Range rfl rfl rfl (hA.some hi4) hi4 hk) <| DT rfl rfl (fun K hk => rw_loadX_s [_, _] rfl tyS_impl_Range rfl rfl (fun w hs => hq6.lds0 (n := 2) hs rfl) hk) <| DT rfl rfl (fun K hk => MV rfl rfl hk) <| DT rfl rfl (fun K hk => MV rfl rfl hk) <| ?_
        have hi7 : i < l1.length := by omega
        obtain ⟨x8, hx8⟩ := get_of_lt hi7
        have hd8 := drop_cons hx8
        have hq9 := hA1.plain hx8
        refine DT rfl rfl (fun K hk => rw_indexAddr (i) rfl tyE_S_impl_Range rfl rfl rfl (hA1.some hi7) hi7 hk) <| DT rfl rfl (fun K hk => rw_loadX_s [_, _] rfl tyS_impl_Range rfl rfl (fun w hs => hq9.lds0 (n := 2) hs rfl) hk) <| dw_nil <| rw_neqQ rfl tyQ_impl_Range rfl rfl rfl rfl <| ND <| ?_
        refine gw_cond rfl (fun h3 => ?_) (fun h3 => ?_)
        · replace h3 := of_not_T h3
          refine SQ <| RG <| AS rfl rfl <| ND <| ret_cv Try.func194 (res1 Try.func194 rfl (rv_tmp rfl)) <| ?_
          rw [hI, hd5, hd8]; simp [eqL, show eqC (Range.cells x5) (Range.cells x8) = false from h3]
        · replace h3 := of_not_F h3
          refine SK <| IB <| RG <| rw_add rfl rfl rfl <| MV rfl rfl <| ND <| ?_
          refine gw_sub (Sub.consE (i := 13) rfl (int_succ (by omega)) (Sub.cons (i := 0) rfl (Sub.cons (i := 1) rfl (Sub.cons (i := 12) rfl (Sub.nil _))))) (ih3 (i + 1) ?_ ?_)
          · exact ⟨by omega, by rw [hI, hd5, hd8]; simp [eqL, show eqC (Range.cells x5) (Range.cells x8) = true from h3]⟩
          · show l.length - (i + 1) < l.length - i; omega
      · have hn10 := nil_of_dec h2
        refine EX rfl <| SQ <| RG <| AS rfl rfl <| ND <| ret_cv Try.func194 (res1 Try.func194 rfl (rv_tmp rfl)) <| ?_
        rw [hI, hn10, drop_nil_of hlen2 hn10]; rfl

theorem impl_EqualRanges {w : World} {v : Value} {l : List Range} (hv : RdS w 2 (Pl Range.cells) v l) (hb : l.length ≤ 134217728) {v1 : Value} {l1 : List Range} (hv1 : RdS w 2 (Pl Range.cells) v1 l1) : CV Try.prog 158 [v, v1] w (.bool (eqL Range.cells l l1)) := by
  obtain ⟨A, c, rfl, hA⟩ := hv
  obtain ⟨A1, c1, rfl, hA1⟩ := hv1
  refine cv_of Try.func158 rfl rfl rfl <| SQ <| RG <| AS rfl rfl <| ND <| SQ <| RG <| MV rfl rfl <| MV rfl rfl <| CV1 rfl fun_slices_Equal_S_impl_Range_impl_Range rfl (fun w hs => slices_Equal_Range (hA.s Pl.keeps hs) (by omega) (hA1.s Pl.keeps hs) ) <| AS rfl rfl <| ND <| ret_cv Try.func158 (res1 Try.func158 rfl (rv_tmp rfl)) <| ?_
  rfl

set_option maxRecDepth 20000 in
theorem impl_EqualSenders {w : World} {cs : List Value} {x : Sender} (hv : RdSender w cs x) (hb : x.le 134217728) {cs1_ : List Value} {y : Sender} (hv1_ : RdSender w cs1_ y) : CV Try.prog 94 [.agg cs.toArray, .agg cs1_.toArray] w (.bool (eqSenders x y)) := by
  obtain ⟨v0, v1, v2, v3, rfl, k0, k1, k2, k3⟩ := hv
  obtain ⟨A0, c0, rfl, hA0⟩ := k0
  obtain ⟨A1, c1, rfl, hA1⟩ := k1
  obtain ⟨A2, c2, rfl, hA2⟩ := k2
  obtain ⟨A3, c3, rfl, hA3⟩ := k3
  obtain ⟨hb0, hb1, hb2, hb3⟩ := hb
  obtain ⟨v1_0, v1_1, v1_2, v1_3, rfl, k1_0, k1_1, k1_2, k1_3⟩ := hv1_
  obtain ⟨A1_0, c1_0, rfl, hA1_0⟩ := k1_0
  obtain ⟨A1_1, c1_1, rfl, hA1_1⟩ := k1_1
  obtain ⟨A1_2, c1_2, rfl, hA1_2⟩ := k1_2
  obtain ⟨A1_3, c1_3, rfl, hA1_3⟩ := k1_3
  refine cv_of Try.func94 rfl rfl rfl <| SQ <| RG <| BX [_, _, _, _, _, _, _, _, _, _, _, _] rfl rfl rfl <| fun b1 => BX [_, _, _, _, _, _, _, _, _, _, _, _] rfl rfl rfl <| fun b2 => AS rfl rfl <| ND <| SQ <| RG <| FA rfl tyF_impl_Sender_0 rfl <| LD (i := 1) rfl tyP_int rfl rfl rfl <| FA rfl tyF_impl_Sender_0 rfl <| LD (i := 0) rfl tyP_int rfl rfl rfl <| EQ1 rfl rfl rfl <| MV rfl rfl <| ?_
  refine rw_case (j := 10) rfl (fun h1 => ?_) (fun h1 => ?_)
  · refine ON rfl rfl h1 <| FA rfl tyF_impl_Sender_1 rfl <| ON rfl rfl h1 <| LS (i := 1) [_, _, _, _] rfl tyS_impl_Ring rfl rfl rfl rfl <| ON rfl rfl h1 <| FA rfl tyF_impl_Sender_1 rfl <| ON rfl rfl h1 <| LS (i := 0) [_, _, _, _] rfl tyS_impl_Ring rfl rfl rfl rfl <| ON rfl rfl h1 <| CV1 rfl fun_impl_EqualRings rfl (fun w hs => impl_EqualRings ⟨_, rfl, (hA0.s Pl.keeps hs)⟩ (show _ ≤ _ from hb0) ⟨_, rfl, (hA1_0.s Pl.keeps hs)⟩) <| PT rfl rfl h1 rfl <| MV rfl rfl <| ?_
    refine rw_case (j := 17) rfl (fun h2 => ?_) (fun h2 => ?_)
    · refine ON rfl rfl h2 <| FA rfl tyF_impl_Sender_2 rfl <| ON rfl rfl h2 <| LD (i := 1) rfl tyP_S_impl_Range rfl rfl rfl <| ON rfl rfl h2 <| FA rfl tyF_impl_Sender_2 rfl <| ON rfl rfl h2 <| LD (i := 0) rfl tyP_S_impl_Range rfl rfl rfl <| ON rfl rfl h2 <| CV1 rfl fun_impl_EqualRanges rfl (fun w hs => impl_EqualRanges (hA1.s Pl.keeps hs) (by omega) (hA1_1.s Pl.keeps hs) ) <| PT rfl rfl h2 rfl <| MV rfl rfl <| ?_
      refine rw_case (j := 24) rfl (fun h3 => ?_) (fun h3 => ?_)
      · refine ON rfl rfl h3 <| FA rfl tyF_impl_Sender_3 rfl <| ON rfl rfl h3 <| LD (i := 1) rfl tyP_S_impl_Range rfl rfl rfl <| ON rfl rfl h3 <| FA rfl tyF_impl_Sender_3 rfl <| ON rfl rfl h3 <| LD (i := 0) rfl tyP_S_impl_Range rfl rfl rfl <| ON rfl rfl h3 <| CV1 rfl fun_impl_EqualRanges rfl (fun w hs => impl_EqualRanges (hA2.s Pl.keeps hs) (by omega) (hA1_2.s Pl.keeps hs) ) <| PT rfl rfl h3 rfl <| MV rfl rfl <| ?_
        refine rw_case (j := 31) rfl (fun h4 => ?_) (fun h4 => ?_)
        · refine ON rfl rfl h4 <| FA rfl tyF_impl_Sender_4 rfl <| ON rfl rfl h4 <| LD (i := 1) rfl tyP_S_impl_Range rfl rfl rfl <| ON rfl rfl h4 <| FA rfl tyF_impl_Sender_4 rfl <| ON rfl rfl h4 <| LD (i := 0) rfl tyP_S_impl_Range rfl rfl rfl <| ON rfl rfl h4 <| CV1 rfl fun_impl_EqualRanges rfl (fun w hs => impl_EqualRanges (hA3.s Pl.keeps hs) (by omega) (hA1_3.s Pl.keeps hs) ) <| PT rfl rfl h4 rfl <| MV rfl rfl <| ?_
          refine rw_case (j := 38) rfl (fun h5 => ?_) (fun h5 => ?_)
          · refine ON rfl rfl h5 <| FA rfl tyF_impl_Sender_5 rfl <| ON rfl rfl h5 <| LD (i := 1) rfl tyP_int rfl rfl rfl <| ON rfl rfl h5 <| FA rfl tyF_impl_Sender_5 rfl <| ON rfl rfl h5 <| LD (i := 0) rfl tyP_int rfl rfl rfl <| ON rfl rfl h5 <| EQ1 rfl rfl rfl <| PT rfl rfl h5 rfl <| MV rfl rfl <| ?_
            refine rw_case (j := 45) rfl (fun h6 => ?_) (fun h6 => ?_)
            · refine ON rfl rfl h6 <| FA rfl tyF_impl_Sender_6 rfl <| ON rfl rfl h6 <| LD (i := 1) rfl tyP_int rfl rfl rfl <| ON rfl rfl h6 <| FA rfl tyF_impl_Sender_6 rfl <| ON rfl rfl h6 <| LD (i := 0) rfl tyP_int rfl rfl rfl <| ON rfl rfl h6 <| EQ1 rfl rfl rfl <| PT rfl rfl h6 rfl <| MV rfl rfl <| ?_
              refine rw_case (j := 52) rfl (fun h7 => ?_) (fun h7 => ?_)
              · refine ON rfl rfl h7 <| FA rfl tyF_impl_Sender_7 rfl <| ON rfl rfl h7 <| LD (i := 1) rfl tyP_int rfl rfl rfl <| ON rfl rfl h7 <| FA rfl tyF_impl_Sender_7 rfl <| ON rfl rfl h7 <| LD (i := 0) rfl tyP_int rfl rfl rfl <| ON rfl rfl h7 <| EQ1 rfl rfl rfl <| PT rfl rfl h7 rfl <| MV rfl rfl <| ?_
                refine rw_case (j := 59) rfl (fun h8 => ?_) (fun h8 => ?_)
                · refine ON rfl rfl h8 <| FA rfl tyF_impl_Sender_8 rfl <| ON rfl rfl h8 <| LD (i := 1) rfl tyP_int rfl rfl rfl <| ON rfl rfl h8 <| FA rfl tyF_impl_Sender_8 rfl <| ON rfl rfl h8 <| LD (i := 0) rfl tyP_int rfl rfl rfl <| ON rfl rfl h8 <| EQ1 rfl rfl rfl <| PT rfl rfl h8 rfl <| AS rfl rfl <| ND <| ret_cv Try.func94 (res1 Try.func94 rfl (rv_tmp rfl)) <| ?_
                  simp [eqSenders, h1, h2, h3, h4, h5, h6, h7, h8]
                · refine OF rfl rfl h8 rfl <| OF rfl rfl h8 rfl <| OF rfl rfl h8 rfl <| OF rfl rfl h8 rfl <| OF rfl rfl h8 rfl <| PF rfl rfl h8 rfl <| AS rfl rfl <| ND <| ret_cv Try.func94 (res1 Try.func94 rfl (rv_tmp rfl)) <| ?_
                  simp [eqSenders, h1, h2, h3, h4, h5, h6, h7, h8]
              · refine OF rfl rfl h7 rfl <| OF rfl rfl h7 rfl <| OF rfl rfl h7 rfl <| OF rfl rfl h7 rfl <| OF rfl rfl h7 rfl <| PF rfl rfl h7 rfl <| MV rfl rfl <| OF rfl rfl rfl rfl <| OF rfl rfl rfl rfl <| OF rfl rfl rfl rfl <| OF rfl rfl rfl rfl <| OF rfl rfl rfl rfl <| PF rfl rfl rfl rfl <| AS rfl rfl <| ND <| ret_cv Try.func94 (res1 Try.func94 rfl (rv_tmp rfl)) <| ?_
                simp [eqSenders, h1, h2, h3, h4, h5, h6, h7]
            · refine OF rfl rfl h6 rfl <| OF rfl rfl h6 rfl <| OF rfl rfl h6 rfl <| OF rfl rfl h6 rfl <| OF rfl rfl h6 rfl <| PF rfl rfl h6 rfl <| MV rfl rfl <| OF rfl rfl rfl rfl <| OF rfl rfl rfl rfl <| OF rfl rfl rfl rfl <| OF rfl rfl rfl rfl <| OF rfl rfl rfl rfl <| PF rfl rfl rfl rfl <| MV rfl rfl <| OF rfl rfl rfl rfl <| OF rfl rfl rfl rfl <| OF rfl rfl rfl rfl <| OF rfl rfl rfl rfl <| OF rfl rfl rfl rfl <| PF rfl rfl rfl rfl <| AS rfl rfl <| ?_
              refine ND <| ret_cv Try.func94 (res1 Try.func94 rfl (rv_tmp rfl)) <| ?_
              simp [eqSenders, h1, h2, h3, h4, h5, h6]
          · refine OF rfl rfl h5 rfl <| OF rfl rfl h5 rfl <| OF rfl rfl h5 rfl <| OF rfl rfl h5 rfl <| OF rfl rfl h5 rfl <| PF rfl rfl h5 rfl <| MV rfl rfl <| OF rfl rfl rfl rfl <| OF rfl rfl rfl rfl <| OF rfl rfl rfl rfl <| OF rfl rfl rfl rfl <| OF rfl rfl rfl rfl <| PF rfl rfl rfl rfl <| MV rfl rfl <| OF rfl rfl rfl rfl <| OF rfl rfl rfl rfl <| OF rfl rfl rfl rfl <| OF rfl rfl rfl rfl <| OF rfl rfl rfl rfl <| PF rfl rfl rfl rfl <| MV rfl rfl <| ?_
            refine OF rfl rfl rfl rfl <| OF rfl rfl rfl rfl <| OF rfl rfl rfl rfl <| OF rfl rfl rfl rfl <| OF rfl rfl rfl rfl <| PF rfl rfl rfl rfl <| AS rfl rfl <| ND <| ret_cv Try.func94 (res1 Try.func94 rfl (rv_tmp rfl)) <| ?_
            simp [eqSenders, h1, h2, h3, h4, h5]
        · refine OF rfl rfl h4 rfl <| OF rfl rfl h4 rfl <| OF rfl rfl h4 rfl <| OF rfl rfl h4 rfl <| OF rfl rfl h4 rfl <| PF rfl rfl h4 rfl <| MV rfl rfl <| OF rfl rfl rfl rfl <| OF rfl rfl rfl rfl <| OF rfl rfl rfl rfl <| OF rfl rfl rfl rfl <| OF rfl rfl rfl rfl <| PF rfl rfl rfl rfl <| MV rfl rfl <| OF rfl rfl rfl rfl <| OF rfl rfl rfl rfl <| OF rfl rfl rfl rfl <| OF rfl rfl rfl rfl <| OF rfl rfl rfl rfl <| PF rfl rfl rfl rfl <| MV rfl rfl <| ?_
          refine OF rfl rfl rfl rfl <| OF rfl rfl rfl rfl <| OF rfl rfl rfl rfl <| OF rfl rfl rfl rfl <| OF rfl rfl rfl rfl <| PF rfl rfl rfl rfl <| MV rfl rfl <| OF rfl rfl rfl rfl <| OF rfl rfl rfl rfl <| OF rfl rfl rfl rfl <| OF rfl rfl rfl rfl <| OF rfl rfl rfl rfl <| PF rfl rfl rfl rfl <| AS rfl rfl <| ND <| ret_cv Try.func94 (res1 Try.func94 rfl (rv_tmp rfl)) <| ?_
          simp [eqSenders, h1, h2, h3, h4]
      · refine OF rfl rfl h3 rfl <| OF rfl rfl h3 rfl <| OF rfl rfl h3 rfl <| OF rfl rfl h3 rfl <| OF rfl rfl h3 rfl <| PF rfl rfl h3 rfl <| MV rfl rfl <| OF rfl rfl rfl rfl <| OF rfl rfl rfl rfl <| OF rfl rfl rfl rfl <| OF rfl rfl rfl rfl <| OF rfl rfl rfl rfl <| PF rfl rfl rfl rfl <| MV rfl rfl <| OF rfl rfl rfl rfl <| OF rfl rfl rfl rfl <| OF rfl rfl rfl rfl <| OF rfl rfl rfl rfl <| OF rfl rfl rfl rfl <| PF rfl rfl rfl rfl <| MV rfl rfl <| ?_
        refine OF rfl rfl rfl rfl <| OF rfl rfl rfl rfl <| OF rfl rfl rfl rfl <| OF rfl rfl rfl rfl <| OF rfl rfl rfl rfl <| PF rfl rfl rfl rfl <| MV rfl rfl <| OF rfl rfl rfl rfl <| OF rfl rfl rfl rfl <| OF rfl rfl rfl rfl <| OF rfl rfl rfl rfl <| OF rfl rfl rfl rfl <| PF rfl rfl rfl rfl <| MV rfl rfl <| OF rfl rfl rfl rfl <| OF rfl rfl rfl rfl <| OF rfl rfl rfl rfl <| OF rfl rfl rfl rfl <| OF rfl rfl rfl rfl <| PF rfl rfl rfl rfl <| ?_
        refine AS rfl rfl <| ND <| ret_cv Try.func94 (res1 Try.func94 rfl (rv_tmp rfl)) <| ?_
        simp [eqSenders, h1, h2, h3]
    · refine OF rfl rfl h2 rfl <| OF rfl rfl h2 rfl <| OF rfl rfl h2 rfl <| OF rfl rfl h2 rfl <| OF rfl rfl h2 rfl <| PF rfl rfl h2 rfl <| MV rfl rfl <| OF rfl rfl rfl rfl <| OF rfl rfl rfl rfl <| OF rfl rfl rfl rfl <| OF rfl rfl rfl rfl <| OF rfl rfl rfl rfl <| PF rfl rfl rfl rfl <| MV rfl rfl <| OF rfl rfl rfl rfl <| OF rfl rfl rfl rfl <| OF rfl rfl rfl rfl <| OF rfl rfl rfl rfl <| OF rfl rfl rfl rfl <| PF rfl rfl rfl rfl <| MV rfl rfl <| ?_
      refine OF rfl rfl rfl rfl <| OF rfl rfl rfl rfl <| OF rfl rfl rfl rfl <| OF rfl rfl rfl rfl <| OF rfl rfl rfl rfl <| PF rfl rfl rfl rfl <| MV rfl rfl <| OF rfl rfl rfl rfl <| OF rfl rfl rfl rfl <| OF rfl rfl rfl rfl <| OF rfl rfl rfl rfl <| OF rfl rfl rfl rfl <| PF rfl rfl rfl rfl <| MV rfl rfl <| OF rfl rfl rfl rfl <| OF rfl rfl rfl rfl <| OF rfl rfl rfl rfl <| OF rfl rfl rfl rfl <| OF rfl rfl rfl rfl <| PF rfl rfl rfl rfl <| ?_
      refine MV rfl rfl <| OF rfl rfl rfl rfl <| OF rfl rfl rfl rfl <| OF rfl rfl rfl rfl <| OF rfl rfl rfl rfl <| OF rfl rfl rfl rfl <| PF rfl rfl rfl rfl <| AS rfl rfl <| ND <| ret_cv Try.func94 (res1 Try.func94 rfl (rv_tmp rfl)) <| ?_
      simp [eqSenders, h1, h2]
  · refine OF rfl rfl h1 rfl <| OF rfl rfl h1 rfl <| OF rfl rfl h1 rfl <| OF rfl rfl h1 rfl <| OF rfl rfl h1 rfl <| PF rfl rfl h1 rfl <| MV rfl rfl <| OF rfl rfl rfl rfl <| OF rfl rfl rfl rfl <| OF rfl rfl rfl rfl <| OF rfl rfl rfl rfl <| OF rfl rfl rfl rfl <| PF rfl rfl rfl rfl <| MV rfl rfl <| OF rfl rfl rfl rfl <| OF rfl rfl rfl rfl <| OF rfl rfl rfl rfl <| OF rfl rfl rfl rfl <| OF rfl rfl rfl rfl <| PF rfl rfl rfl rfl <| MV rfl rfl <| ?_
    refine OF rfl rfl rfl rfl <| OF rfl rfl rfl rfl <| OF rfl rfl rfl rfl <| OF rfl rfl rfl rfl <| OF rfl rfl rfl rfl <| PF rfl rfl rfl rfl <| MV rfl rfl <| OF rfl rfl rfl rfl <| OF rfl rfl rfl rfl <| OF rfl rfl rfl rfl <| OF rfl rfl rfl rfl <| OF rfl rfl rfl rfl <| PF rfl rfl rfl rfl <| MV rfl rfl <| OF rfl rfl rfl rfl <| OF rfl rfl rfl rfl <| OF rfl rfl rfl rfl <| OF rfl rfl rfl rfl <| OF rfl rfl rfl rfl <| PF rfl rfl rfl rfl <| ?_
    refine MV rfl rfl <| OF rfl rfl rfl rfl <| OF rfl rfl rfl rfl <| OF rfl rfl rfl rfl <| OF rfl rfl rfl rfl <| OF rfl rfl rfl rfl <| PF rfl rfl rfl rfl <| MV rfl rfl <| OF rfl rfl rfl rfl <| OF rfl rfl rfl rfl <| OF rfl rfl rfl rfl <| OF rfl rfl rfl rfl <| OF rfl rfl rfl rfl <| PF rfl rfl rfl rfl <| AS rfl rfl <| ND <| ret_cv Try.func94 (res1 Try.func94 rfl (rv_tmp rfl)) <| ?_
    simp [eqSenders, h1]

theorem slices_Equal_Chunk {w : World} {v : Value} {l : List Chunk} (hv : RdS w 2 (Pl Chunk.cells) v l) (hb : l.length ≤ 134217728) {v1 : Value} {l1 : List Chunk} (hv1 : RdS w 2 (Pl Chunk.cells) v1 l1) : CV Try.prog 195 [v, v1] w (.bool (eqL Chunk.cells l l1)) := by
  obtain ⟨A, c, rfl, hA⟩ := hv
  obtain ⟨A1, c1, rfl, hA1⟩ := hv1
  refine cv_of Try.func195 rfl rfl rfl <| SQ <| RG <| AS rfl rfl <| ND <| SQ <| SQ <| RG <| MV rfl rfl <| rw_len rfl tyE_S_impl_Chunk rfl <| MV rfl rfl <| rw_len rfl tyE_S_impl_Chunk rfl <| rw_neq rfl rfl rfl <| ND <| ?_
  refine gw_cond rfl (fun h1 => ?_) (fun h1 => ?_)
  · replace h1 := of_not_T h1
    have hlne1 := len_ne_of h1
    refine SQ <| RG <| AS rfl rfl <| ND <| ret_cv Try.func195 (res1 Try.func195 rfl (rv_tmp rfl)) <| ?_
    simp [eqL_len _ _ _ hlne1]
  · replace h1 := of_not_F h1
    have hlen2 := len_eq_of h1
    refine SK <| SQ <| SQ <| RG <| MV rfl rfl <| rw_len rfl tyE_S_impl_Chunk rfl <| MV rfl rfl <| ND <| BK <| ?_
    refine gw_loopC (α := Nat) (fun z_ => z_ ≤ l.length ∧ eqL Chunk.cells l l1 = eqL Chunk.cells (l.drop z_) (l1.drop z_)) (fun z_ => l.length - z_) (fun e z_ => (13, .int .i64 (z_ : Int)) :: e) 0 [(0, _), (1, _), (12, _)] (Sub.consE rfl rfl (Sub.cons (i := 0) rfl (Sub.cons (i := 1) rfl (Sub.cons (i := 12) rfl (Sub.nil _))))) ?_ ?_
    · exact ⟨Nat.zero_le _, by simp [List.drop_zero]⟩
    · rintro i hI3 ih3
      try dsimp only
      obtain ⟨hle, hI⟩ := hI3
      refine SQ <| RG <| rw_lss rfl rfl rfl <| ND <| SQ <| ?_
      refine gw_cond rfl (fun h2 => ?_) (fun h2 => ?_)
      · have hi4 := lt_of_dec h2
        obtain ⟨x5, hx5⟩ := get_of_lt hi4
        have hd5 := drop_cons hx5
        refine SK <| SQ <| BK <| SQ <| RG <| MV rfl rfl <| AS rfl rfl <| ND <| SQ <| gw_draw' [(0, .det), (1, .det), (2, .det), (3, .det), (4, .det), (5, .det), (6, .det), (7, .det)] [8] mixed rfl (free_det (free_det (free_det (free_det (free_det (free_det (free_det (free_det free_nil)))))))) (ts := [_]) rfl <| DT rfl rfl (fun K hk => MV rfl rfl hk) <| DT rfl rfl (fun K hk => MV rfl rfl hk) <| ?_
        have hq6 := hA.plain hx5
        refine DT rfl rfl (fun K hk => rw_indexAddr (i) rfl tyE_S_impl_Chunk rfl rfl rfl (hA.some hi4) hi4 hk) <| DT rfl rfl (fun K hk => rw_loadX_s [_, _] rfl tyS_impl_Chunk rfl rfl (fun w hs => hq6.lds0 (n := 2) hs rfl) hk) <| DT rfl rfl (fun K hk => MV rfl rfl hk) <| DT rfl rfl (fun K hk => MV rfl rfl hk) <| ?_
        have hi7 : i < l1.length := by omega
        obtain ⟨x8, hx8⟩ := get_of_lt hi7
        have hd8 := drop_cons hx8
        have hq9 := hA1.plain hx8
        refine DT rfl rfl (fun K hk => rw_indexAddr (i) rfl tyE_S_impl_Chunk rfl rfl rfl (hA1.some hi7) hi7 hk) <| DT rfl rfl (fun K hk => rw_loadX_s [_, _] rfl tyS_impl_Chunk rfl rfl (fun w hs => hq9.lds0 (n := 2) hs rfl) hk) <| dw_nil <| rw_neqQ rfl tyQ_impl_Chunk rfl rfl rfl rfl <| ND <| ?_
        refine gw_cond rfl (fun h3 => ?_) (fun h3 => ?_)
        · replace h3 := of_not_T h3
          refine SQ <| RG <| AS rfl rfl <| ND <| ret_cv Try.func195 (res1 Try.func195 rfl (rv_tmp rfl)) <| ?_
          rw [hI, hd5, hd8]; simp [eqL, show eqC (Chunk.cells x5) (Chunk.cells x8) = false from h3]
        · replace h3 := of_not_F h3
          refine SK <| IB <| RG <| rw_add rfl rfl rfl <| MV rfl rfl <| ND <| ?_
          refine gw_sub (Sub.consE (i := 13) rfl (int_succ (by omega)) (Sub.cons (i := 0) rfl (Sub.cons (i := 1) rfl (Sub.cons (i := 12) rfl (Sub.nil _))))) (ih3 (i + 1) ?_ ?_)
          · exact ⟨by omega, by rw [hI, hd5, hd8]; simp [eqL, show eqC (Chunk.cells x5) (Chunk.cells x8) = true from h3]⟩
          · show l.length - (i + 1) < l.length - i; omega
      · have hn10 := nil_of_dec h2
        refine EX rfl <| SQ <| RG <| AS rfl rfl <| ND <| ret_cv Try.func195 (res1 Try.func195 rfl (rv_tmp rfl)) <| ?_
        rw [hI, hn10, drop_nil_of hlen2 hn10]; rfl

theorem impl_EqualBuffers {w : World} {cs : List Value} {x : Buffer} (hv : RdBuffer w cs x) (hb : x.le 134217728) {cs1_ : List Value} {y : Buffer} (hv1_ : RdBuffer w cs1_ y) : CV Try.prog 159 [.agg cs.toArray, .agg cs1_.toArray] w (.bool (eqBuffers x y)) := by
  obtain ⟨v0, rfl, k0⟩ := hv
  obtain ⟨A0, c0, rfl, hA0⟩ := k0
  obtain ⟨hb0, hb1⟩ := hb
  obtain ⟨v1_0, rfl, k1_0⟩ := hv1_
  obtain ⟨A1_0, c1_0, rfl, hA1_0⟩ := k1_0
  refine cv_of Try.func159 rfl rfl rfl <| SQ <| RG <| BX [_, _] rfl rfl rfl <| fun b1 => BX [_, _] rfl rfl rfl <| fun b2 => AS rfl rfl <| ND <| SQ <| RG <| FA rfl tyF_impl_Buffer_0 rfl <| LD (i := 1) rfl tyP_int rfl rfl rfl <| FA rfl tyF_impl_Buffer_0 rfl <| LD (i := 0) rfl tyP_int rfl rfl rfl <| EQ1 rfl rfl rfl <| MV rfl rfl <| ?_
  refine rw_case (j := 10) rfl (fun h1 => ?_) (fun h1 => ?_)
  · refine ON rfl rfl h1 <| FA rfl tyF_impl_Buffer_1 rfl <| ON rfl rfl h1 <| LD (i := 1) rfl tyP_S_impl_Chunk rfl rfl rfl <| ON rfl rfl h1 <| FA rfl tyF_impl_Buffer_1 rfl <| ON rfl rfl h1 <| LD (i := 0) rfl tyP_S_impl_Chunk rfl rfl rfl <| ON rfl rfl h1 <| CV1 rfl fun_slices_Equal_S_impl_Chunk_impl_Chunk rfl (fun w hs => slices_Equal_Chunk (hA0.s Pl.keeps hs) (by omega) (hA1_0.s Pl.keeps hs) ) <| PT rfl rfl h1 rfl <| AS rfl rfl <| ND <| ret_cv Try.func159 (res1 Try.func159 rfl (rv_tmp rfl)) <| ?_
    simp [eqBuffers, h1]
  · refine OF rfl rfl h1 rfl <| OF rfl rfl h1 rfl <| OF rfl rfl h1 rfl <| OF rfl rfl h1 rfl <| OF rfl rfl h1 rfl <| PF rfl rfl h1 rfl <| AS rfl rfl <| ND <| ret_cv Try.func159 (res1 Try.func159 rfl (rv_tmp rfl)) <| ?_
    simp [eqBuffers, h1]

theorem impl_EqualReceivers {w : World} {cs : List Value} {x : Receiver} (hv : RdReceiver w cs x) (hb : x.le 134217728) {cs1_ : List Value} {y : Receiver} (hv1_ : RdReceiver w cs1_ y) : CV Try.prog 95 [.agg cs.toArray, .agg cs1_.toArray] w (.bool (eqReceivers x y)) := by
  obtain ⟨v0, rfl, k0⟩ := hv
  obtain ⟨A0, c0, rfl, hA0⟩ := k0
  obtain ⟨hb0, hb1⟩ := hb
  obtain ⟨v1_0, rfl, k1_0⟩ := hv1_
  obtain ⟨A1_0, c1_0, rfl, hA1_0⟩ := k1_0
  refine cv_of Try.func95 rfl rfl rfl <| SQ <| RG <| BX [_, _, _, _, _, _] rfl rfl rfl <| fun b1 => BX [_, _, _, _, _, _] rfl rfl rfl <| fun b2 => AS rfl rfl <| ND <| SQ <| RG <| FA rfl tyF_impl_Receiver_0 rfl <| LD (i := 1) rfl tyP_int rfl rfl rfl <| FA rfl tyF_impl_Receiver_0 rfl <| LD (i := 0) rfl tyP_int rfl rfl rfl <| EQ1 rfl rfl rfl <| MV rfl rfl <| ?_
  refine rw_case (j := 10) rfl (fun h1 => ?_) (fun h1 => ?_)
  · refine ON rfl rfl h1 <| FA rfl tyF_impl_Receiver_1 rfl <| ON rfl rfl h1 <| LS (i := 1) [_, _] rfl tyS_impl_Buffer rfl rfl rfl rfl <| ON rfl rfl h1 <| FA rfl tyF_impl_Receiver_1 rfl <| ON rfl rfl h1 <| LS (i := 0) [_, _] rfl tyS_impl_Buffer rfl rfl rfl rfl <| ON rfl rfl h1 <| CV1 rfl fun_impl_EqualBuffers rfl (fun w hs => impl_EqualBuffers ⟨_, rfl, (hA0.s Pl.keeps hs)⟩ ⟨hb0, hb1⟩ ⟨_, rfl, (hA1_0.s Pl.keeps hs)⟩) <| PT rfl rfl h1 rfl <| MV rfl rfl <| ?_
    refine rw_case (j := 17) rfl (fun h2 => ?_) (fun h2 => ?_)
    · refine ON rfl rfl h2 <| FA rfl tyF_impl_Receiver_2 rfl <| ON rfl rfl h2 <| LD (i := 1) rfl tyP_int rfl rfl rfl <| ON rfl rfl h2 <| FA rfl tyF_impl_Receiver_2 rfl <| ON rfl rfl h2 <| LD (i := 0) rfl tyP_int rfl rfl rfl <| ON rfl rfl h2 <| EQ1 rfl rfl rfl <| PT rfl rfl h2 rfl <| MV rfl rfl <| ?_
      refine rw_case (j := 24) rfl (fun h3 => ?_) (fun h3 => ?_)
      · refine ON rfl rfl h3 <| FA rfl tyF_impl_Receiver_3 rfl <| ON rfl rfl h3 <| LD (i := 1) rfl tyP_int rfl rfl rfl <| ON rfl rfl h3 <| FA rfl tyF_impl_Receiver_3 rfl <| ON rfl rfl h3 <| LD (i := 0) rfl tyP_int rfl rfl rfl <| ON rfl rfl h3 <| EQ1 rfl rfl rfl <| PT rfl rfl h3 rfl <| MV rfl rfl <| ?_
        refine rw_case (j := 31) rfl (fun h4 => ?_) (fun h4 => ?_)
        · refine ON rfl rfl h4 <| FA rfl tyF_impl_Receiver_4 rfl <| ON rfl rfl h4 <| LD (i := 1) rfl tyP_int rfl rfl rfl <| ON rfl rfl h4 <| FA rfl tyF_impl_Receiver_4 rfl <| ON rfl rfl h4 <| LD (i := 0) rfl tyP_int rfl rfl rfl <| ON rfl rfl h4 <| EQ1 rfl rfl rfl <| PT rfl rfl h4 rfl <| AS rfl rfl <| ND <| ret_cv Try.func95 (res1 Try.func95 rfl (rv_tmp rfl)) <| ?_
          simp [eqReceivers, h1, h2, h3, h4]
        · refine OF rfl rfl h4 rfl <| OF rfl rfl h4 rfl <| OF rfl rfl h4 rfl <| OF rfl rfl h4 rfl <| OF rfl rfl h4 rfl <| PF rfl rfl h4 rfl <| AS rfl rfl <| ND <| ret_cv Try.func95 (res1 Try.func95 rfl (rv_tmp rfl)) <| ?_
          simp [eqReceivers, h1, h2, h3, h4]
      · refine OF rfl rfl h3 rfl <| OF rfl rfl h3 rfl <| OF rfl rfl h3 rfl <| OF rfl rfl h3 rfl <| OF rfl rfl h3 rfl <| PF rfl rfl h3 rfl <| MV rfl rfl <| OF rfl rfl rfl rfl <| OF rfl rfl rfl rfl <| OF rfl rfl rfl rfl <| OF rfl rfl rfl rfl <| OF rfl rfl rfl rfl <| PF rfl rfl rfl rfl <| AS rfl rfl <| ND <| ret_cv Try.func95 (res1 Try.func95 rfl (rv_tmp rfl)) <| ?_
        simp [eqReceivers, h1, h2, h3]
    · refine OF rfl rfl h2 rfl <| OF rfl rfl h2 rfl <| OF rfl rfl h2 rfl <| OF rfl rfl h2 rfl <| OF rfl rfl h2 rfl <| PF rfl rfl h2 rfl <| MV rfl rfl <| OF rfl rfl rfl rfl <| OF rfl rfl rfl rfl <| OF rfl rfl rfl rfl <| OF rfl rfl rfl rfl <| OF rfl rfl rfl rfl <| PF rfl rfl rfl rfl <| MV rfl rfl <| OF rfl rfl rfl rfl <| OF rfl rfl rfl rfl <| OF rfl rfl rfl rfl <| OF rfl rfl rfl rfl <| OF rfl rfl rfl rfl <| PF rfl rfl rfl rfl <| AS rfl rfl <| ?_
      refine ND <| ret_cv Try.func95 (res1 Try.func95 rfl (rv_tmp rfl)) <| ?_
      simp [eqReceivers, h1, h2]
  · refine OF rfl rfl h1 rfl <| OF rfl rfl h1 rfl <| OF rfl rfl h1 rfl <| OF rfl rfl h1 rfl <| OF rfl rfl h1 rfl <| PF rfl rfl h1 rfl <| MV rfl rfl <| OF rfl rfl rfl rfl <| OF rfl rfl rfl rfl <| OF rfl rfl rfl rfl <| OF rfl rfl rfl rfl <| OF rfl rfl rfl rfl <| PF rfl rfl rfl rfl <| MV rfl rfl <| OF rfl rfl rfl rfl <| OF rfl rfl rfl rfl <| OF rfl rfl rfl rfl <| OF rfl rfl rfl rfl <| OF rfl rfl rfl rfl <| PF rfl rfl rfl rfl <| MV rfl rfl <| ?_
    refine OF rfl rfl rfl rfl <| OF rfl rfl rfl rfl <| OF rfl rfl rfl rfl <| OF rfl rfl rfl rfl <| OF rfl rfl rfl rfl <| PF rfl rfl rfl rfl <| AS rfl rfl <| ND <| ret_cv Try.func95 (res1 Try.func95 rfl (rv_tmp rfl)) <| ?_
    simp [eqReceivers, h1]

set_option maxRecDepth 20000 in
theorem impl_EqualStreams {w : World} {cs : List Value} {x : Stream} (hv : RdStream w cs x) (hb : x.le 134217728) {cs1_ : List Value} {y : Stream} (hv1_ : RdStream w cs1_ y) : CV Try.prog 31 [.agg cs.toArray, .agg cs1_.toArray] w (.bool (eqStreams x y)) := by
  obtain ⟨v0, v1, v2, v3, v4, rfl, k0, k1, k2, k3, k4⟩ := hv
  obtain ⟨A0, c0, rfl, hA0⟩ := k0
  obtain ⟨A1, c1, rfl, hA1⟩ := k1
  obtain ⟨A2, c2, rfl, hA2⟩ := k2
  obtain ⟨A3, c3, rfl, hA3⟩ := k3
  obtain ⟨A4, c4, rfl, hA4⟩ := k4
  obtain ⟨hb0, hb1, hb2, hb3, hb4, hb5⟩ := hb
  obtain ⟨v1_0, v1_1, v1_2, v1_3, v1_4, rfl, k1_0, k1_1, k1_2, k1_3, k1_4⟩ := hv1_
  obtain ⟨A1_0, c1_0, rfl, hA1_0⟩ := k1_0
  obtain ⟨A1_1, c1_1, rfl, hA1_1⟩ := k1_1
  obtain ⟨A1_2, c1_2, rfl, hA1_2⟩ := k1_2
  obtain ⟨A1_3, c1_3, rfl, hA1_3⟩ := k1_3
  obtain ⟨A1_4, c1_4, rfl, hA1_4⟩ := k1_4
  refine cv_of Try.func31 rfl rfl rfl <| SQ <| RG <| BX [_, _, _, _, _, _, _, _, _, _, _, _, _, _, _, _, _, _, _, _, _, _, _, _, _, _, _, _, _, _, _, _, _, _, _, _, _, _, _] rfl rfl rfl <| fun b1 => BX [_, _, _, _, _, _, _, _, _, _, _, _, _, _, _, _, _, _, _, _, _, _, _, _, _, _, _, _, _, _, _, _, _, _, _, _, _, _, _] rfl rfl rfl <| fun b2 => AS rfl rfl <| ND <| SQ <| gw_draw' [(0, .det), (1, .det), (2, .det), (3, .det), (4, .det), (5, .det), (6, .det), (7, .det), (8, .det), (9, .det), (10, .det), (11, .det), (12, .det), (13, .det), (14, .det), (15, .det), (16, .det), (17, .det), (18, .det), (19, .det), (20, .det), (21, .det), (22, .det), (23, .det), (24, .det), (25, .det), (26, .det), (27, .det), (28, .det), (29, .det), (30, .det), (31, .det), (32, .det), (33, .det), (34, .det), (35, .det), (36, .det), (37, .det), (38, .det), (39, .det), (40, .det), (41, .det), (42, .det), (43, .det), (44, .det), (45, .det), (46, .det), (47, .det), (48, .det), (49, .det), (50, .det), (51, .det)] [52, 53, 54] mixed rfl (free_det (free_det (free_det (free_det (free_det (free_det (free_det (free_det (free_det (free_det (free_det (free_det (free_det (free_det (free_det (free_det (free_det (free_det (free_det (free_det (free_det (free_det (free_det (free_det (free_det (free_det (free_det (free_det (free_det (free_det (free_det (free_det (free_det (free_det (free_det (free_det (free_det (free_det (free_det (free_det (free_det (free_det (free_det (free_det (free_det (free_det (free_det (free_det (free_det (free_det (free_det (free_det free_nil)))))))))))))))))))))))))))))))))))))))))))))))))))) (ts := [_, _, _]) rfl <| ?_
  refine DT rfl rfl (fun K hk => FA rfl tyF_impl_Stream_0 rfl hk) <| DT rfl rfl (fun K hk => LD (i := 1) rfl tyP_int rfl rfl rfl hk) <| DT rfl rfl (fun K hk => FA rfl tyF_impl_Stream_0 rfl hk) <| DT rfl rfl (fun K hk => LD (i := 0) rfl tyP_int rfl rfl rfl hk) <| DT rfl rfl (fun K hk => EQ1 rfl rfl rfl hk) <| DT rfl rfl (fun K hk => MV rfl rfl hk) <| ?_
  refine dw_case (i := 10) rfl (fun h1 => ?_) (fun h1 => ?_)
  · refine DT rfl rfl (fun K hk => ON rfl rfl h1 (FA rfl tyF_impl_Stream_12 rfl hk)) <| DT rfl rfl (fun K hk => ON rfl rfl h1 (LD (i := 1) rfl tyP_int rfl rfl rfl hk)) <| DT rfl rfl (fun K hk => ON rfl rfl h1 (FA rfl tyF_impl_Stream_12 rfl hk)) <| DT rfl rfl (fun K hk => ON rfl rfl h1 (LD (i := 0) rfl tyP_int rfl rfl rfl hk)) <| DT rfl rfl (fun K hk => ON rfl rfl h1 (EQ1 rfl rfl rfl hk)) <| DT rfl rfl (fun K hk => PT rfl rfl h1 rfl hk) <| DT rfl rfl (fun K hk => MV rfl rfl hk) <| ?_
    refine dw_case (i := 17) rfl (fun h2 => ?_) (fun h2 => ?_)
    · refine DT rfl rfl (fun K hk => ON rfl rfl h2 (FA rfl tyF_impl_Stream_2 rfl hk)) <| DT rfl rfl (fun K hk => ON rfl rfl h2 (LS (i := 1) [_, _, _, _] rfl tyS_impl_Credit rfl rfl rfl rfl hk)) <| DT rfl rfl (fun K hk => ON rfl rfl h2 (FA rfl tyF_impl_Stream_2 rfl hk)) <| DT rfl rfl (fun K hk => ON rfl rfl h2 (LS (i := 0) [_, _, _, _] rfl tyS_impl_Credit rfl rfl rfl rfl hk)) <| DT rfl rfl (fun K hk => ON rfl rfl h2 (rw_eqlQ rfl tyQ_impl_Credit rfl rfl rfl rfl hk)) <| DT rfl rfl (fun K hk => PT rfl rfl h2 rfl hk) <| ?_
      refine DT rfl rfl (fun K hk => MV rfl rfl hk) <| ?_
      refine dw_case (i := 24) rfl (fun h3 => ?_) (fun h3 => ?_)
      · refine DT rfl rfl (fun K hk => ON rfl rfl h3 (FA rfl tyF_impl_Stream_4 rfl hk)) <| DT rfl rfl (fun K hk => ON rfl rfl h3 (LS (i := 1) [_, _, _, _, _, _] rfl tyS_impl_Window rfl rfl rfl rfl hk)) <| DT rfl rfl (fun K hk => ON rfl rfl h3 (FA rfl tyF_impl_Stream_4 rfl hk)) <| DT rfl rfl (fun K hk => ON rfl rfl h3 (LS (i := 0) [_, _, _, _, _, _] rfl tyS_impl_Window rfl rfl rfl rfl hk)) <| DT rfl rfl (fun K hk => ON rfl rfl h3 (rw_eqlQ rfl tyQ_impl_Window rfl rfl rfl rfl hk)) <| ?_
        refine DT rfl rfl (fun K hk => PT rfl rfl h3 rfl hk) <| DT rfl rfl (fun K hk => MV rfl rfl hk) <| ?_
        refine dw_case (i := 31) rfl (fun h4 => ?_) (fun h4 => ?_)
        · refine DT rfl rfl (fun K hk => ON rfl rfl h4 (FA rfl tyF_impl_Stream_5 rfl hk)) <| DT rfl rfl (fun K hk => ON rfl rfl h4 (LS (i := 1) [_, _] rfl tyS_impl_Priority rfl rfl rfl rfl hk)) <| DT rfl rfl (fun K hk => ON rfl rfl h4 (FA rfl tyF_impl_Stream_5 rfl hk)) <| DT rfl rfl (fun K hk => ON rfl rfl h4 (LS (i := 0) [_, _] rfl tyS_impl_Priority rfl rfl rfl rfl hk)) <| DT rfl rfl (fun K hk => ON rfl rfl h4 (rw_eqlQ rfl tyQ_impl_Priority rfl rfl rfl rfl hk)) <| DT rfl rfl (fun K hk => PT rfl rfl h4 rfl hk) <| ?_
          refine DT rfl rfl (fun K hk => MV rfl rfl hk) <| ?_
          refine dw_case (i := 38) rfl (fun h5 => ?_) (fun h5 => ?_)
          · refine DT rfl rfl (fun K hk => ON rfl rfl h5 (LS (i := 1) [_, _, _, _, _, _, _, _, _, _, _, _, _, _, _, _, _, _, _, _, _, _, _, _, _, _, _, _, _, _, _, _, _, _, _, _, _, _, _] rfl tyS_impl_Stream rfl rfl rfl rfl hk)) <| DT rfl rfl (fun K hk => ON rfl rfl h5 (CV1 rfl fun_impl_flags rfl (fun w hs => impl_flags ⟨_, _, _, _, _, rfl, (hA0.s Pl.keeps hs), (hA1.s Pl.keeps hs), (hA2.s Pl.keeps hs), (hA3.s Pl.keeps hs), (hA4.s Pl.keeps hs)⟩) hk)) <| DT rfl rfl (fun K hk => ON rfl rfl h5 (LS (i := 0) [_, _, _, _, _, _, _, _, _, _, _, _, _, _, _, _, _, _, _, _, _, _, _, _, _, _, _, _, _, _, _, _, _, _, _, _, _, _, _] rfl tyS_impl_Stream rfl rfl rfl rfl hk)) <| ?_
            refine DT rfl rfl (fun K hk => ON rfl rfl h5 (CV1 rfl fun_impl_flags rfl (fun w hs => impl_flags ⟨_, _, _, _, _, rfl, (hA1_0.s Pl.keeps hs), (hA1_1.s Pl.keeps hs), (hA1_2.s Pl.keeps hs), (hA1_3.s Pl.keeps hs), (hA1_4.s Pl.keeps hs)⟩) hk)) <| DT rfl rfl (fun K hk => ON rfl rfl h5 (rw_eqlA [_, _, _, _, _, _, _] [_, _, _, _, _, _, _] rfl tyA_7_bool rfl rfl rfl rfl rfl rfl hk)) <| DT rfl rfl (fun K hk => PT rfl rfl h5 rfl hk) <| DT rfl rfl (fun K hk => MV rfl rfl hk) <| ?_
            refine dw_case (i := 45) rfl (fun h6 => ?_) (fun h6 => ?_)
            · refine DT rfl rfl (fun K hk => ON rfl rfl h6 (FA rfl tyF_impl_Stream_1 rfl hk)) <| DT rfl rfl (fun K hk => ON rfl rfl h6 (LS (i := 1) [_, _, _, _, _, _, _, _, _, _, _, _] rfl tyS_impl_Sender rfl rfl rfl rfl hk)) <| DT rfl rfl (fun K hk => ON rfl rfl h6 (FA rfl tyF_impl_Stream_1 rfl hk)) <| DT rfl rfl (fun K hk => ON rfl rfl h6 (LS (i := 0) [_, _, _, _, _, _, _, _, _, _, _, _] rfl tyS_impl_Sender rfl rfl rfl rfl hk)) <| DT rfl rfl (fun K hk => ON rfl rfl h6 (CV1 rfl fun_impl_EqualSenders rfl (fun w hs => impl_EqualSenders ⟨_, _, _, _, rfl, (hA0.s Pl.keeps hs), (hA1.s Pl.keeps hs), (hA2.s Pl.keeps hs), (hA3.s Pl.keeps hs)⟩ ⟨hb0, hb1, hb2, hb3⟩ ⟨_, _, _, _, rfl, (hA1_0.s Pl.keeps hs), (hA1_1.s Pl.keeps hs), (hA1_2.s Pl.keeps hs), (hA1_3.s Pl.keeps hs)⟩) hk)) <| ?_
              refine DT rfl rfl (fun K hk => PT rfl rfl h6 rfl hk) <| DT rfl rfl (fun K hk => MV rfl rfl hk) <| ?_
              refine dw_case (i := 52) rfl (fun h7 => ?_) (fun h7 => ?_)
              · refine DT rfl rfl (fun K hk => ON rfl rfl h7 (FA rfl tyF_impl_Stream_3 rfl hk)) <| DT rfl rfl (fun K hk => ON rfl rfl h7 (LS (i := 1) [_, _, _, _, _, _] rfl tyS_impl_Receiver rfl rfl rfl rfl hk)) <| DT rfl rfl (fun K hk => ON rfl rfl h7 (FA rfl tyF_impl_Stream_3 rfl hk)) <| DT rfl rfl (fun K hk => ON rfl rfl h7 (LS (i := 0) [_, _, _, _, _, _] rfl tyS_impl_Receiver rfl rfl rfl rfl hk)) <| dw_nil <| ON rfl rfl h7 <| CV1 rfl fun_impl_EqualReceivers rfl (fun w hs => impl_EqualReceivers ⟨_, rfl, (hA4.s Pl.keeps hs)⟩ ⟨hb4, hb5⟩ ⟨_, rfl, (hA1_4.s Pl.keeps hs)⟩) <| ?_
                refine PT rfl rfl h7 rfl <| AS rfl rfl <| ND <| ret_cv Try.func31 (res1 Try.func31 rfl (rv_tmp rfl)) <| ?_
                rw [eqStreams_i]; simp [eqStreamsI, flagsC, Credit.cells, Window.cells, Priority.cells, h1, h2, h3, h4, h5, h6, h7]
              · refine DT rfl rfl (fun K hk => OF rfl rfl h7 rfl hk) <| DT rfl rfl (fun K hk => OF rfl rfl h7 rfl hk) <| DT rfl rfl (fun K hk => OF rfl rfl h7 rfl hk) <| DT rfl rfl (fun K hk => OF rfl rfl h7 rfl hk) <| dw_nil <| OF rfl rfl h7 rfl <| PF rfl rfl h7 rfl <| AS rfl rfl <| ND <| ret_cv Try.func31 (res1 Try.func31 rfl (rv_tmp rfl)) <| ?_
                rw [eqStreams_i]; simp [eqStreamsI, flagsC, Credit.cells, Window.cells, Priority.cells, h1, h2, h3, h4, h5, h6, h7]
            · refine DT rfl rfl (fun K hk => OF rfl rfl h6 rfl hk) <| DT rfl rfl (fun K hk => OF rfl rfl h6 rfl hk) <| DT rfl rfl (fun K hk => OF rfl rfl h6 rfl hk) <| DT rfl rfl (fun K hk => OF rfl rfl h6 rfl hk) <| DT rfl rfl (fun K hk => OF rfl rfl h6 rfl hk) <| DT rfl rfl (fun K hk => PF rfl rfl h6 rfl hk) <| DT rfl rfl (fun K hk => MV rfl rfl hk) <| DT rfl rfl (fun K hk => OF rfl rfl rfl rfl hk) <| DT rfl rfl (fun K hk => OF rfl rfl rfl rfl hk) <| DT rfl rfl (fun K hk => OF rfl rfl rfl rfl hk) <| ?_
              refine DT rfl rfl (fun K hk => OF rfl rfl rfl rfl hk) <| dw_nil <| OF rfl rfl rfl rfl <| PF rfl rfl rfl rfl <| AS rfl rfl <| ND <| ret_cv Try.func31 (res1 Try.func31 rfl (rv_tmp rfl)) <| ?_
              rw [eqStreams_i]; simp [eqStreamsI, flagsC, Credit.cells, Window.cells, Priority.cells, h1, h2, h3, h4, h5, h6]
          · refine DT rfl rfl (fun K hk => OF rfl rfl h5 rfl hk) <| DT rfl rfl (fun K hk => OF rfl rfl h5 rfl hk) <| DT rfl rfl (fun K hk => OF rfl rfl h5 rfl hk) <| DT rfl rfl (fun K hk => OF rfl rfl h5 rfl hk) <| DT rfl rfl (fun K hk => OF rfl rfl h5 rfl hk) <| DT rfl rfl (fun K hk => PF rfl rfl h5 rfl hk) <| DT rfl rfl (fun K hk => MV rfl rfl hk) <| DT rfl rfl (fun K hk => OF rfl rfl rfl rfl hk) <| DT rfl rfl (fun K hk => OF rfl rfl rfl rfl hk) <| DT rfl rfl (fun K hk => OF rfl rfl rfl rfl hk) <| ?_
            refine DT rfl rfl (fun K hk => OF rfl rfl rfl rfl hk) <| DT rfl rfl (fun K hk => OF rfl rfl rfl rfl hk) <| DT rfl rfl (fun K hk => PF rfl rfl rfl rfl hk) <| DT rfl rfl (fun K hk => MV rfl rfl hk) <| DT rfl rfl (fun K hk => OF rfl rfl rfl rfl hk) <| DT rfl rfl (fun K hk => OF rfl rfl rfl rfl hk) <| DT rfl rfl (fun K hk => OF rfl rfl rfl rfl hk) <| DT rfl rfl (fun K hk => OF rfl rfl rfl rfl hk) <| dw_nil <| OF rfl rfl rfl rfl <| PF rfl rfl rfl rfl <| AS rfl rfl <| ND <| ret_cv Try.func31 (res1 Try.func31 rfl (rv_tmp rfl)) <| ?_
            rw [eqStreams_i]; simp [eqStreamsI, flagsC, Credit.cells, Window.cells, Priority.cells, h1, h2, h3, h4, h5]
        · refine DT rfl rfl (fun K hk => OF rfl rfl h4 rfl hk) <| DT rfl rfl (fun K hk => OF rfl rfl h4 rfl hk) <| DT rfl rfl (fun K hk => OF rfl rfl h4 rfl hk) <| DT rfl rfl (fun K hk => OF rfl rfl h4 rfl hk) <| DT rfl rfl (fun K hk => OF rfl rfl h4 rfl hk) <| DT rfl rfl (fun K hk => PF rfl rfl h4 rfl hk) <| DT rfl rfl (fun K hk => MV rfl rfl hk) <| DT rfl rfl (fun K hk => OF rfl rfl rfl rfl hk) <| DT rfl rfl (fun K hk => OF rfl rfl rfl rfl hk) <| DT rfl rfl (fun K hk => OF rfl rfl rfl rfl hk) <| ?_
          refine DT rfl rfl (fun K hk => OF rfl rfl rfl rfl hk) <| DT rfl rfl (fun K hk => OF rfl rfl rfl rfl hk) <| DT rfl rfl (fun K hk => PF rfl rfl rfl rfl hk) <| DT rfl rfl (fun K hk => MV rfl rfl hk) <| DT rfl rfl (fun K hk => OF rfl rfl rfl rfl hk) <| DT rfl rfl (fun K hk => OF rfl rfl rfl rfl hk) <| DT rfl rfl (fun K hk => OF rfl rfl rfl rfl hk) <| DT rfl rfl (fun K hk => OF rfl rfl rfl rfl hk) <| DT rfl rfl (fun K hk => OF rfl rfl rfl rfl hk) <| DT rfl rfl (fun K hk => PF rfl rfl rfl rfl hk) <| ?_
          refine DT rfl rfl (fun K hk => MV rfl rfl hk) <| DT rfl rfl (fun K hk => OF rfl rfl rfl rfl hk) <| DT rfl rfl (fun K hk => OF rfl rfl rfl rfl hk) <| DT rfl rfl (fun K hk => OF rfl rfl rfl rfl hk) <| DT rfl rfl (fun K hk => OF rfl rfl rfl rfl hk) <| dw_nil <| OF rfl rfl rfl rfl <| PF rfl rfl rfl rfl <| AS rfl rfl <| ND <| ret_cv Try.func31 (res1 Try.func31 rfl (rv_tmp rfl)) <| ?_
          rw [eqStreams_i]; simp [eqStreamsI, flagsC, Credit.cells, Window.cells, Priority.cells, h1, h2, h3, h4]
      · refine DT rfl rfl (fun K hk => OF rfl rfl h3 rfl hk) <| DT rfl rfl (fun K hk => OF rfl rfl h3 rfl hk) <| DT rfl rfl (fun K hk => OF rfl rfl h3 rfl hk) <| DT rfl rfl (fun K hk => OF rfl rfl h3 rfl hk) <| DT rfl rfl (fun K hk => OF rfl rfl h3 rfl hk) <| DT rfl rfl (fun K hk => PF rfl rfl h3 rfl hk) <| DT rfl rfl (fun K hk => MV rfl rfl hk) <| DT rfl rfl (fun K hk => OF rfl rfl rfl rfl hk) <| DT rfl rfl (fun K hk => OF rfl rfl rfl rfl hk) <| DT rfl rfl (fun K hk => OF rfl rfl rfl rfl hk) <| ?_
        refine DT rfl rfl (fun K hk => OF rfl rfl rfl rfl hk) <| DT rfl rfl (fun K hk => OF rfl rfl rfl rfl hk) <| DT rfl rfl (fun K hk => PF rfl rfl rfl rfl hk) <| DT rfl rfl (fun K hk => MV rfl rfl hk) <| DT rfl rfl (fun K hk => OF rfl rfl rfl rfl hk) <| DT rfl rfl (fun K hk => OF rfl rfl rfl rfl hk) <| DT rfl rfl (fun K hk => OF rfl rfl rfl rfl hk) <| DT rfl rfl (fun K hk => OF rfl rfl rfl rfl hk) <| DT rfl rfl (fun K hk => OF rfl rfl rfl rfl hk) <| DT rfl rfl (fun K hk => PF rfl rfl rfl rfl hk) <| ?_
        refine DT rfl rfl (fun K hk => MV rfl rfl hk) <| DT rfl rfl (fun K hk => OF rfl rfl rfl rfl hk) <| DT rfl rfl (fun K hk => OF rfl rfl rfl rfl hk) <| DT rfl rfl (fun K hk => OF rfl rfl rfl rfl hk) <| DT rfl rfl (fun K hk => OF rfl rfl rfl rfl hk) <| DT rfl rfl (fun K hk => OF rfl rfl rfl rfl hk) <| DT rfl rfl (fun K hk => PF rfl rfl rfl rfl hk) <| DT rfl rfl (fun K hk => MV rfl rfl hk) <| DT rfl rfl (fun K hk => OF rfl rfl rfl rfl hk) <| DT rfl rfl (fun K hk => OF rfl rfl rfl rfl hk) <| ?_
        refine DT rfl rfl (fun K hk => OF rfl rfl rfl rfl hk) <| DT rfl rfl (fun K hk => OF rfl rfl rfl rfl hk) <| dw_nil <| OF rfl rfl rfl rfl <| PF rfl rfl rfl rfl <| AS rfl rfl <| ND <| ret_cv Try.func31 (res1 Try.func31 rfl (rv_tmp rfl)) <| ?_
        rw [eqStreams_i]; simp [eqStreamsI, flagsC, Credit.cells, Window.cells, Priority.cells, h1, h2, h3]
    · refine DT rfl rfl (fun K hk => OF rfl rfl h2 rfl hk) <| DT rfl rfl (fun K hk => OF rfl rfl h2 rfl hk) <| DT rfl rfl (fun K hk => OF rfl rfl h2 rfl hk) <| DT rfl rfl (fun K hk => OF rfl rfl h2 rfl hk) <| DT rfl rfl (fun K hk => OF rfl rfl h2 rfl hk) <| DT rfl rfl (fun K hk => PF rfl rfl h2 rfl hk) <| DT rfl rfl (fun K hk => MV rfl rfl hk) <| DT rfl rfl (fun K hk => OF rfl rfl rfl rfl hk) <| DT rfl rfl (fun K hk => OF rfl rfl rfl rfl hk) <| DT rfl rfl (fun K hk => OF rfl rfl rfl rfl hk) <| ?_
      refine DT rfl rfl (fun K hk => OF rfl rfl rfl rfl hk) <| DT rfl rfl (fun K hk => OF rfl rfl rfl rfl hk) <| DT rfl rfl (fun K hk => PF rfl rfl rfl rfl hk) <| DT rfl rfl (fun K hk => MV rfl rfl hk) <| DT rfl rfl (fun K hk => OF rfl rfl rfl rfl hk) <| DT rfl rfl (fun K hk => OF rfl rfl rfl rfl hk) <| DT rfl rfl (fun K hk => OF rfl rfl rfl rfl hk) <| DT rfl rfl (fun K hk => OF rfl rfl rfl rfl hk) <| DT rfl rfl (fun K hk => OF rfl rfl rfl rfl hk) <| DT rfl rfl (fun K hk => PF rfl rfl rfl rfl hk) <| ?_
      refine DT rfl rfl (fun K hk => MV rfl rfl hk) <| DT rfl rfl (fun K hk => OF rfl rfl rfl rfl hk) <| DT rfl rfl (fun K hk => OF rfl rfl rfl rfl hk) <| DT rfl rfl (fun K hk => OF rfl rfl rfl rfl hk) <| DT rfl rfl (fun K hk => OF rfl rfl rfl rfl hk) <| DT rfl rfl (fun K hk => OF rfl rfl rfl rfl hk) <| DT rfl rfl (fun K hk => PF rfl rfl rfl rfl hk) <| DT rfl rfl (fun K hk => MV rfl rfl hk) <| DT rfl rfl (fun K hk => OF rfl rfl rfl rfl hk) <| DT rfl rfl (fun K hk => OF rfl rfl rfl rfl hk) <| ?_
      refine DT rfl rfl (fun K hk => OF rfl rfl rfl rfl hk) <| DT rfl rfl (fun K hk => OF rfl rfl rfl rfl hk) <| DT rfl rfl (fun K hk => OF rfl rfl rfl rfl hk) <| DT rfl rfl (fun K hk => PF rfl rfl rfl rfl hk) <| DT rfl rfl (fun K hk => MV rfl rfl hk) <| DT rfl rfl (fun K hk => OF rfl rfl rfl rfl hk) <| DT rfl rfl (fun K hk => OF rfl rfl rfl rfl hk) <| DT rfl rfl (fun K hk => OF rfl rfl rfl rfl hk) <| DT rfl rfl (fun K hk => OF rfl rfl rfl rfl hk) <| dw_nil <| OF rfl rfl rfl rfl <| PF rfl rfl rfl rfl <| ?_
      refine AS rfl rfl <| ND <| ret_cv Try.func31 (res1 Try.func31 rfl (rv_tmp rfl)) <| ?_
      rw [eqStreams_i]; simp [eqStreamsI, flagsC, Credit.cells, Window.cells, Priority.cells, h1, h2]
  · refine DT rfl rfl (fun K hk => OF rfl rfl h1 rfl hk) <| DT rfl rfl (fun K hk => OF rfl rfl h1 rfl hk) <| DT rfl rfl (fun K hk => OF rfl rfl h1 rfl hk) <| DT rfl rfl (fun K hk => OF rfl rfl h1 rfl hk) <| DT rfl rfl (fun K hk => OF rfl rfl h1 rfl hk) <| DT rfl rfl (fun K hk => PF rfl rfl h1 rfl hk) <| DT rfl rfl (fun K hk => MV rfl rfl hk) <| DT rfl rfl (fun K hk => OF rfl rfl rfl rfl hk) <| DT rfl rfl (fun K hk => OF rfl rfl rfl rfl hk) <| DT rfl rfl (fun K hk => OF rfl rfl rfl rfl hk) <| ?_
    refine DT rfl rfl (fun K hk => OF rfl rfl rfl rfl hk) <| DT rfl rfl (fun K hk => OF rfl rfl rfl rfl hk) <| DT rfl rfl (fun K hk => PF rfl rfl rfl rfl hk) <| DT rfl rfl (fun K hk => MV rfl rfl hk) <| DT rfl rfl (fun K hk => OF rfl rfl rfl rfl hk) <| DT rfl rfl (fun K hk => OF rfl rfl rfl rfl hk) <| DT rfl rfl (fun K hk => OF rfl rfl rfl rfl hk) <| DT rfl rfl (fun K hk => OF rfl rfl rfl rfl hk) <| DT rfl rfl (fun K hk => OF rfl rfl rfl rfl hk) <| DT rfl rfl (fun K hk => PF rfl rfl rfl rfl hk) <| ?_
    refine DT rfl rfl (fun K hk => MV rfl rfl hk) <| DT rfl rfl (fun K hk => OF rfl rfl rfl rfl hk) <| DT rfl rfl (fun K hk => OF rfl rfl rfl rfl hk) <| DT rfl rfl (fun K hk => OF rfl rfl rfl rfl hk) <| DT rfl rfl (fun K hk => OF rfl rfl rfl rfl hk) <| DT rfl rfl (fun K hk => OF rfl rfl rfl rfl hk) <| DT rfl rfl (fun K hk => PF rfl rfl rfl rfl hk) <| DT rfl rfl (fun K hk => MV rfl rfl hk) <| DT rfl rfl (fun K hk => OF rfl rfl rfl rfl hk) <| DT rfl rfl (fun K hk => OF rfl rfl rfl rfl hk) <| ?_
    refine DT rfl rfl (fun K hk => OF rfl rfl rfl rfl hk) <| DT rfl rfl (fun K hk => OF rfl rfl rfl rfl hk) <| DT rfl rfl (fun K hk => OF rfl rfl rfl rfl hk) <| DT rfl rfl (fun K hk => PF rfl rfl rfl rfl hk) <| DT rfl rfl (fun K hk => MV rfl rfl hk) <| DT rfl rfl (fun K hk => OF rfl rfl rfl rfl hk) <| DT rfl rfl (fun K hk => OF rfl rfl rfl rfl hk) <| DT rfl rfl (fun K hk => OF rfl rfl rfl rfl hk) <| DT rfl rfl (fun K hk => OF rfl rfl rfl rfl hk) <| DT rfl rfl (fun K hk => OF rfl rfl rfl rfl hk) <| ?_
    refine DT rfl rfl (fun K hk => PF rfl rfl rfl rfl hk) <| DT rfl rfl (fun K hk => MV rfl rfl hk) <| DT rfl rfl (fun K hk => OF rfl rfl rfl rfl hk) <| DT rfl rfl (fun K hk => OF rfl rfl rfl rfl hk) <| DT rfl rfl (fun K hk => OF rfl rfl rfl rfl hk) <| DT rfl rfl (fun K hk => OF rfl rfl rfl rfl hk) <| dw_nil <| OF rfl rfl rfl rfl <| PF rfl rfl rfl rfl <| AS rfl rfl <| ND <| ret_cv Try.func31 (res1 Try.func31 rfl (rv_tmp rfl)) <| ?_
    rw [eqStreams_i]; simp [eqStreamsI, flagsC, Credit.cells, Window.cells, Priority.cells, h1]

theorem law_FnExactEqualStreams {w : World} {cs : List Value} {x : Stream} (hv : RdStream w cs x) (hb : x.le 9223372036854775807) {cs2_ : List Value} {y : Stream} (hv2_ : RdStream w cs2_ y) (hb2_ : y.le 9223372036854775807) : CV Try.prog 6 [.agg cs.toArray, .agg cs2_.toArray] w (.bool true) := by
  obtain ⟨v0, v1, v2, v3, v4, rfl, k0, k1, k2, k3, k4⟩ := hv
  obtain ⟨A0, c0, rfl, hA0⟩ := k0
  obtain ⟨A1, c1, rfl, hA1⟩ := k1
  obtain ⟨A2, c2, rfl, hA2⟩ := k2
  obtain ⟨A3, c3, rfl, hA3⟩ := k3
  obtain ⟨A4, c4, rfl, hA4⟩ := k4
  obtain ⟨hb0, hb1, hb2, hb3, hb4, hb5⟩ := hb
  obtain ⟨v2_0, v2_1, v2_2, v2_3, v2_4, rfl, k2_0, k2_1, k2_2, k2_3, k2_4⟩ := hv2_
  obtain ⟨A2_0, c2_0, rfl, hA2_0⟩ := k2_0
  obtain ⟨A2_1, c2_1, rfl, hA2_1⟩ := k2_1
  obtain ⟨A2_2, c2_2, rfl, hA2_2⟩ := k2_2
  obtain ⟨A2_3, c2_3, rfl, hA2_3⟩ := k2_3
  obtain ⟨A2_4, c2_4, rfl, hA2_4⟩ := k2_4
  obtain ⟨hb2_0, hb2_1, hb2_2, hb2_3, hb2_4, hb2_5⟩ := hb2_
  refine cv_of Try.func6 rfl rfl rfl <| SQ <| RG <| BX [_, _, _, _, _, _, _, _, _, _, _, _, _, _, _, _, _, _, _, _, _, _, _, _, _, _, _, _, _, _, _, _, _, _, _, _, _, _, _] rfl rfl rfl <| fun b1 => BX [_, _, _, _, _, _, _, _, _, _, _, _, _, _, _, _, _, _, _, _, _, _, _, _, _, _, _, _, _, _, _, _, _, _, _, _, _, _, _] rfl rfl rfl <| fun b2 => AS rfl rfl <| ND <| SQ <| RG <| AS rfl rfl <| ND <| SQ <| RG <| LS (i := 1) [_, _, _, _, _, _, _, _, _, _, _, _, _, _, _, _, _, _, _, _, _, _, _, _, _, _, _, _, _, _, _, _, _, _, _, _, _, _, _] rfl tyS_laws_Stream rfl rfl rfl rfl <| ?_
  refine MV rfl rfl <| CV1 rfl fun_laws_szStream rfl (fun w hs => laws_szStream ⟨_, _, _, _, _, rfl, (hA0.s Pl.keeps hs), (hA1.s Pl.keeps hs), (hA2.s Pl.keeps hs), (hA3.s Pl.keeps hs), (hA4.s Pl.keeps hs)⟩ _ ⟨by first | omega | assumption, by first | omega | assumption, by first | omega | assumption, by first | omega | assumption, by first | omega | assumption, by first | omega | assumption⟩ (by omega) (by omega)) <| AS rfl rfl <| ND <| SQ <| SQ <| RG <| MV rfl rfl <| rw_lss rfl rfl rfl <| ND <| ?_
  refine gw_cond rfl (fun h1 => ?_) (fun h1 => ?_)
  · refine SQ <| RG <| AS rfl rfl <| ND <| ret_cv Try.func6 (res1 Try.func6 rfl (rv_tmp rfl)) <| ?_
    rfl
  · have hnn1 := nn_of h1
    obtain ⟨hle1, hz1_0, hz1_1, hz1_2, hz1_3, hz1_4, hz1_5⟩ := szStream_ok ⟨by first | omega | assumption, by first | omega | assumption, by first | omega | assumption, by first | omega | assumption, by first | omega | assumption, by first | omega | assumption⟩ (by omega) (by omega) hnn1
    refine SK <| SQ <| RG <| LS (i := 0) [_, _, _, _, _, _, _, _, _, _, _, _, _, _, _, _, _, _, _, _, _, _, _, _, _, _, _, _, _, _, _, _, _, _, _, _, _, _, _] rfl tyS_laws_Stream rfl rfl rfl rfl <| MV rfl rfl <| CV1 rfl fun_laws_szStream rfl (fun w hs => laws_szStream ⟨_, _, _, _, _, rfl, (hA2_0.s Pl.keeps hs), (hA2_1.s Pl.keeps hs), (hA2_2.s Pl.keeps hs), (hA2_3.s Pl.keeps hs), (hA2_4.s Pl.keeps hs)⟩ _ ⟨by first | omega | assumption, by first | omega | assumption, by first | omega | assumption, by first | omega | assumption, by first | omega | assumption, by first | omega | assumption⟩ (by omega) (by omega)) <| ?_
    refine AS rfl rfl <| ND <| SQ <| SQ <| RG <| MV rfl rfl <| rw_lss rfl rfl rfl <| ND <| ?_
    refine gw_cond rfl (fun h2 => ?_) (fun h2 => ?_)
    · refine SQ <| RG <| AS rfl rfl <| ND <| ret_cv Try.func6 (res1 Try.func6 rfl (rv_tmp rfl)) <| ?_
      rfl
    · have hnn2 := nn_of h2
      obtain ⟨hle2, hz2_0, hz2_1, hz2_2, hz2_3, hz2_4, hz2_5⟩ := szStream_ok ⟨by first | omega | assumption, by first | omega | assumption, by first | omega | assumption, by first | omega | assumption, by first | omega | assumption, by first | omega | assumption⟩ (by omega) (by omega) hnn2
      refine SK <| SQ <| gw_draw' [(0, .det), (2, .det), (1, .add)] [3, 4, 5] mixed rfl (free_det (free_det (free_add free_nil))) (ts := [_, _, _]) rfl <| DT rfl rfl (fun K hk => LS (i := 1) [_, _, _, _, _, _, _, _, _, _, _, _, _, _, _, _, _, _, _, _, _, _, _, _, _, _, _, _, _, _, _, _, _, _, _, _, _, _, _] rfl tyS_laws_Stream rfl rfl rfl rfl hk) <| DT rfl rfl (fun K hk => LS (i := 0) [_, _, _, _, _, _, _, _, _, _, _, _, _, _, _, _, _, _, _, _, _, _, _, _, _, _, _, _, _, _, _, _, _, _, _, _, _, _, _] rfl tyS_laws_Stream rfl rfl rfl rfl hk) <| DA rfl rfl (fun K hk => CN1 rfl fun_laws_toStream rfl (fun w hs => laws_toStream ⟨_, _, _, _, _, rfl, (hA0.s Pl.keeps hs), (hA1.s Pl.keeps hs), (hA2.s Pl.keeps hs), (hA3.s Pl.keeps hs), (hA4.s Pl.keeps hs)⟩ ⟨hz1_0, hz1_1, hz1_2, hz1_3, hz1_4, hz1_5⟩) hk) <| fun vv3 ch3 how3 => ?_
      obtain ⟨cs3, rfl, v3_0, v3_1, v3_2, v3_3, v3_4, c3_0, c3_1, c3_2, c3_3, c3_4, rfl, h3_0, h3_1, h3_2, h3_3, h3_4, rfl⟩ := how3
      refine dw_F (F' := c3_0 ++ (c3_1 ++ (c3_2 ++ (c3_3 ++ (c3_4 ++ ([])))))) (by simp only [List.append_assoc]) <| ?_
      obtain ⟨R3_0, b3_0, rfl, hR3_0, hrd3_0⟩ := h3_0.shape eInt
      obtain ⟨R3_1, b3_1, rfl, hR3_1, hrd3_1⟩ := h3_1.shape eRange
      obtain ⟨R3_2, b3_2, rfl, hR3_2, hrd3_2⟩ := h3_2.shape eRange
      obtain ⟨R3_3, b3_3, rfl, hR3_3, hrd3_3⟩ := h3_3.shape eRange
      obtain ⟨R3_4, b3_4, rfl, hR3_4, hrd3_4⟩ := h3_4.shape eChunk
      refine dw_nil <| CN1 rfl fun_laws_toStream rfl (fun w hs => laws_toStream ⟨_, _, _, _, _, rfl, (hA2_0.s Pl.keeps hs), (hA2_1.s Pl.keeps hs), (hA2_2.s Pl.keeps hs), (hA2_3.s Pl.keeps hs), (hA2_4.s Pl.keeps hs)⟩ ⟨hz2_0, hz2_1, hz2_2, hz2_3, hz2_4, hz2_5⟩) <| fun vv4 ch4 how4 => ?_
      obtain ⟨cs4, rfl, v4_0, v4_1, v4_2, v4_3, v4_4, c4_0, c4_1, c4_2, c4_3, c4_4, rfl, h4_0, h4_1, h4_2, h4_3, h4_4, rfl⟩ := how4
      refine rw_F (F' := c4_0 ++ (c4_1 ++ (c4_2 ++ (c4_3 ++ (c4_4 ++ (c3_0 ++ (c3_1 ++ (c3_2 ++ (c3_3 ++ (c3_4 ++ ([]))))))))))) (by simp only [List.append_assoc]) <| ?_
      obtain ⟨R4_0, b4_0, rfl, hR4_0, hrd4_0⟩ := h4_0.shape eInt
      obtain ⟨R4_1, b4_1, rfl, hR4_1, hrd4_1⟩ := h4_1.shape eRange
      obtain ⟨R4_2, b4_2, rfl, hR4_2, hrd4_2⟩ := h4_2.shape eRange
      obtain ⟨R4_3, b4_3, rfl, hR4_3, hrd4_3⟩ := h4_3.shape eRange
      obtain ⟨R4_4, b4_4, rfl, hR4_4, hrd4_4⟩ := h4_4.shape eChunk
      refine CV1 rfl fun_spec_EqualStreams rfl (fun w hs => spec_EqualStreams ⟨_, _, _, _, _, rfl, ⟨_, _, rfl, hrd3_0 _ (fun c hc => hs.at_ c (List.mem_append_right _ (List.mem_append_right _ (List.mem_append_right _ (List.mem_append_right _ (List.mem_append_right _ (List.mem_append_right _ (List.mem_append_left _ hc))))))))⟩, ⟨_, _, rfl, hrd3_1 _ (fun c hc => hs.at_ c (List.mem_append_right _ (List.mem_append_right _ (List.mem_append_right _ (List.mem_append_right _ (List.mem_append_right _ (List.mem_append_right _ (List.mem_append_right _ (List.mem_append_left _ hc)))))))))⟩, ⟨_, _, rfl, hrd3_2 _ (fun c hc => hs.at_ c (List.mem_append_right _ (List.mem_append_right _ (List.mem_append_right _ (List.mem_append_right _ (List.mem_append_right _ (List.mem_append_right _ (List.mem_append_right _ (List.mem_append_right _ (List.mem_append_left _ hc))))))))))⟩, ⟨_, _, rfl, hrd3_3 _ (fun c hc => hs.at_ c (List.mem_append_right _ (List.mem_append_right _ (List.mem_append_right _ (List.mem_append_right _ (List.mem_append_right _ (List.mem_append_right _ (List.mem_append_right _ (List.mem_append_right _ (List.mem_append_right _ (List.mem_append_left _ hc)))))))))))⟩, ⟨_, _, rfl, hrd3_4 _ (fun c hc => hs.at_ c (List.mem_append_right _ (List.mem_append_right _ (List.mem_append_right _ (List.mem_append_right _ (List.mem_append_right _ (List.mem_append_right _ (List.mem_append_right _ (List.mem_append_right _ (List.mem_append_right _ (List.mem_append_right _ (List.mem_append_left _ hc))))))))))))⟩⟩ ⟨hz1_0, hz1_1, hz1_2, hz1_3, hz1_4, hz1_5⟩ ⟨_, _, _, _, _, rfl, ⟨_, _, rfl, hrd4_0 _ (fun c hc => hs.at_ c (List.mem_append_right _ (List.mem_append_left _ hc)))⟩, ⟨_, _, rfl, hrd4_1 _ (fun c hc => hs.at_ c (List.mem_append_right _ (List.mem_append_right _ (List.mem_append_left _ hc))))⟩, ⟨_, _, rfl, hrd4_2 _ (fun c hc => hs.at_ c (List.mem_append_right _ (List.mem_append_right _ (List.mem_append_right _ (List.mem_append_left _ hc)))))⟩, ⟨_, _, rfl, hrd4_3 _ (fun c hc => hs.at_ c (List.mem_append_right _ (List.mem_append_right _ (List.mem_append_right _ (List.mem_append_right _ (List.mem_append_left _ hc))))))⟩, ⟨_, _, rfl, hrd4_4 _ (fun c hc => hs.at_ c (List.mem_append_right _ (List.mem_append_right _ (List.mem_append_right _ (List.mem_append_right _ (List.mem_append_right _ (List.mem_append_left _ hc)))))))⟩⟩) <| ?_
      refine AS rfl rfl <| ND <| SQ <| RG <| LS (i := 1) [_, _, _, _, _, _, _, _, _, _, _, _, _, _, _, _, _, _, _, _, _, _, _, _, _, _, _, _, _, _, _, _, _, _, _, _, _, _, _] rfl tyS_laws_Stream rfl rfl rfl rfl <| CN1 rfl fun_laws_toStream rfl (fun w hs => laws_toStream ⟨_, _, _, _, _, rfl, (hA0.s Pl.keeps hs), (hA1.s Pl.keeps hs), (hA2.s Pl.keeps hs), (hA3.s Pl.keeps hs), (hA4.s Pl.keeps hs)⟩ ⟨hz1_0, hz1_1, hz1_2, hz1_3, hz1_4, hz1_5⟩) <| fun vv5 ch5 how5 => ?_
      obtain ⟨cs5, rfl, v5_0, v5_1, v5_2, v5_3, v5_4, c5_0, c5_1, c5_2, c5_3, c5_4, rfl, h5_0, h5_1, h5_2, h5_3, h5_4, rfl⟩ := how5
      refine rw_F (F' := c5_0 ++ (c5_1 ++ (c5_2 ++ (c5_3 ++ (c5_4 ++ (c4_0 ++ (c4_1 ++ (c4_2 ++ (c4_3 ++ (c4_4 ++ (c3_0 ++ (c3_1 ++ (c3_2 ++ (c3_3 ++ (c3_4 ++ ([])))))))))))))))) (by simp only [List.append_assoc]) <| ?_
      obtain ⟨R5_0, b5_0, rfl, hR5_0, hrd5_0⟩ := h5_0.shape eInt
      obtain ⟨R5_1, b5_1, rfl, hR5_1, hrd5_1⟩ := h5_1.shape eRange
      obtain ⟨R5_2, b5_2, rfl, hR5_2, hrd5_2⟩ := h5_2.shape eRange
      obtain ⟨R5_3, b5_3, rfl, hR5_3, hrd5_3⟩ := h5_3.shape eRange
      obtain ⟨R5_4, b5_4, rfl, hR5_4, hrd5_4⟩ := h5_4.shape eChunk
      refine AL rfl tyZ_impl_Stream <| fun b3 => rw_storeN (i := 0) [_, _, _, _, _, _, _, _, _, _, _, _, _, _, _, _, _, _, _, _, _, _, _, _, _, _, _, _, _, _, _, _, _, _, _, _, _, _, _] [_, _, _, _, _, _, _, _, _, _, _, _, _, _, _, _, _, _, _, _, _, _, _, _, _, _, _, _, _, _, _, _, _, _, _, _, _, _, _] [_, _, _] tyS_impl_Stream.sz rfl rfl rfl rfl rfl rfl rfl rfl rfl <| ND <| SQ <| RG <| LS (i := 1) [_, _, _, _, _, _, _, _, _, _, _, _, _, _, _, _, _, _, _, _, _, _, _, _, _, _, _, _, _, _, _, _, _, _, _, _, _, _, _] rfl tyS_laws_Stream rfl rfl rfl rfl <| CN1 rfl fun_laws_toStream rfl (fun w hs => laws_toStream ⟨_, _, _, _, _, rfl, (hA2_0.s Pl.keeps hs), (hA2_1.s Pl.keeps hs), (hA2_2.s Pl.keeps hs), (hA2_3.s Pl.keeps hs), (hA2_4.s Pl.keeps hs)⟩ ⟨hz2_0, hz2_1, hz2_2, hz2_3, hz2_4, hz2_5⟩) <| fun vv6 ch6 how6 => ?_
      obtain ⟨cs6, rfl, v6_0, v6_1, v6_2, v6_3, v6_4, c6_0, c6_1, c6_2, c6_3, c6_4, rfl, h6_0, h6_1, h6_2, h6_3, h6_4, rfl⟩ := how6
      refine rw_F (F' := c6_0 ++ (c6_1 ++ (c6_2 ++ (c6_3 ++ (c6_4 ++ (c5_0 ++ (c5_1 ++ (c5_2 ++ (c5_3 ++ (c5_4 ++ (c4_0 ++ (c4_1 ++ (c4_2 ++ (c4_3 ++ (c4_4 ++ (c3_0 ++ (c3_1 ++ (c3_2 ++ (c3_3 ++ (c3_4 ++ ([]))))))))))))))))))))) (by simp only [List.append_assoc]) <| ?_
      obtain ⟨R6_0, b6_0, rfl, hR6_0, hrd6_0⟩ := h6_0.shape eInt
      obtain ⟨R6_1, b6_1, rfl, hR6_1, hrd6_1⟩ := h6_1.shape eRange
      obtain ⟨R6_2, b6_2, rfl, hR6_2, hrd6_2⟩ := h6_2.shape eRange
      obtain ⟨R6_3, b6_3, rfl, hR6_3, hrd6_3⟩ := h6_3.shape eRange
      obtain ⟨R6_4, b6_4, rfl, hR6_4, hrd6_4⟩ := h6_4.shape eChunk
      refine AL rfl tyZ_impl_Stream <| fun b4 => rw_storeN (i := 0) [_, _, _, _, _, _, _, _, _, _, _, _, _, _, _, _, _, _, _, _, _, _, _, _, _, _, _, _, _, _, _, _, _, _, _, _, _, _, _] [_, _, _, _, _, _, _, _, _, _, _, _, _, _, _, _, _, _, _, _, _, _, _, _, _, _, _, _, _, _, _, _, _, _, _, _, _, _, _] [_, _, _, _] tyS_impl_Stream.sz rfl rfl rfl rfl rfl rfl rfl rfl rfl <| ND <| SQ <| RG <| LS (i := 1) [_, _, _, _, _, _, _, _, _, _, _, _, _, _, _, _, _, _, _, _, _, _, _, _, _, _, _, _, _, _, _, _, _, _, _, _, _, _, _] rfl tyS_impl_Stream rfl rfl rfl rfl <| LS (i := 0) [_, _, _, _, _, _, _, _, _, _, _, _, _, _, _, _, _, _, _, _, _, _, _, _, _, _, _, _, _, _, _, _, _, _, _, _, _, _, _] rfl tyS_impl_Stream rfl rfl rfl rfl <| ?_
      refine CV1 rfl fun_impl_EqualStreams rfl (fun w hs => impl_EqualStreams ⟨_, _, _, _, _, rfl, ⟨_, _, rfl, hrd5_0 _ (fun c hc => hs.at_ c (List.mem_append_right _ (List.mem_append_right _ (List.mem_append_right _ (List.mem_append_right _ (List.mem_append_right _ (List.mem_append_right _ (List.mem_append_left _ hc))))))))⟩, ⟨_, _, rfl, hrd5_1 _ (fun c hc => hs.at_ c (List.mem_append_right _ (List.mem_append_right _ (List.mem_append_right _ (List.mem_append_right _ (List.mem_append_right _ (List.mem_append_right _ (List.mem_append_right _ (List.mem_append_left _ hc)))))))))⟩, ⟨_, _, rfl, hrd5_2 _ (fun c hc => hs.at_ c (List.mem_append_right _ (List.mem_append_right _ (List.mem_append_right _ (List.mem_append_right _ (List.mem_append_right _ (List.mem_append_right _ (List.mem_append_right _ (List.mem_append_right _ (List.mem_append_left _ hc))))))))))⟩, ⟨_, _, rfl, hrd5_3 _ (fun c hc => hs.at_ c (List.mem_append_right _ (List.mem_append_right _ (List.mem_append_right _ (List.mem_append_right _ (List.mem_append_right _ (List.mem_append_right _ (List.mem_append_right _ (List.mem_append_right _ (List.mem_append_right _ (List.mem_append_left _ hc)))))))))))⟩, ⟨_, _, rfl, hrd5_4 _ (fun c hc => hs.at_ c (List.mem_append_right _ (List.mem_append_right _ (List.mem_append_right _ (List.mem_append_right _ (List.mem_append_right _ (List.mem_append_right _ (List.mem_append_right _ (List.mem_append_right _ (List.mem_append_right _ (List.mem_append_right _ (List.mem_append_left _ hc))))))))))))⟩⟩ ⟨hz1_0, hz1_1, hz1_2, hz1_3, hz1_4, hz1_5⟩ ⟨_, _, _, _, _, rfl, ⟨_, _, rfl, hrd6_0 _ (fun c hc => hs.at_ c (List.mem_append_right _ (List.mem_append_left _ hc)))⟩, ⟨_, _, rfl, hrd6_1 _ (fun c hc => hs.at_ c (List.mem_append_right _ (List.mem_append_right _ (List.mem_append_left _ hc))))⟩, ⟨_, _, rfl, hrd6_2 _ (fun c hc => hs.at_ c (List.mem_append_right _ (List.mem_append_right _ (List.mem_append_right _ (List.mem_append_left _ hc)))))⟩, ⟨_, _, rfl, hrd6_3 _ (fun c hc => hs.at_ c (List.mem_append_right _ (List.mem_append_right _ (List.mem_append_right _ (List.mem_append_right _ (List.mem_append_left _ hc))))))⟩, ⟨_, _, rfl, hrd6_4 _ (fun c hc => hs.at_ c (List.mem_append_right _ (List.mem_append_right _ (List.mem_append_right _ (List.mem_append_right _ (List.mem_append_right _ (List.mem_append_left _ hc)))))))⟩⟩) <| ?_
      refine AS rfl rfl <| ND <| SQ <| SQ <| RG <| MV rfl rfl <| MV rfl rfl <| rw_neqSelfB (by kernel_rfl) rfl rfl rfl <| ND <| CF rfl rfl <| SK <| SQ <| SQ <| gw_draw' [(0, .det), (1, .det), (2, .add)] [3, 4] mixed rfl (free_det (free_det (free_add free_nil))) (ts := [_, _]) rfl <| DT rfl rfl (fun K hk => LS (i := 1) [_, _, _, _, _, _, _, _, _, _, _, _, _, _, _, _, _, _, _, _, _, _, _, _, _, _, _, _, _, _, _, _, _, _, _, _, _, _, _] rfl tyS_impl_Stream rfl rfl rfl rfl hk) <| DT rfl rfl (fun K hk => LS (i := 3) [_, _, _, _, _, _, _, _, _, _, _, _, _, _, _, _, _, _, _, _, _, _, _, _, _, _, _, _, _, _, _, _, _, _, _, _, _, _, _] rfl tyS_laws_Stream rfl rfl rfl rfl hk) <| ?_
      refine DA rfl rfl (fun K hk => CN1 rfl fun_laws_toStream rfl (fun w hs => laws_toStream ⟨_, _, _, _, _, rfl, (hA0.s Pl.keeps hs), (hA1.s Pl.keeps hs), (hA2.s Pl.keeps hs), (hA3.s Pl.keeps hs), (hA4.s Pl.keeps hs)⟩ ⟨hz1_0, hz1_1, hz1_2, hz1_3, hz1_4, hz1_5⟩) hk) <| fun vv7 ch7 how7 => ?_
      obtain ⟨cs7, rfl, v7_0, v7_1, v7_2, v7_3, v7_4, c7_0, c7_1, c7_2, c7_3, c7_4, rfl, h7_0, h7_1, h7_2, h7_3, h7_4, rfl⟩ := how7
      refine dw_F (F' := c7_0 ++ (c7_1 ++ (c7_2 ++ (c7_3 ++ (c7_4 ++ (c6_0 ++ (c6_1 ++ (c6_2 ++ (c6_3 ++ (c6_4 ++ (c5_0 ++ (c5_1 ++ (c5_2 ++ (c5_3 ++ (c5_4 ++ (c4_0 ++ (c4_1 ++ (c4_2 ++ (c4_3 ++ (c4_4 ++ (c3_0 ++ (c3_1 ++ (c3_2 ++ (c3_3 ++ (c3_4 ++ ([])))))))))))))))))))))))))) (by simp only [List.append_assoc]) <| ?_
      obtain ⟨R7_0, b7_0, rfl, hR7_0, hrd7_0⟩ := h7_0.shape eInt
      obtain ⟨R7_1, b7_1, rfl, hR7_1, hrd7_1⟩ := h7_1.shape eRange
      obtain ⟨R7_2, b7_2, rfl, hR7_2, hrd7_2⟩ := h7_2.shape eRange
      obtain ⟨R7_3, b7_3, rfl, hR7_3, hrd7_3⟩ := h7_3.shape eRange
      obtain ⟨R7_4, b7_4, rfl, hR7_4, hrd7_4⟩ := h7_4.shape eChunk
      refine dw_nil <| CV1 rfl fun_laws_eqStream rfl (fun w hs => laws_eqStream ⟨_, _, _, _, _, rfl, ⟨_, _, rfl, hrd5_0 _ (fun c hc => hs.at_ c (List.mem_append_right _ (List.mem_append_right _ (List.mem_append_right _ (List.mem_append_right _ (List.mem_append_right _ (List.mem_append_right _ (List.mem_append_right _ (List.mem_append_right _ (List.mem_append_right _ (List.mem_append_right _ (List.mem_append_right _ (List.mem_append_left _ hc)))))))))))))⟩, ⟨_, _, rfl, hrd5_1 _ (fun c hc => hs.at_ c (List.mem_append_right _ (List.mem_append_right _ (List.mem_append_right _ (List.mem_append_right _ (List.mem_append_right _ (List.mem_append_right _ (List.mem_append_right _ (List.mem_append_right _ (List.mem_append_right _ (List.mem_append_right _ (List.mem_append_right _ (List.mem_append_right _ (List.mem_append_left _ hc))))))))))))))⟩, ⟨_, _, rfl, hrd5_2 _ (fun c hc => hs.at_ c (List.mem_append_right _ (List.mem_append_right _ (List.mem_append_right _ (List.mem_append_right _ (List.mem_append_right _ (List.mem_append_right _ (List.mem_append_right _ (List.mem_append_right _ (List.mem_append_right _ (List.mem_append_right _ (List.mem_append_right _ (List.mem_append_right _ (List.mem_append_right _ (List.mem_append_left _ hc)))))))))))))))⟩, ⟨_, _, rfl, hrd5_3 _ (fun c hc => hs.at_ c (List.mem_append_right _ (List.mem_append_right _ (List.mem_append_right _ (List.mem_append_right _ (List.mem_append_right _ (List.mem_append_right _ (List.mem_append_right _ (List.mem_append_right _ (List.mem_append_right _ (List.mem_append_right _ (List.mem_append_right _ (List.mem_append_right _ (List.mem_append_right _ (List.mem_append_right _ (List.mem_append_left _ hc))))))))))))))))⟩, ⟨_, _, rfl, hrd5_4 _ (fun c hc => hs.at_ c (List.mem_append_right _ (List.mem_append_right _ (List.mem_append_right _ (List.mem_append_right _ (List.mem_append_right _ (List.mem_append_right _ (List.mem_append_right _ (List.mem_append_right _ (List.mem_append_right _ (List.mem_append_right _ (List.mem_append_right _ (List.mem_append_right _ (List.mem_append_right _ (List.mem_append_right _ (List.mem_append_right _ (List.mem_append_left _ hc)))))))))))))))))⟩⟩ ⟨hz1_0, hz1_1, hz1_2, hz1_3, hz1_4, hz1_5⟩ ⟨_, _, _, _, _, rfl, ⟨_, _, rfl, hrd7_0 _ (fun c hc => hs.at_ c (List.mem_append_right _ (List.mem_append_left _ hc)))⟩, ⟨_, _, rfl, hrd7_1 _ (fun c hc => hs.at_ c (List.mem_append_right _ (List.mem_append_right _ (List.mem_append_left _ hc))))⟩, ⟨_, _, rfl, hrd7_2 _ (fun c hc => hs.at_ c (List.mem_append_right _ (List.mem_append_right _ (List.mem_append_right _ (List.mem_append_left _ hc)))))⟩, ⟨_, _, rfl, hrd7_3 _ (fun c hc => hs.at_ c (List.mem_append_right _ (List.mem_append_right _ (List.mem_append_right _ (List.mem_append_right _ (List.mem_append_left _ hc))))))⟩, ⟨_, _, rfl, hrd7_4 _ (fun c hc => hs.at_ c (List.mem_append_right _ (List.mem_append_right _ (List.mem_append_right _ (List.mem_append_right _ (List.mem_append_right _ (List.mem_append_left _ hc)))))))⟩⟩) <| ?_
      refine NT rfl rfl <| ND <| CF rfl rfl <| SK <| SQ <| SQ <| gw_draw' [(0, .det), (1, .det), (2, .add)] [3, 4] mixed rfl (free_det (free_det (free_add free_nil))) (ts := [_, _]) rfl <| DT rfl rfl (fun K hk => LS (i := 0) [_, _, _, _, _, _, _, _, _, _, _, _, _, _, _, _, _, _, _, _, _, _, _, _, _, _, _, _, _, _, _, _, _, _, _, _, _, _, _] rfl tyS_impl_Stream rfl rfl rfl rfl hk) <| DT rfl rfl (fun K hk => LS (i := 2) [_, _, _, _, _, _, _, _, _, _, _, _, _, _, _, _, _, _, _, _, _, _, _, _, _, _, _, _, _, _, _, _, _, _, _, _, _, _, _] rfl tyS_laws_Stream rfl rfl rfl rfl hk) <| ?_
      refine DA rfl rfl (fun K hk => CN1 rfl fun_laws_toStream rfl (fun w hs => laws_toStream ⟨_, _, _, _, _, rfl, (hA2_0.s Pl.keeps hs), (hA2_1.s Pl.keeps hs), (hA2_2.s Pl.keeps hs), (hA2_3.s Pl.keeps hs), (hA2_4.s Pl.keeps hs)⟩ ⟨hz2_0, hz2_1, hz2_2, hz2_3, hz2_4, hz2_5⟩) hk) <| fun vv8 ch8 how8 => ?_
      obtain ⟨cs8, rfl, v8_0, v8_1, v8_2, v8_3, v8_4, c8_0, c8_1, c8_2, c8_3, c8_4, rfl, h8_0, h8_1, h8_2, h8_3, h8_4, rfl⟩ := how8
      refine dw_F (F' := c8_0 ++ (c8_1 ++ (c8_2 ++ (c8_3 ++ (c8_4 ++ (c7_0 ++ (c7_1 ++ (c7_2 ++ (c7_3 ++ (c7_4 ++ (c6_0 ++ (c6_1 ++ (c6_2 ++ (c6_3 ++ (c6_4 ++ (c5_0 ++ (c5_1 ++ (c5_2 ++ (c5_3 ++ (c5_4 ++ (c4_0 ++ (c4_1 ++ (c4_2 ++ (c4_3 ++ (c4_4 ++ (c3_0 ++ (c3_1 ++ (c3_2 ++ (c3_3 ++ (c3_4 ++ ([]))))))))))))))))))))))))))))))) (by simp only [List.append_assoc]) <| ?_
      obtain ⟨R8_0, b8_0, rfl, hR8_0, hrd8_0⟩ := h8_0.shape eInt
      obtain ⟨R8_1, b8_1, rfl, hR8_1, hrd8_1⟩ := h8_1.shape eRange
      obtain ⟨R8_2, b8_2, rfl, hR8_2, hrd8_2⟩ := h8_2.shape eRange
      obtain ⟨R8_3, b8_3, rfl, hR8_3, hrd8_3⟩ := h8_3.shape eRange
      obtain ⟨R8_4, b8_4, rfl, hR8_4, hrd8_4⟩ := h8_4.shape eChunk
      refine dw_nil <| CV1 rfl fun_laws_eqStream rfl (fun w hs => laws_eqStream ⟨_, _, _, _, _, rfl, ⟨_, _, rfl, hrd6_0 _ (fun c hc => hs.at_ c (List.mem_append_right _ (List.mem_append_right _ (List.mem_append_right _ (List.mem_append_right _ (List.mem_append_right _ (List.mem_append_right _ (List.mem_append_right _ (List.mem_append_right _ (List.mem_append_right _ (List.mem_append_right _ (List.mem_append_right _ (List.mem_append_left _ hc)))))))))))))⟩, ⟨_, _, rfl, hrd6_1 _ (fun c hc => hs.at_ c (List.mem_append_right _ (List.mem_append_right _ (List.mem_append_right _ (List.mem_append_right _ (List.mem_append_right _ (List.mem_append_right _ (List.mem_append_right _ (List.mem_append_right _ (List.mem_append_right _ (List.mem_append_right _ (List.mem_append_right _ (List.mem_append_right _ (List.mem_append_left _ hc))))))))))))))⟩, ⟨_, _, rfl, hrd6_2 _ (fun c hc => hs.at_ c (List.mem_append_right _ (List.mem_append_right _ (List.mem_append_right _ (List.mem_append_right _ (List.mem_append_right _ (List.mem_append_right _ (List.mem_append_right _ (List.mem_append_right _ (List.mem_append_right _ (List.mem_append_right _ (List.mem_append_right _ (List.mem_append_right _ (List.mem_append_right _ (List.mem_append_left _ hc)))))))))))))))⟩, ⟨_, _, rfl, hrd6_3 _ (fun c hc => hs.at_ c (List.mem_append_right _ (List.mem_append_right _ (List.mem_append_right _ (List.mem_append_right _ (List.mem_append_right _ (List.mem_append_right _ (List.mem_append_right _ (List.mem_append_right _ (List.mem_append_right _ (List.mem_append_right _ (List.mem_append_right _ (List.mem_append_right _ (List.mem_append_right _ (List.mem_append_right _ (List.mem_append_left _ hc))))))))))))))))⟩, ⟨_, _, rfl, hrd6_4 _ (fun c hc => hs.at_ c (List.mem_append_right _ (List.mem_append_right _ (List.mem_append_right _ (List.mem_append_right _ (List.mem_append_right _ (List.mem_append_right _ (List.mem_append_right _ (List.mem_append_right _ (List.mem_append_right _ (List.mem_append_right _ (List.mem_append_right _ (List.mem_append_right _ (List.mem_append_right _ (List.mem_append_right _ (List.mem_append_right _ (List.mem_append_left _ hc)))))))))))))))))⟩⟩ ⟨hz2_0, hz2_1, hz2_2, hz2_3, hz2_4, hz2_5⟩ ⟨_, _, _, _, _, rfl, ⟨_, _, rfl, hrd8_0 _ (fun c hc => hs.at_ c (List.mem_append_right _ (List.mem_append_left _ hc)))⟩, ⟨_, _, rfl, hrd8_1 _ (fun c hc => hs.at_ c (List.mem_append_right _ (List.mem_append_right _ (List.mem_append_left _ hc))))⟩, ⟨_, _, rfl, hrd8_2 _ (fun c hc => hs.at_ c (List.mem_append_right _ (List.mem_append_right _ (List.mem_append_right _ (List.mem_append_left _ hc)))))⟩, ⟨_, _, rfl, hrd8_3 _ (fun c hc => hs.at_ c (List.mem_append_right _ (List.mem_append_right _ (List.mem_append_right _ (List.mem_append_right _ (List.mem_append_left _ hc))))))⟩, ⟨_, _, rfl, hrd8_4 _ (fun c hc => hs.at_ c (List.mem_append_right _ (List.mem_append_right _ (List.mem_append_right _ (List.mem_append_right _ (List.mem_append_right _ (List.mem_append_left _ hc)))))))⟩⟩) <| ?_
      refine NT rfl rfl <| ND <| CF rfl rfl <| SK <| SQ <| RG <| AS rfl rfl <| ND <| ret_cv Try.func6 (res1 Try.func6 rfl (rv_tmp rfl)) <| ?_
      rfl

theorem spec_EqualTables {w : World} {v : Value} {l : List Stream} (hv : RdS w 39 RdStream v l) (hb : l.length ≤ 134217728) (hall : ∀ y ∈ l, y.le 134217728) {v1 : Value} {l1 : List Stream} (hv1 : RdS w 39 RdStream v1 l1) : CV Try.prog 34 [v, v1] w (.bool (eqTables l l1)) := by
  obtain ⟨A, c, rfl, hA⟩ := hv
  obtain ⟨A1, c1, rfl, hA1⟩ := hv1
  refine cv_of Try.func34 rfl rfl rfl <| SQ <| RG <| AS rfl rfl <| ND <| SQ <| SQ <| RG <| MV rfl rfl <| rw_len rfl tyE_S_impl_Stream rfl <| MV rfl rfl <| rw_len rfl tyE_S_impl_Stream rfl <| rw_neq rfl rfl rfl <| ND <| ?_
  refine gw_cond rfl (fun h1 => ?_) (fun h1 => ?_)
  · replace h1 := of_not_T h1
    have hlne1 := len_ne_of h1
    refine SQ <| RG <| AS rfl rfl <| ND <| ret_cv Try.func34 (res1 Try.func34 rfl (rv_tmp rfl)) <| ?_
    rw [eqTables_len _ _ hlne1]
  · replace h1 := of_not_F h1
    have hlen2 := len_eq_of h1
    refine SK <| SQ <| SQ <| RG <| AS rfl rfl <| ND <| BK <| ?_
    refine gw_loopC (α := Nat) (fun z_ => z_ ≤ l.length ∧ eqTables l l1 = eqTables (l.drop z_) (l1.drop z_)) (fun z_ => l.length - z_) (fun e z_ => (5, .int .i64 (z_ : Int)) :: e) 0 [(0, _), (1, _)] (Sub.consE rfl rfl (Sub.cons (i := 0) rfl (Sub.cons (i := 1) rfl (Sub.nil _)))) ?_ ?_
    · exact ⟨Nat.zero_le _, rfl⟩
    · rintro i hI3 ih3
      try dsimp only
      obtain ⟨hle, hI⟩ := hI3
      refine SQ <| SQ <| RG <| MV rfl rfl <| MV rfl rfl <| rw_len rfl tyE_S_impl_Stream rfl <| rw_lss rfl rfl rfl <| ND <| ?_
      refine gw_cond rfl (fun h2 => ?_) (fun h2 => ?_)
      · have hi4 := lt_of_dec h2
        obtain ⟨x5, hx5⟩ := get_of_lt hi4
        have hd5 := drop_cons hx5
        refine SK <| SQ <| BK <| SQ <| gw_draw' [(0, .det), (1, .det), (2, .det), (3, .det), (4, .det), (5, .det), (6, .det), (7, .det)] [8, 9] mixed rfl (free_det (free_det (free_det (free_det (free_det (free_det (free_det (free_det free_nil)))))))) (ts := [_, _]) rfl <| DT rfl rfl (fun K hk => MV rfl rfl hk) <| DT rfl rfl (fun K hk => MV rfl rfl hk) <| ?_
        obtain ⟨cse6_, hRe6_, hq6⟩ := hA.get hx5
        obtain ⟨ve6_0, ve6_1, ve6_2, ve6_3, ve6_4, rfl, ke6_0, ke6_1, ke6_2, ke6_3, ke6_4⟩ := hRe6_
        obtain ⟨Ae6_0, ce6_0, rfl, hAe6_0⟩ := ke6_0
        obtain ⟨Ae6_1, ce6_1, rfl, hAe6_1⟩ := ke6_1
        obtain ⟨Ae6_2, ce6_2, rfl, hAe6_2⟩ := ke6_2
        obtain ⟨Ae6_3, ce6_3, rfl, hAe6_3⟩ := ke6_3
        obtain ⟨Ae6_4, ce6_4, rfl, hAe6_4⟩ := ke6_4
        obtain ⟨hbe6_0, hbe6_1, hbe6_2, hbe6_3, hbe6_4, hbe6_5⟩ := hall x5 (List.mem_of_getElem? hx5)
        refine DT rfl rfl (fun K hk => rw_indexAddr (i) rfl tyE_S_impl_Stream rfl rfl rfl (hA.some hi4) hi4 hk) <| DT rfl rfl (fun K hk => rw_loadX_s [_, _, _, _, _, _, _, _, _, _, _, _, _, _, _, _, _, _, _, _, _, _, _, _, _, _, _, _, _, _, _, _, _, _, _, _, _, _, _] rfl tyS_impl_Stream rfl rfl (fun w hs => hq6.lds0 (n := 39) hs rfl) hk) <| DT rfl rfl (fun K hk => MV rfl rfl hk) <| DT rfl rfl (fun K hk => MV rfl rfl hk) <| ?_
        have hi7 : i < l1.length := by omega
        obtain ⟨x8, hx8⟩ := get_of_lt hi7
        have hd8 := drop_cons hx8
        obtain ⟨cse9_, hRe9_, hq9⟩ := hA1.get hx8
        obtain ⟨ve9_0, ve9_1, ve9_2, ve9_3, ve9_4, rfl, ke9_0, ke9_1, ke9_2, ke9_3, ke9_4⟩ := hRe9_
        obtain ⟨Ae9_0, ce9_0, rfl, hAe9_0⟩ := ke9_0
        obtain ⟨Ae9_1, ce9_1, rfl, hAe9_1⟩ := ke9_1
        obtain ⟨Ae9_2, ce9_2, rfl, hAe9_2⟩ := ke9_2
        obtain ⟨Ae9_3, ce9_3, rfl, hAe9_3⟩ := ke9_3
        obtain ⟨Ae9_4, ce9_4, rfl, hAe9_4⟩ := ke9_4
        refine DT rfl rfl (fun K hk => rw_indexAddr (i) rfl tyE_S_impl_Stream rfl rfl rfl (hA1.some hi7) hi7 hk) <| DT rfl rfl (fun K hk => rw_loadX_s [_, _, _, _, _, _, _, _, _, _, _, _, _, _, _, _, _, _, _, _, _, _, _, _, _, _, _, _, _, _, _, _, _, _, _, _, _, _, _] rfl tyS_impl_Stream rfl rfl (fun w hs => hq9.lds0 (n := 39) hs rfl) hk) <| dw_nil <| CV1 rfl fun_spec_EqualStreams rfl (fun w hs => spec_EqualStreams ⟨_, _, _, _, _, rfl, (hAe6_0.s Pl.keeps hs), (hAe6_1.s Pl.keeps hs), (hAe6_2.s Pl.keeps hs), (hAe6_3.s Pl.keeps hs), (hAe6_4.s Pl.keeps hs)⟩ ⟨hbe6_0, hbe6_1, hbe6_2, hbe6_3, hbe6_4, hbe6_5⟩ ⟨_, _, _, _, _, rfl, (hAe9_0.s Pl.keeps hs), (hAe9_1.s Pl.keeps hs), (hAe9_2.s Pl.keeps hs), (hAe9_3.s Pl.keeps hs), (hAe9_4.s Pl.keeps hs)⟩) <| ?_
        refine NT rfl rfl <| ND <| ?_
        refine gw_cond rfl (fun h3 => ?_) (fun h3 => ?_)
        · replace h3 := of_not_T h3
          refine SQ <| RG <| AS rfl rfl <| ND <| ret_cv Try.func34 (res1 Try.func34 rfl (rv_tmp rfl)) <| ?_
          rw [hI, hd5, hd8]; simp [eqTables, h3]
        · replace h3 := of_not_F h3
          refine SK <| IB <| RG <| MV rfl rfl <| rw_add rfl rfl rfl <| AS rfl rfl <| ND <| ?_
          refine gw_sub (Sub.consE (i := 5) rfl (int_succ (by omega)) (Sub.cons (i := 0) rfl (Sub.cons (i := 1) rfl (Sub.nil _)))) (ih3 (i + 1) ?_ ?_)
          · exact ⟨by omega, by rw [hI, hd5, hd8]; simp [eqTables, h3]⟩
          · show l.length - (i + 1) < l.length - i; omega
      · have hn10 := nil_of_dec h2
        refine EX rfl <| SQ <| RG <| AS rfl rfl <| ND <| ret_cv Try.func34 (res1 Try.func34 rfl (rv_tmp rfl)) <| ?_
        rw [hI, hn10, drop_nil_of hlen2 hn10]; rfl

theorem slices_EqualFunc_Stream {w : World} {v : Value} {l : List Stream} (hv : RdS w 39 RdStream v l) (hb : l.length ≤ 134217728) (hall : ∀ y ∈ l, y.le 134217728) {v1 : Value} {l1 : List Stream} (hv1 : RdS w 39 RdStream v1 l1) : CV Try.prog 98 [v, v1, (.func (.func 31) #[] #[])] w (.bool (eqTables l l1)) := by
  obtain ⟨A, c, rfl, hA⟩ := hv
  obtain ⟨A1, c1, rfl, hA1⟩ := hv1
  refine cv_of Try.func98 rfl rfl rfl <| SQ <| RG <| AS rfl rfl <| ND <| SQ <| SQ <| RG <| MV rfl rfl <| rw_len rfl tyE_S_impl_Stream rfl <| MV rfl rfl <| rw_len rfl tyE_S_impl_Stream rfl <| rw_neq rfl rfl rfl <| ND <| ?_
  refine gw_cond rfl (fun h1 => ?_) (fun h1 => ?_)
  · replace h1 := of_not_T h1
    have hlne1 := len_ne_of h1
    refine SQ <| RG <| AS rfl rfl <| ND <| ret_cv Try.func98 (res1 Try.func98 rfl (rv_tmp rfl)) <| ?_
    rw [eqTables_len _ _ hlne1]
  · replace h1 := of_not_F h1
    have hlen2 := len_eq_of h1
    refine SK <| SQ <| SQ <| RG <| MV rfl rfl <| rw_len rfl tyE_S_impl_Stream rfl <| MV rfl rfl <| ND <| BK <| ?_
    refine gw_loopC (α := Nat) (fun z_ => z_ ≤ l.length ∧ eqTables l l1 = eqTables (l.drop z_) (l1.drop z_)) (fun z_ => l.length - z_) (fun e z_ => (17, .int .i64 (z_ : Int)) :: e) 0 [(1, _), (2, _), (15, _), (16, _)] (Sub.consE rfl rfl (Sub.cons (i := 1) rfl (Sub.cons (i := 2) rfl (Sub.cons (i := 15) rfl (Sub.cons (i := 16) rfl (Sub.nil _)))))) ?_ ?_
    · exact ⟨Nat.zero_le _, rfl⟩
    · rintro i hI3 ih3
      try dsimp only
      obtain ⟨hle, hI⟩ := hI3
      refine SQ <| RG <| rw_lss rfl rfl rfl <| ND <| SQ <| ?_
      refine gw_cond rfl (fun h2 => ?_) (fun h2 => ?_)
      · have hi4 := lt_of_dec h2
        obtain ⟨x5, hx5⟩ := get_of_lt hi4
        have hd5 := drop_cons hx5
        refine SK <| SQ <| BK <| SQ <| RG <| MV rfl rfl <| ?_
        obtain ⟨cse6_, hRe6_, hq6⟩ := hA.get hx5
        obtain ⟨ve6_0, ve6_1, ve6_2, ve6_3, ve6_4, rfl, ke6_0, ke6_1, ke6_2, ke6_3, ke6_4⟩ := hRe6_
        obtain ⟨Ae6_0, ce6_0, rfl, hAe6_0⟩ := ke6_0
        obtain ⟨Ae6_1, ce6_1, rfl, hAe6_1⟩ := ke6_1
        obtain ⟨Ae6_2, ce6_2, rfl, hAe6_2⟩ := ke6_2
        obtain ⟨Ae6_3, ce6_3, rfl, hAe6_3⟩ := ke6_3
        obtain ⟨Ae6_4, ce6_4, rfl, hAe6_4⟩ := ke6_4
        obtain ⟨hbe6_0, hbe6_1, hbe6_2, hbe6_3, hbe6_4, hbe6_5⟩ := hall x5 (List.mem_of_getElem? hx5)
        refine rw_indexAddr (i) rfl tyE_S_impl_Stream rfl rfl rfl (hA.some hi4) hi4 <| rw_loadX_s [_, _, _, _, _, _, _, _, _, _, _, _, _, _, _, _, _, _, _, _, _, _, _, _, _, _, _, _, _, _, _, _, _, _, _, _, _, _, _] rfl tyS_impl_Stream rfl rfl (fun w hs => hq6.lds0 (n := 39) hs rfl) <| AL rfl tyZ_impl_Stream <| fun b1 => AS rfl rfl <| rw_storeN (i := 0) [_, _, _, _, _, _, _, _, _, _, _, _, _, _, _, _, _, _, _, _, _, _, _, _, _, _, _, _, _, _, _, _, _, _, _, _, _, _, _] [_, _, _, _, _, _, _, _, _, _, _, _, _, _, _, _, _, _, _, _, _, _, _, _, _, _, _, _, _, _, _, _, _, _, _, _, _, _, _] [_] tyS_impl_Stream.sz rfl rfl rfl rfl rfl rfl rfl rfl rfl <| ?_
        refine ND <| SQ <| RG <| MV rfl rfl <| MV rfl rfl <| ?_
        have hi7 : i < l1.length := by omega
        obtain ⟨x8, hx8⟩ := get_of_lt hi7
        have hd8 := drop_cons hx8
        obtain ⟨cse9_, hRe9_, hq9⟩ := hA1.get hx8
        obtain ⟨ve9_0, ve9_1, ve9_2, ve9_3, ve9_4, rfl, ke9_0, ke9_1, ke9_2, ke9_3, ke9_4⟩ := hRe9_
        obtain ⟨Ae9_0, ce9_0, rfl, hAe9_0⟩ := ke9_0
        obtain ⟨Ae9_1, ce9_1, rfl, hAe9_1⟩ := ke9_1
        obtain ⟨Ae9_2, ce9_2, rfl, hAe9_2⟩ := ke9_2
        obtain ⟨Ae9_3, ce9_3, rfl, hAe9_3⟩ := ke9_3
        obtain ⟨Ae9_4, ce9_4, rfl, hAe9_4⟩ := ke9_4
        refine rw_indexAddr (i) rfl tyE_S_impl_Stream rfl rfl rfl (hA1.some hi7) hi7 <| rw_loadX_s [_, _, _, _, _, _, _, _, _, _, _, _, _, _, _, _, _, _, _, _, _, _, _, _, _, _, _, _, _, _, _, _, _, _, _, _, _, _, _] rfl tyS_impl_Stream rfl rfl (fun w hs => hq9.lds0 (n := 39) hs rfl) <| AL rfl tyZ_impl_Stream <| fun b2 => rw_storeN (i := 0) [_, _, _, _, _, _, _, _, _, _, _, _, _, _, _, _, _, _, _, _, _, _, _, _, _, _, _, _, _, _, _, _, _, _, _, _, _, _, _] [_, _, _, _, _, _, _, _, _, _, _, _, _, _, _, _, _, _, _, _, _, _, _, _, _, _, _, _, _, _, _, _, _, _, _, _, _, _, _] [_, _] tyS_impl_Stream.sz rfl rfl rfl rfl rfl rfl rfl rfl rfl <| ?_
        refine ND <| SQ <| RG <| MV rfl rfl <| LS (i := 1) [_, _, _, _, _, _, _, _, _, _, _, _, _, _, _, _, _, _, _, _, _, _, _, _, _, _, _, _, _, _, _, _, _, _, _, _, _, _, _] rfl tyS_impl_Stream rfl rfl rfl rfl <| LS (i := 0) [_, _, _, _, _, _, _, _, _, _, _, _, _, _, _, _, _, _, _, _, _, _, _, _, _, _, _, _, _, _, _, _, _, _, _, _, _, _, _] rfl tyS_impl_Stream rfl rfl rfl rfl <| rw_cvF rfl rfl fun_impl_EqualStreams rfl (fun w hs => impl_EqualStreams ⟨_, _, _, _, _, rfl, (hAe6_0.s Pl.keeps hs), (hAe6_1.s Pl.keeps hs), (hAe6_2.s Pl.keeps hs), (hAe6_3.s Pl.keeps hs), (hAe6_4.s Pl.keeps hs)⟩ ⟨hbe6_0, hbe6_1, hbe6_2, hbe6_3, hbe6_4, hbe6_5⟩ ⟨_, _, _, _, _, rfl, (hAe9_0.s Pl.keeps hs), (hAe9_1.s Pl.keeps hs), (hAe9_2.s Pl.keeps hs), (hAe9_3.s Pl.keeps hs), (hAe9_4.s Pl.keeps hs)⟩) <| ?_
        refine NT rfl rfl <| ND <| ?_
        refine gw_cond rfl (fun h3 => ?_) (fun h3 => ?_)
        · replace h3 := of_not_T h3
          refine SQ <| RG <| AS rfl rfl <| ND <| ret_cv Try.func98 (res1 Try.func98 rfl (rv_tmp rfl)) <| ?_
          rw [hI, hd5, hd8]; simp [eqTables, h3]
        · replace h3 := of_not_F h3
          refine SK <| IB <| RG <| rw_add rfl rfl rfl <| MV rfl rfl <| ND <| gw_dropN 2 <| ?_
          refine gw_sub (Sub.consE (i := 17) rfl (int_succ (by omega)) (Sub.cons (i := 1) rfl (Sub.cons (i := 2) rfl (Sub.cons (i := 15) rfl (Sub.cons (i := 16) rfl (Sub.nil _)))))) (ih3 (i + 1) ?_ ?_)
          · exact ⟨by omega, by rw [hI, hd5, hd8]; simp [eqTables, h3]⟩
          · show l.length - (i + 1) < l.length - i; omega
      · have hn10 := nil_of_dec h2
        refine EX rfl <| SQ <| RG <| AS rfl rfl <| ND <| ret_cv Try.func98 (res1 Try.func98 rfl (rv_tmp rfl)) <| ?_
        rw [hI, hn10, drop_nil_of hlen2 hn10]; rfl

theorem impl_EqualTables {w : World} {v : Value} {l : List Stream} (hv : RdS w 39 RdStream v l) (hb : l.length ≤ 134217728) (hall : ∀ y ∈ l, y.le 134217728) {v1 : Value} {l1 : List Stream} (hv1 : RdS w 39 RdStream v1 l1) : CV Try.prog 35 [v, v1] w (.bool (eqTables l l1)) := by
  obtain ⟨A, c, rfl, hA⟩ := hv
  obtain ⟨A1, c1, rfl, hA1⟩ := hv1
  refine cv_of Try.func35 rfl rfl rfl <| SQ <| RG <| AS rfl rfl <| ND <| SQ <| RG <| MV rfl rfl <| MV rfl rfl <| CV1 rfl fun_slices_EqualFunc_S_impl_Stream_S_impl_Stream_impl_Stream_impl_Stream rfl (fun w hs => slices_EqualFunc_Stream (hA.s RdStream.keeps hs) hb hall (hA1.s RdStream.keeps hs) ) <| AS rfl rfl <| ND <| ret_cv Try.func35 (res1 Try.func35 rfl (rv_tmp rfl)) <| ?_
  rfl

theorem law_FnExactEqualTables {w : World} {v : Value} {l : List Stream} (hv : RdS w 39 RdStream v l) (hb : l.length ≤ 9223372036854775807) (hall : ∀ y ∈ l, y.le 9223372036854775807) {v2_ : Value} {m : List Stream} (hv2_ : RdS w 39 RdStream v2_ m) (hb2_ : m.length ≤ 9223372036854775807) (hall2_ : ∀ y ∈ m, y.le 9223372036854775807) : CV Try.prog 8 [v, v2_] w (.bool true) := by
  obtain ⟨A, c, rfl, hA⟩ := hv
  obtain ⟨A2_, c2_, rfl, hA2_⟩ := hv2_
  refine cv_of Try.func8 rfl rfl rfl <| SQ <| RG <| AS rfl rfl <| ND <| SQ <| RG <| AS rfl rfl <| ND <| SQ <| RG <| MV rfl rfl <| MV rfl rfl <| CV1 rfl fun_laws_szStreamS rfl (fun w hs => laws_szStreamS (hA.s RdStream.keeps hs) _ (by first | omega | assumption) (by first | omega | assumption) (by omega) (by omega)) <| AS rfl rfl <| ND <| SQ <| SQ <| RG <| MV rfl rfl <| rw_lss rfl rfl rfl <| ND <| ?_
  refine gw_cond rfl (fun h1 => ?_) (fun h1 => ?_)
  · refine SQ <| RG <| AS rfl rfl <| ND <| ret_cv Try.func8 (res1 Try.func8 rfl (rv_tmp rfl)) <| ?_
    rfl
  · have hnn1 := nn_of h1
    obtain ⟨hle1, hz1_0, hz1_1⟩ := szStreams_ok (by first | omega | assumption) (by first | omega | assumption) (by omega) (by omega) hnn1
    refine SK <| SQ <| RG <| MV rfl rfl <| MV rfl rfl <| CV1 rfl fun_laws_szStreamS rfl (fun w hs => laws_szStreamS (hA2_.s RdStream.keeps hs) _ (by first | omega | assumption) (by first | omega | assumption) (by omega) (by omega)) <| AS rfl rfl <| ND <| SQ <| SQ <| RG <| MV rfl rfl <| rw_lss rfl rfl rfl <| ND <| ?_
    refine gw_cond rfl (fun h2 => ?_) (fun h2 => ?_)
    · refine SQ <| RG <| AS rfl rfl <| ND <| ret_cv Try.func8 (res1 Try.func8 rfl (rv_tmp rfl)) <| ?_
      rfl
    · have hnn2 := nn_of h2
      obtain ⟨hle2, hz2_0, hz2_1⟩ := szStreams_ok (by first | omega | assumption) (by first | omega | assumption) (by omega) (by omega) hnn2
      refine SK <| SQ <| RG <| MV rfl rfl <| CN1 rfl fun_laws_toStreamS rfl (fun w hs => laws_toStreamS (hA.s RdStream.keeps hs) hz1_0 hz1_1) <| fun v3 ch3 how3 => ?_
      obtain ⟨R3, rc3, rfl, hR3, hrd3⟩ := how3.shape eStream
      refine MV rfl rfl <| CN1 rfl fun_laws_toStreamS rfl (fun w hs => laws_toStreamS (hA2_.s RdStream.keeps hs) hz2_0 hz2_1) <| fun v4 ch4 how4 => ?_
      obtain ⟨R4, rc4, rfl, hR4, hrd4⟩ := how4.shape eStream
      refine CV1 rfl fun_spec_EqualTables rfl (fun w hs => spec_EqualTables ⟨_, _, rfl, hrd3 _ (fun c hc => hs.at_ c (List.mem_append_right _ (List.mem_append_right _ (List.mem_append_left _ hc))))⟩ hz1_0 hz1_1 ⟨_, _, rfl, hrd4 _ (fun c hc => hs.at_ c (List.mem_append_right _ (List.mem_append_left _ hc)))⟩ ) <| AS rfl rfl <| ND <| SQ <| RG <| MV rfl rfl <| CN1 rfl fun_laws_toStreamS rfl (fun w hs => laws_toStreamS (hA.s RdStream.keeps hs) hz1_0 hz1_1) <| fun v5 ch5 how5 => ?_
      obtain ⟨R5, rc5, rfl, hR5, hrd5⟩ := how5.shape eStream
      refine AS rfl rfl <| ND <| SQ <| RG <| MV rfl rfl <| CN1 rfl fun_laws_toStreamS rfl (fun w hs => laws_toStreamS (hA2_.s RdStream.keeps hs) hz2_0 hz2_1) <| fun v6 ch6 how6 => ?_
      obtain ⟨R6, rc6, rfl, hR6, hrd6⟩ := how6.shape eStream
      refine AS rfl rfl <| ND <| SQ <| RG <| MV rfl rfl <| MV rfl rfl <| CV1 rfl fun_impl_EqualTables rfl (fun w hs => impl_EqualTables ⟨_, _, rfl, hrd5 _ (fun c hc => hs.at_ c (List.mem_append_right _ (List.mem_append_right _ (List.mem_append_left _ hc))))⟩ hz1_0 hz1_1 ⟨_, _, rfl, hrd6 _ (fun c hc => hs.at_ c (List.mem_append_right _ (List.mem_append_left _ hc)))⟩ ) <| AS rfl rfl <| ND <| SQ <| SQ <| RG <| MV rfl rfl <| MV rfl rfl <| rw_neqSelfB (by kernel_rfl) rfl rfl rfl <| ND <| CF rfl rfl <| SK <| SQ <| SQ <| RG <| ?_
      refine MV rfl rfl <| MV rfl rfl <| CN1 rfl fun_laws_toStreamS rfl (fun w hs => laws_toStreamS (hA.s RdStream.keeps hs) hz1_0 hz1_1) <| fun v7 ch7 how7 => ?_
      obtain ⟨R7, rc7, rfl, hR7, hrd7⟩ := how7.shape eStream
      refine CV1 rfl fun_laws_eqStreamS rfl (fun w hs => laws_eqStreamS ⟨_, _, rfl, hrd5 _ (fun c hc => hs.at_ c (List.mem_append_right _ (List.mem_append_right _ (List.mem_append_right _ (List.mem_append_left _ hc)))))⟩ hz1_0 hz1_1 ⟨_, _, rfl, hrd7 _ (fun c hc => hs.at_ c (List.mem_append_right _ (List.mem_append_left _ hc)))⟩) <| NT rfl rfl <| ND <| CF rfl rfl <| SK <| SQ <| SQ <| RG <| MV rfl rfl <| MV rfl rfl <| CN1 rfl fun_laws_toStreamS rfl (fun w hs => laws_toStreamS (hA2_.s RdStream.keeps hs) hz2_0 hz2_1) <| fun v8 ch8 how8 => ?_
      obtain ⟨R8, rc8, rfl, hR8, hrd8⟩ := how8.shape eStream
      refine CV1 rfl fun_laws_eqStreamS rfl (fun w hs => laws_eqStreamS ⟨_, _, rfl, hrd6 _ (fun c hc => hs.at_ c (List.mem_append_right _ (List.mem_append_right _ (List.mem_append_right _ (List.mem_append_left _ hc)))))⟩ hz2_0 hz2_1 ⟨_, _, rfl, hrd8 _ (fun c hc => hs.at_ c (List.mem_append_right _ (List.mem_append_left _ hc)))⟩) <| NT rfl rfl <| ND <| CF rfl rfl <| SK <| SQ <| RG <| AS rfl rfl <| ND <| ret_cv Try.func8 (res1 Try.func8 rfl (rv_tmp rfl)) <| ?_
      rfl
end Go.Proofs.Ytmoegjhihjgmgaa
