/- Walks: copies, marks. -/
import Derived.Test.YtildklpahfbnpaaWY
import Derived.Test.YtildklpahfbnpaaPut
import Derived.Test.YtildklpahfbnpaaFactsZ38
namespace Go.Proofs.Ytildklpahfbnpaa
open SL Go.RowKit
theorem drop_set_nil {l : List Stream} {n i : Nat} {x : Stream} (h : l.drop i = []) : (l.set n x).drop i = [] := by
  rw [List.drop_eq_nil_iff] at h ⊢
  rw [List.length_set]; exact h

theorem ne_neg {i : Nat} {a : Int} (h : a = -1) : ((i : Int) == a) = false := by rw [h, beq_eq_false_iff_ne]; omega

set_option maxHeartbeats 4000000 in
set_option maxRecDepth 20000 in
theorem spec_PutStream_T {w : World} {v : Value} {l : List Stream} (hv : RdS w 39 RdStream v l) (hb : l.length ≤ 1048576) (hall : ∀ x ∈ l, x.le 1048576) {cs : List Value} {x : Stream} (hvx : RdStream w cs x) (hbx : x.le 1048576) {n : Nat} {y : Stream} (hf : findStream l x.id = (n : Int)) (hs_ : l[n]? = some y) : CN Try.prog 19 [v, .agg cs.toArray] w (fun v ch => OwS 56 39 OwStream v (l.set n x) ch) := by
  obtain ⟨A, c, rfl, hA⟩ := hv
  obtain ⟨vx_0, vx_1, vx_2, vx_3, vx_4, rfl, kx_0, kx_1, kx_2, kx_3, kx_4⟩ := hvx
  obtain ⟨Ax_0, cx_0, rfl, hAx_0⟩ := kx_0
  obtain ⟨Ax_1, cx_1, rfl, hAx_1⟩ := kx_1
  obtain ⟨Ax_2, cx_2, rfl, hAx_2⟩ := kx_2
  obtain ⟨Ax_3, cx_3, rfl, hAx_3⟩ := kx_3
  obtain ⟨Ax_4, cx_4, rfl, hAx_4⟩ := kx_4
  obtain ⟨hbx_0, hbx_1, hbx_2, hbx_3, hbx_4, hbx_5⟩ := hbx
  refine cn_of Try.func19 rfl rfl rfl <| SQ <| RG <| BX [_, _, _, _, _, _, _, _, _, _, _, _, _, _, _, _, _, _, _, _, _, _, _, _, _, _, _, _, _, _, _, _, _, _, _, _, _, _, _] rfl rfl rfl <| fun b1 => AS rfl rfl <| ND <| SQ <| RG <| rw_slice0 rfl tyM_S_impl_Stream OwStream <| fun v1 how1 => AS rfl rfl <| ND <| SQ <| RG <| MV rfl rfl <| FA rfl tyF_impl_Stream_0 rfl <| LD (i := 0) rfl tyP_int rfl rfl rfl <| CV1 rfl fun_spec_FindStream rfl (fun w hs => spec_FindStream (hA.s RdStream.keeps hs) hb _) <| AS rfl rfl <| ?_
  refine ND <| SQ <| RG <| MV rfl rfl <| rw_geq rfl rfl rfl <| AS rfl rfl <| ND <| SQ <| SQ <| RG <| AS rfl rfl <| ND <| BK <| ?_
  refine gw_loopX (α := Nat × Value × List Ck) (fun z_ => z_.1 ≤ l.length ∧ OwA 56 39 OwStream z_.2.1 ((l.set n x).take z_.1) z_.2.2) (fun z_ => l.length - z_.1) (fun e z_ => (8, .int .i64 (z_.1 : Int)) :: (5, z_.2.1) :: e) (fun B _ => B) (fun F z_ => z_.2.2 ++ ([])) (0, v1, []) [(0, _), (3, _), (4, _), (6, _), (7, _)] (Sub.consE rfl rfl (Sub.consE rfl rfl (Sub.cons (i := 0) rfl (Sub.cons (i := 3) rfl (Sub.cons (i := 4) rfl (Sub.cons (i := 6) rfl (Sub.cons (i := 7) rfl (Sub.nil _)))))))) rfl rfl ?_ ?_
  · exact ⟨Nat.zero_le _, how1⟩
  · rintro ⟨i, v, ch⟩ hI2 ih2
    dsimp only at hI2
    dsimp only
    obtain ⟨hle, hO⟩ := hI2
    refine SQ <| SQ <| RG <| MV rfl rfl <| MV rfl rfl <| rw_len rfl tyE_S_impl_Stream rfl <| rw_lss rfl rfl rfl <| ND <| ?_
    refine gw_cond rfl (fun h1 => ?_) (fun h1 => ?_)
    · have hi3 := lt_of_dec h1
      obtain ⟨x4, hx4⟩ := get_of_lt hi3
      have hd4 := drop_cons hx4
      refine SK <| SQ <| BK <| SQ <| RG <| MV rfl rfl <| MV rfl rfl <| ?_
      obtain ⟨cse5_, hRe5_, hq5⟩ := hA.get hx4
      obtain ⟨ve5_0, ve5_1, ve5_2, ve5_3, ve5_4, rfl, ke5_0, ke5_1, ke5_2, ke5_3, ke5_4⟩ := hRe5_
      obtain ⟨Ae5_0, ce5_0, rfl, hAe5_0⟩ := ke5_0
      obtain ⟨Ae5_1, ce5_1, rfl, hAe5_1⟩ := ke5_1
      obtain ⟨Ae5_2, ce5_2, rfl, hAe5_2⟩ := ke5_2
      obtain ⟨Ae5_3, ce5_3, rfl, hAe5_3⟩ := ke5_3
      obtain ⟨Ae5_4, ce5_4, rfl, hAe5_4⟩ := ke5_4
      obtain ⟨hbe5_0, hbe5_1, hbe5_2, hbe5_3, hbe5_4, hbe5_5⟩ := hall x4 (List.mem_of_getElem? hx4)
      refine rw_indexAddr (i) rfl tyE_S_impl_Stream rfl rfl rfl (hA.some hi3) hi3 <| rw_loadX_s [_, _, _, _, _, _, _, _, _, _, _, _, _, _, _, _, _, _, _, _, _, _, _, _, _, _, _, _, _, _, _, _, _, _, _, _, _, _, _] rfl tyS_impl_Stream rfl rfl (fun w hs => hq5.lds0 (n := 39) hs rfl) <| CN1 rfl fun_spec_l15Copy rfl (fun w hs => spec_l15Copy ⟨_, _, _, _, _, rfl, (hAe5_0.s Pl.keeps hs), (hAe5_1.s Pl.keeps hs), (hAe5_2.s Pl.keeps hs), (hAe5_3.s Pl.keeps hs), (hAe5_4.s Pl.keeps hs)⟩ ⟨hbe5_0, hbe5_1, hbe5_2, hbe5_3, hbe5_4, hbe5_5⟩) <| fun vv6 ch6 how6 => ?_
      obtain ⟨cs6, rfl, v6_0, v6_1, v6_2, v6_3, v6_4, c6_0, c6_1, c6_2, c6_3, c6_4, rfl, h6_0, h6_1, h6_2, h6_3, h6_4, rfl⟩ := how6
      refine rw_F (F' := c6_0 ++ (c6_1 ++ (c6_2 ++ (c6_3 ++ (c6_4 ++ (ch ++ ([]))))))) (by simp only [List.append_assoc]) <| ?_
      obtain ⟨R6_0, b6_0, rfl, hR6_0, hrd6_0⟩ := h6_0.shape eInt
      obtain ⟨R6_1, b6_1, rfl, hR6_1, hrd6_1⟩ := h6_1.shape eRange
      obtain ⟨R6_2, b6_2, rfl, hR6_2, hrd6_2⟩ := h6_2.shape eRange
      obtain ⟨R6_3, b6_3, rfl, hR6_3, hrd6_3⟩ := h6_3.shape eRange
      obtain ⟨R6_4, b6_4, rfl, hR6_4, hrd6_4⟩ := h6_4.shape eChunk
      refine AL rfl tyZ_impl_Stream <| fun b2 => rw_storeN (i := 0) [_, _, _, _, _, _, _, _, _, _, _, _, _, _, _, _, _, _, _, _, _, _, _, _, _, _, _, _, _, _, _, _, _, _, _, _, _, _, _] [_, _, _, _, _, _, _, _, _, _, _, _, _, _, _, _, _, _, _, _, _, _, _, _, _, _, _, _, _, _, _, _, _, _, _, _, _, _, _] [_, _] tyS_impl_Stream.sz rfl rfl rfl rfl rfl rfl rfl rfl rfl <| ND <| SQ <| SQ <| RG <| MV rfl rfl <| MV rfl rfl <| EQ1 rfl rfl rfl <| ND <| ?_
      refine gw_cond rfl (fun h2 => ?_) (fun h2 => ?_)
      · refine RG <| LS (i := 1) [_, _, _, _, _, _, _, _, _, _, _, _, _, _, _, _, _, _, _, _, _, _, _, _, _, _, _, _, _, _, _, _, _, _, _, _, _, _, _] rfl tyS_impl_Stream rfl rfl rfl rfl <| CN1 rfl fun_spec_l15Copy rfl (fun w hs => spec_l15Copy ⟨_, _, _, _, _, rfl, (hAx_0.s Pl.keeps hs), (hAx_1.s Pl.keeps hs), (hAx_2.s Pl.keeps hs), (hAx_3.s Pl.keeps hs), (hAx_4.s Pl.keeps hs)⟩ ⟨hbx_0, hbx_1, hbx_2, hbx_3, hbx_4, hbx_5⟩) <| fun vv7 ch7 how7 => ?_
        obtain ⟨cs7, rfl, v7_0, v7_1, v7_2, v7_3, v7_4, c7_0, c7_1, c7_2, c7_3, c7_4, rfl, h7_0, h7_1, h7_2, h7_3, h7_4, rfl⟩ := how7
        refine rw_F (F' := c7_0 ++ (c7_1 ++ (c7_2 ++ (c7_3 ++ (c7_4 ++ (c6_0 ++ (c6_1 ++ (c6_2 ++ (c6_3 ++ (c6_4 ++ (ch ++ ([])))))))))))) (by simp only [List.append_assoc]) <| ?_
        obtain ⟨R7_0, b7_0, rfl, hR7_0, hrd7_0⟩ := h7_0.shape eInt
        obtain ⟨R7_1, b7_1, rfl, hR7_1, hrd7_1⟩ := h7_1.shape eRange
        obtain ⟨R7_2, b7_2, rfl, hR7_2, hrd7_2⟩ := h7_2.shape eRange
        obtain ⟨R7_3, b7_3, rfl, hR7_3, hrd7_3⟩ := h7_3.shape eRange
        obtain ⟨R7_4, b7_4, rfl, hR7_4, hrd7_4⟩ := h7_4.shape eChunk
        refine rw_storeN (i := 0) [_, _, _, _, _, _, _, _, _, _, _, _, _, _, _, _, _, _, _, _, _, _, _, _, _, _, _, _, _, _, _, _, _, _, _, _, _, _, _] [_, _, _, _, _, _, _, _, _, _, _, _, _, _, _, _, _, _, _, _, _, _, _, _, _, _, _, _, _, _, _, _, _, _, _, _, _, _, _] [_, _] tyS_impl_Stream.sz rfl rfl rfl rfl rfl rfl rfl rfl rfl <| ND <| RG <| MV rfl rfl <| LS (i := 0) [_, _, _, _, _, _, _, _, _, _, _, _, _, _, _, _, _, _, _, _, _, _, _, _, _, _, _, _, _, _, _, _, _, _, _, _, _, _, _] rfl tyS_impl_Stream rfl rfl rfl rfl <| rw_slice1F (xs := [(0, _)]) [_, _, _, _, _, _, _, _, _, _, _, _, _, _, _, _, _, _, _, _, _, _, _, _, _, _, _, _, _, _, _, _, _, _, _, _, _, _, _] rfl tyM_S_impl_Stream rfl rfl rfl <| fun v8 ch8 how8 => ?_
        obtain ⟨bl8, rfl, hch8⟩ := how8
        have hpm10 : (ch8 ++ (c7_0 ++ (c7_1 ++ (c7_2 ++ (c7_3 ++ (c7_4 ++ (c6_0 ++ (c6_1 ++ (c6_2 ++ (c6_3 ++ (c6_4 ++ (ch ++ ([]))))))))))))).Perm (ch ++ ((c7_0 ++ (c7_1 ++ (c7_2 ++ (c7_3 ++ (c7_4))))) ++ (ch8 ++ (c6_0 ++ (c6_1 ++ (c6_2 ++ (c6_3 ++ (c6_4 ++ ([]))))))))) := by
          refine List.Perm.trans ((((((((((((((((((((((((((((((((((((List.Perm.refl _)).append_left _).trans (pullc _ _ _))).append_left _).trans (pullc _ _ _))).append_left _).trans (pullc _ _ _))).append_left _).trans (pullc _ _ _))).append_left _).trans (pullc _ _ _))).append_left _).trans (pullc _ _ _))).append_left _).trans (pullc _ _ _))).append_left _).trans (pullc _ _ _))).append_left _).trans (pullc _ _ _))).append_left _).trans (pullc _ _ _))).append_left _).trans (pullc _ _ _)).trans ((((((List.Perm.refl _)).append_left _).trans (pullc _ _ _)).trans ((((((List.Perm.refl _)).append_left _).trans (pullc _ _ _)).trans ((((((List.Perm.refl _)).append_left _).trans (pullc _ _ _)).trans ((((((List.Perm.refl _)).append_left _).trans (pullc _ _ _)).trans ((((((List.Perm.refl _)).append_left _).trans (pullc _ _ _)).trans ((List.Perm.refl _).append_left _)).append_left _)).append_left _)).append_left _)).append_left _)).append_left _)) : (ch8 ++ (c7_0 ++ (c7_1 ++ (c7_2 ++ (c7_3 ++ (c7_4 ++ (c6_0 ++ (c6_1 ++ (c6_2 ++ (c6_3 ++ (c6_4 ++ (ch ++ ([]))))))))))))).Perm (ch ++ (c7_0 ++ (c7_1 ++ (c7_2 ++ (c7_3 ++ (c7_4 ++ (ch8 ++ (c6_0 ++ (c6_1 ++ (c6_2 ++ (c6_3 ++ (c6_4 ++ ([])))))))))))))) (List.Perm.of_eq ?_)
          simp only [List.append_assoc, List.nil_append]
        refine rw_append1F (a := x) (ch2 := c7_0 ++ (c7_1 ++ (c7_2 ++ (c7_3 ++ (c7_4))))) (F2 := ch8 ++ (c6_0 ++ (c6_1 ++ (c6_2 ++ (c6_3 ++ (c6_4 ++ ([]))))))) rfl tyM_S_impl_Stream eStream rfl rfl (mem_ch hch8 (fun c hc => List.mem_append_left _ hc)) hO ⟨_, _, _, _, _, _, _, _, _, _, rfl, h7_0, h7_1, h7_2, h7_3, h7_4, rfl⟩ hpm10 (by first | omega | (simp only [List.length_take, List.length_set, List.length_append, List.length_cons, List.length_nil]; omega)) <| fun v9 ch9 how9 => AS rfl rfl <| ND <| IB <| RG <| MV rfl rfl <| rw_add rfl rfl rfl <| AS rfl rfl <| ND <| ?_
        refine gw_dropF (F' := ch9 ++ ([])) (List.Sublist.append_left (List.nil_sublist _) _) <| gw_dropN 1 <| ?_
        refine gw_sub (Sub.consE (i := 8) rfl (int_succ (by omega)) (Sub.consE (i := 5) rfl rfl (Sub.cons (i := 0) rfl (Sub.cons (i := 3) rfl (Sub.cons (i := 4) rfl (Sub.cons (i := 6) rfl (Sub.cons (i := 7) rfl (Sub.nil _)))))))) (ih2 (i + 1, v9, ch9) ?_ ?_)
        · exact ⟨by omega, by rw [take_snoc (set_take' hx4 (by rw [← hf]; exact h2))]; exact how9⟩
        · show l.length - (i + 1) < l.length - i; omega
      · refine SQ <| gw_draw' [(0, .det), (1, .det), (2, .det), (3, .det), (4, .det), (5, .det), (6, .det), (7, .det), (8, .det), (9, .det)] [10, 11] mixed rfl (free_det (free_det (free_det (free_det (free_det (free_det (free_det (free_det (free_det (free_det free_nil)))))))))) (ts := [_, _]) rfl <| DT rfl rfl (fun K hk => MV rfl rfl hk) <| DT rfl rfl (fun K hk => NT rfl rfl hk) <| DT rfl rfl (fun K hk => MV rfl rfl hk) <| DT rfl rfl (fun K hk => OF rfl rfl (not_T (at_pos hf)) rfl hk) <| DT rfl rfl (fun K hk => OF rfl rfl (not_T (at_pos hf)) rfl hk) <| ?_
        refine DT rfl rfl (fun K hk => OF rfl rfl (not_T (at_pos hf)) rfl hk) <| DT rfl rfl (fun K hk => OF rfl rfl (not_T (at_pos hf)) rfl hk) <| DT rfl rfl (fun K hk => OF rfl rfl (not_T (at_pos hf)) rfl hk) <| DT rfl rfl (fun K hk => OF rfl rfl (not_T (at_pos hf)) rfl hk) <| DT rfl rfl (fun K hk => OF rfl rfl (not_T (at_pos hf)) rfl hk) <| dw_nil <| OF rfl rfl (not_T (at_pos hf)) rfl <| PF rfl rfl (not_T (at_pos hf)) rfl <| ND <| CF rfl rfl <| SK <| RG <| MV rfl rfl <| LS (i := 0) [_, _, _, _, _, _, _, _, _, _, _, _, _, _, _, _, _, _, _, _, _, _, _, _, _, _, _, _, _, _, _, _, _, _, _, _, _, _, _] rfl tyS_impl_Stream rfl rfl rfl rfl <| ?_
        refine rw_slice1F (xs := [(0, _)]) [_, _, _, _, _, _, _, _, _, _, _, _, _, _, _, _, _, _, _, _, _, _, _, _, _, _, _, _, _, _, _, _, _, _, _, _, _, _, _] rfl tyM_S_impl_Stream rfl rfl rfl <| fun v11 ch11 how11 => ?_
        obtain ⟨bl11, rfl, hch11⟩ := how11
        have hpm13 : (ch11 ++ (c6_0 ++ (c6_1 ++ (c6_2 ++ (c6_3 ++ (c6_4 ++ (ch ++ ([])))))))).Perm (ch ++ ((c6_0 ++ (c6_1 ++ (c6_2 ++ (c6_3 ++ (c6_4))))) ++ (ch11 ++ ([])))) := by
          refine List.Perm.trans (((((((((((((((((((((List.Perm.refl _)).append_left _).trans (pullc _ _ _))).append_left _).trans (pullc _ _ _))).append_left _).trans (pullc _ _ _))).append_left _).trans (pullc _ _ _))).append_left _).trans (pullc _ _ _))).append_left _).trans (pullc _ _ _)).trans ((((((List.Perm.refl _)).append_left _).trans (pullc _ _ _)).trans ((((((List.Perm.refl _)).append_left _).trans (pullc _ _ _)).trans ((((((List.Perm.refl _)).append_left _).trans (pullc _ _ _)).trans ((((((List.Perm.refl _)).append_left _).trans (pullc _ _ _)).trans ((((((List.Perm.refl _)).append_left _).trans (pullc _ _ _)).trans ((List.Perm.refl _).append_left _)).append_left _)).append_left _)).append_left _)).append_left _)).append_left _)) : (ch11 ++ (c6_0 ++ (c6_1 ++ (c6_2 ++ (c6_3 ++ (c6_4 ++ (ch ++ ([])))))))).Perm (ch ++ (c6_0 ++ (c6_1 ++ (c6_2 ++ (c6_3 ++ (c6_4 ++ (ch11 ++ ([]))))))))) (List.Perm.of_eq ?_)
          simp only [List.append_assoc, List.nil_append]
        refine rw_append1F (a := x4) (ch2 := c6_0 ++ (c6_1 ++ (c6_2 ++ (c6_3 ++ (c6_4))))) (F2 := ch11 ++ ([])) rfl tyM_S_impl_Stream eStream rfl rfl (mem_ch hch11 (fun c hc => List.mem_append_left _ hc)) hO ⟨_, _, _, _, _, _, _, _, _, _, rfl, h6_0, h6_1, h6_2, h6_3, h6_4, rfl⟩ hpm13 (by first | omega | (simp only [List.length_take, List.length_set, List.length_append, List.length_cons, List.length_nil]; omega)) <| fun v12 ch12 how12 => AS rfl rfl <| ND <| IB <| RG <| MV rfl rfl <| rw_add rfl rfl rfl <| AS rfl rfl <| ND <| ?_
        refine gw_dropF (F' := ch12 ++ ([])) (List.Sublist.append_left (List.nil_sublist _) _) <| gw_dropN 1 <| ?_
        refine gw_sub (Sub.consE (i := 8) rfl (int_succ (by omega)) (Sub.consE (i := 5) rfl rfl (Sub.cons (i := 0) rfl (Sub.cons (i := 3) rfl (Sub.cons (i := 4) rfl (Sub.cons (i := 6) rfl (Sub.cons (i := 7) rfl (Sub.nil _)))))))) (ih2 (i + 1, v12, ch12) ?_ ?_)
        · exact ⟨by omega, by rw [take_snoc (set_take hx4 (by rw [← hf]; exact h2))]; exact how12⟩
        · show l.length - (i + 1) < l.length - i; omega
    · have hn14 := nil_of_dec h1
      refine EX rfl <| SQ <| SQ <| RG <| MV rfl rfl <| NT rfl rfl <| ND <| CF rfl (not_T (at_pos hf)) <| SK <| SQ <| RG <| MV rfl rfl <| AS rfl rfl <| ND <| ?_
      refine ret_cn ch Try.func19 (res1 Try.func19 rfl (rv_tmp rfl)) ?_ ?_
      · rw [take_all (drop_set_nil hn14)] at hO; exact OwA.s hO
      · exact (List.sublist_append_left _ _).trans (List.sublist_append_right _ _)

set_option maxHeartbeats 4000000 in
set_option maxRecDepth 20000 in
theorem spec_PutStream_F {w : World} {v : Value} {l : List Stream} (hv : RdS w 39 RdStream v l) (hb : l.length ≤ 1048576) (hall : ∀ x ∈ l, x.le 1048576) {cs : List Value} {x : Stream} (hvx : RdStream w cs x) (hbx : x.le 1048576) (hf : findStream l x.id = -1) : CN Try.prog 19 [v, .agg cs.toArray] w (fun v ch => OwS 56 39 OwStream v (insGo x false l) ch) := by
  obtain ⟨A, c, rfl, hA⟩ := hv
  obtain ⟨vx_0, vx_1, vx_2, vx_3, vx_4, rfl, kx_0, kx_1, kx_2, kx_3, kx_4⟩ := hvx
  obtain ⟨Ax_0, cx_0, rfl, hAx_0⟩ := kx_0
  obtain ⟨Ax_1, cx_1, rfl, hAx_1⟩ := kx_1
  obtain ⟨Ax_2, cx_2, rfl, hAx_2⟩ := kx_2
  obtain ⟨Ax_3, cx_3, rfl, hAx_3⟩ := kx_3
  obtain ⟨Ax_4, cx_4, rfl, hAx_4⟩ := kx_4
  obtain ⟨hbx_0, hbx_1, hbx_2, hbx_3, hbx_4, hbx_5⟩ := hbx
  refine cn_of Try.func19 rfl rfl rfl <| SQ <| RG <| BX [_, _, _, _, _, _, _, _, _, _, _, _, _, _, _, _, _, _, _, _, _, _, _, _, _, _, _, _, _, _, _, _, _, _, _, _, _, _, _] rfl rfl rfl <| fun b1 => AS rfl rfl <| ND <| SQ <| RG <| rw_slice0 rfl tyM_S_impl_Stream OwStream <| fun v1 how1 => AS rfl rfl <| ND <| SQ <| RG <| MV rfl rfl <| FA rfl tyF_impl_Stream_0 rfl <| LD (i := 0) rfl tyP_int rfl rfl rfl <| CV1 rfl fun_spec_FindStream rfl (fun w hs => spec_FindStream (hA.s RdStream.keeps hs) hb _) <| AS rfl rfl <| ?_
  refine ND <| SQ <| RG <| MV rfl rfl <| rw_geq rfl rfl rfl <| AS rfl rfl <| ND <| SQ <| SQ <| RG <| AS rfl rfl <| ND <| BK <| ?_
  refine gw_loopX (α := Nat × Value × List Ck × List Stream × Bool) (fun z_ => z_.1 ≤ l.length ∧ OwA 56 39 OwStream z_.2.1 z_.2.2.2.1 z_.2.2.1 ∧ insGo x false l = z_.2.2.2.1 ++ insGo x z_.2.2.2.2 (l.drop z_.1) ∧ z_.2.2.2.1.length ≤ 2 * z_.1) (fun z_ => l.length - z_.1) (fun e z_ => (8, .int .i64 (z_.1 : Int)) :: (5, z_.2.1) :: (7, .bool z_.2.2.2.2) :: e) (fun B _ => B) (fun F z_ => z_.2.2.1 ++ ([])) (0, v1, [], [], decide (0 ≤ findStream l x.id)) [(0, _), (3, _), (4, _), (6, _)] (Sub.consE rfl rfl (Sub.consE rfl rfl (Sub.consE rfl rfl (Sub.cons (i := 0) rfl (Sub.cons (i := 3) rfl (Sub.cons (i := 4) rfl (Sub.cons (i := 6) rfl (Sub.nil _)))))))) rfl rfl ?_ ?_
  · exact ⟨Nat.zero_le _, how1, by rw [at_neg hf]; rfl, Nat.zero_le _⟩
  · rintro ⟨i, v, ch, o, pl⟩ hI2 ih2
    dsimp only at hI2
    dsimp only
    obtain ⟨hle, hO, hI, hlo⟩ := hI2
    refine SQ <| SQ <| RG <| MV rfl rfl <| MV rfl rfl <| rw_len rfl tyE_S_impl_Stream rfl <| rw_lss rfl rfl rfl <| ND <| ?_
    refine gw_cond rfl (fun h1 => ?_) (fun h1 => ?_)
    · have hi3 := lt_of_dec h1
      obtain ⟨x4, hx4⟩ := get_of_lt hi3
      have hd4 := drop_cons hx4
      refine SK <| SQ <| BK <| SQ <| RG <| MV rfl rfl <| MV rfl rfl <| ?_
      obtain ⟨cse5_, hRe5_, hq5⟩ := hA.get hx4
      obtain ⟨ve5_0, ve5_1, ve5_2, ve5_3, ve5_4, rfl, ke5_0, ke5_1, ke5_2, ke5_3, ke5_4⟩ := hRe5_
      obtain ⟨Ae5_0, ce5_0, rfl, hAe5_0⟩ := ke5_0
      obtain ⟨Ae5_1, ce5_1, rfl, hAe5_1⟩ := ke5_1
      obtain ⟨Ae5_2, ce5_2, rfl, hAe5_2⟩ := ke5_2
      obtain ⟨Ae5_3, ce5_3, rfl, hAe5_3⟩ := ke5_3
      obtain ⟨Ae5_4, ce5_4, rfl, hAe5_4⟩ := ke5_4
      obtain ⟨hbe5_0, hbe5_1, hbe5_2, hbe5_3, hbe5_4, hbe5_5⟩ := hall x4 (List.mem_of_getElem? hx4)
      refine rw_indexAddr (i) rfl tyE_S_impl_Stream rfl rfl rfl (hA.some hi3) hi3 <| rw_loadX_s [_, _, _, _, _, _, _, _, _, _, _, _, _, _, _, _, _, _, _, _, _, _, _, _, _, _, _, _, _, _, _, _, _, _, _, _, _, _, _] rfl tyS_impl_Stream rfl rfl (fun w hs => hq5.lds0 (n := 39) hs rfl) <| CN1 rfl fun_spec_l15Copy rfl (fun w hs => spec_l15Copy ⟨_, _, _, _, _, rfl, (hAe5_0.s Pl.keeps hs), (hAe5_1.s Pl.keeps hs), (hAe5_2.s Pl.keeps hs), (hAe5_3.s Pl.keeps hs), (hAe5_4.s Pl.keeps hs)⟩ ⟨hbe5_0, hbe5_1, hbe5_2, hbe5_3, hbe5_4, hbe5_5⟩) <| fun vv6 ch6 how6 => ?_
      obtain ⟨cs6, rfl, v6_0, v6_1, v6_2, v6_3, v6_4, c6_0, c6_1, c6_2, c6_3, c6_4, rfl, h6_0, h6_1, h6_2, h6_3, h6_4, rfl⟩ := how6
      refine rw_F (F' := c6_0 ++ (c6_1 ++ (c6_2 ++ (c6_3 ++ (c6_4 ++ (ch ++ ([]))))))) (by simp only [List.append_assoc]) <| ?_
      obtain ⟨R6_0, b6_0, rfl, hR6_0, hrd6_0⟩ := h6_0.shape eInt
      obtain ⟨R6_1, b6_1, rfl, hR6_1, hrd6_1⟩ := h6_1.shape eRange
      obtain ⟨R6_2, b6_2, rfl, hR6_2, hrd6_2⟩ := h6_2.shape eRange
      obtain ⟨R6_3, b6_3, rfl, hR6_3, hrd6_3⟩ := h6_3.shape eRange
      obtain ⟨R6_4, b6_4, rfl, hR6_4, hrd6_4⟩ := h6_4.shape eChunk
      refine AL rfl tyZ_impl_Stream <| fun b2 => rw_storeN (i := 0) [_, _, _, _, _, _, _, _, _, _, _, _, _, _, _, _, _, _, _, _, _, _, _, _, _, _, _, _, _, _, _, _, _, _, _, _, _, _, _] [_, _, _, _, _, _, _, _, _, _, _, _, _, _, _, _, _, _, _, _, _, _, _, _, _, _, _, _, _, _, _, _, _, _, _, _, _, _, _] [_, _] tyS_impl_Stream.sz rfl rfl rfl rfl rfl rfl rfl rfl rfl <| ND <| SQ <| SQ <| RG <| MV rfl rfl <| MV rfl rfl <| EQ1 rfl rfl rfl <| ND <| CF rfl (ne_neg hf) <| SQ <| gw_draw' [(0, .det), (1, .det), (2, .det), (3, .det), (4, .det), (5, .det), (6, .det), (7, .det), (8, .det), (9, .det)] [10, 11] mixed rfl (free_det (free_det (free_det (free_det (free_det (free_det (free_det (free_det (free_det (free_det free_nil)))))))))) (ts := [_, _]) rfl <| ?_
      refine DT rfl rfl (fun K hk => MV rfl rfl hk) <| DT rfl rfl (fun K hk => NT rfl rfl hk) <| DT rfl rfl (fun K hk => MV rfl rfl hk) <| ?_
      refine dw_case (i := 37) rfl (fun h2 => ?_) (fun h2 => ?_)
      · replace h2 := of_not_T h2
        refine DT rfl rfl (fun K hk => ON rfl rfl (not_F h2) (MV rfl rfl hk)) <| DT rfl rfl (fun K hk => ON rfl rfl (not_F h2) (MV rfl rfl hk)) <| DT rfl rfl (fun K hk => ON rfl rfl (not_F h2) (rw_indexAddr (i) rfl tyE_S_impl_Stream rfl rfl rfl (hA.some hi3) hi3 hk)) <| DT rfl rfl (fun K hk => ON rfl rfl (not_F h2) (FX rfl tyF_impl_Stream_0 rfl hk)) <| DT rfl rfl (fun K hk => ON rfl rfl (not_F h2) (rw_loadX _ rfl tyP_int rfl (fun w hs => hq5.ld hs rfl) hk)) <| DT rfl rfl (fun K hk => ON rfl rfl (not_F h2) (FA rfl tyF_impl_Stream_0 rfl hk)) <| ?_
        refine DT rfl rfl (fun K hk => ON rfl rfl (not_F h2) (LD (i := 1) rfl tyP_int rfl rfl rfl hk)) <| dw_nil <| ON rfl rfl (not_F h2) <| rw_gtr rfl rfl rfl <| PT rfl rfl (not_F h2) rfl <| ND <| ?_
        refine gw_cond rfl (fun h3 => ?_) (fun h3 => ?_)
        · refine SQ <| RG <| LS (i := 1) [_, _, _, _, _, _, _, _, _, _, _, _, _, _, _, _, _, _, _, _, _, _, _, _, _, _, _, _, _, _, _, _, _, _, _, _, _, _, _] rfl tyS_impl_Stream rfl rfl rfl rfl <| CN1 rfl fun_spec_l15Copy rfl (fun w hs => spec_l15Copy ⟨_, _, _, _, _, rfl, (hAx_0.s Pl.keeps hs), (hAx_1.s Pl.keeps hs), (hAx_2.s Pl.keeps hs), (hAx_3.s Pl.keeps hs), (hAx_4.s Pl.keeps hs)⟩ ⟨hbx_0, hbx_1, hbx_2, hbx_3, hbx_4, hbx_5⟩) <| fun vv7 ch7 how7 => ?_
          obtain ⟨cs7, rfl, v7_0, v7_1, v7_2, v7_3, v7_4, c7_0, c7_1, c7_2, c7_3, c7_4, rfl, h7_0, h7_1, h7_2, h7_3, h7_4, rfl⟩ := how7
          refine rw_F (F' := c7_0 ++ (c7_1 ++ (c7_2 ++ (c7_3 ++ (c7_4 ++ (c6_0 ++ (c6_1 ++ (c6_2 ++ (c6_3 ++ (c6_4 ++ (ch ++ ([])))))))))))) (by simp only [List.append_assoc]) <| ?_
          obtain ⟨R7_0, b7_0, rfl, hR7_0, hrd7_0⟩ := h7_0.shape eInt
          obtain ⟨R7_1, b7_1, rfl, hR7_1, hrd7_1⟩ := h7_1.shape eRange
          obtain ⟨R7_2, b7_2, rfl, hR7_2, hrd7_2⟩ := h7_2.shape eRange
          obtain ⟨R7_3, b7_3, rfl, hR7_3, hrd7_3⟩ := h7_3.shape eRange
          obtain ⟨R7_4, b7_4, rfl, hR7_4, hrd7_4⟩ := h7_4.shape eChunk
          refine AL rfl tyZ_impl_Stream <| fun b3 => rw_storeN (i := 0) [_, _, _, _, _, _, _, _, _, _, _, _, _, _, _, _, _, _, _, _, _, _, _, _, _, _, _, _, _, _, _, _, _, _, _, _, _, _, _] [_, _, _, _, _, _, _, _, _, _, _, _, _, _, _, _, _, _, _, _, _, _, _, _, _, _, _, _, _, _, _, _, _, _, _, _, _, _, _] [_, _, _] tyS_impl_Stream.sz rfl rfl rfl rfl rfl rfl rfl rfl rfl <| ND <| SQ <| RG <| MV rfl rfl <| LS (i := 0) [_, _, _, _, _, _, _, _, _, _, _, _, _, _, _, _, _, _, _, _, _, _, _, _, _, _, _, _, _, _, _, _, _, _, _, _, _, _, _] rfl tyS_impl_Stream rfl rfl rfl rfl <| rw_slice1F (xs := [(0, _)]) [_, _, _, _, _, _, _, _, _, _, _, _, _, _, _, _, _, _, _, _, _, _, _, _, _, _, _, _, _, _, _, _, _, _, _, _, _, _, _] rfl tyM_S_impl_Stream rfl rfl rfl <| fun v8 ch8 how8 => ?_
          obtain ⟨bl8, rfl, hch8⟩ := how8
          have hpm10 : (ch8 ++ (c7_0 ++ (c7_1 ++ (c7_2 ++ (c7_3 ++ (c7_4 ++ (c6_0 ++ (c6_1 ++ (c6_2 ++ (c6_3 ++ (c6_4 ++ (ch ++ ([]))))))))))))).Perm (ch ++ ((c7_0 ++ (c7_1 ++ (c7_2 ++ (c7_3 ++ (c7_4))))) ++ (ch8 ++ (c6_0 ++ (c6_1 ++ (c6_2 ++ (c6_3 ++ (c6_4 ++ ([]))))))))) := by
            refine List.Perm.trans ((((((((((((((((((((((((((((((((((((List.Perm.refl _)).append_left _).trans (pullc _ _ _))).append_left _).trans (pullc _ _ _))).append_left _).trans (pullc _ _ _))).append_left _).trans (pullc _ _ _))).append_left _).trans (pullc _ _ _))).append_left _).trans (pullc _ _ _))).append_left _).trans (pullc _ _ _))).append_left _).trans (pullc _ _ _))).append_left _).trans (pullc _ _ _))).append_left _).trans (pullc _ _ _))).append_left _).trans (pullc _ _ _)).trans ((((((List.Perm.refl _)).append_left _).trans (pullc _ _ _)).trans ((((((List.Perm.refl _)).append_left _).trans (pullc _ _ _)).trans ((((((List.Perm.refl _)).append_left _).trans (pullc _ _ _)).trans ((((((List.Perm.refl _)).append_left _).trans (pullc _ _ _)).trans ((((((List.Perm.refl _)).append_left _).trans (pullc _ _ _)).trans ((List.Perm.refl _).append_left _)).append_left _)).append_left _)).append_left _)).append_left _)).append_left _)) : (ch8 ++ (c7_0 ++ (c7_1 ++ (c7_2 ++ (c7_3 ++ (c7_4 ++ (c6_0 ++ (c6_1 ++ (c6_2 ++ (c6_3 ++ (c6_4 ++ (ch ++ ([]))))))))))))).Perm (ch ++ (c7_0 ++ (c7_1 ++ (c7_2 ++ (c7_3 ++ (c7_4 ++ (ch8 ++ (c6_0 ++ (c6_1 ++ (c6_2 ++ (c6_3 ++ (c6_4 ++ ([])))))))))))))) (List.Perm.of_eq ?_)
            simp only [List.append_assoc, List.nil_append]
          refine rw_append1F (a := x) (ch2 := c7_0 ++ (c7_1 ++ (c7_2 ++ (c7_3 ++ (c7_4))))) (F2 := ch8 ++ (c6_0 ++ (c6_1 ++ (c6_2 ++ (c6_3 ++ (c6_4 ++ ([]))))))) rfl tyM_S_impl_Stream eStream rfl rfl (mem_ch hch8 (fun c hc => List.mem_append_left _ hc)) hO ⟨_, _, _, _, _, _, _, _, _, _, rfl, h7_0, h7_1, h7_2, h7_3, h7_4, rfl⟩ hpm10 (by first | omega | (simp only [List.length_take, List.length_set, List.length_append, List.length_cons, List.length_nil]; omega)) <| fun v9 ch9 how9 => AS rfl rfl <| ND <| RG <| AS rfl rfl <| ND <| RG <| MV rfl rfl <| LS (i := 1) [_, _, _, _, _, _, _, _, _, _, _, _, _, _, _, _, _, _, _, _, _, _, _, _, _, _, _, _, _, _, _, _, _, _, _, _, _, _, _] rfl tyS_impl_Stream rfl rfl rfl rfl <| ?_
          refine rw_slice1F (xs := [(0, _)]) [_, _, _, _, _, _, _, _, _, _, _, _, _, _, _, _, _, _, _, _, _, _, _, _, _, _, _, _, _, _, _, _, _, _, _, _, _, _, _] rfl tyM_S_impl_Stream rfl rfl rfl <| fun v11 ch11 how11 => ?_
          obtain ⟨bl11, rfl, hch11⟩ := how11
          have hpm13 : (ch11 ++ (ch9 ++ (ch8 ++ (c6_0 ++ (c6_1 ++ (c6_2 ++ (c6_3 ++ (c6_4 ++ ([]))))))))).Perm (ch9 ++ ((c6_0 ++ (c6_1 ++ (c6_2 ++ (c6_3 ++ (c6_4))))) ++ (ch11 ++ (ch8 ++ ([]))))) := by
            refine List.Perm.trans ((((((List.Perm.refl _)).append_left _).trans (pullc _ _ _)).trans (((((((((List.Perm.refl _)).append_left _).trans (pullc _ _ _))).append_left _).trans (pullc _ _ _)).trans (((((((((List.Perm.refl _)).append_left _).trans (pullc _ _ _))).append_left _).trans (pullc _ _ _)).trans (((((((((List.Perm.refl _)).append_left _).trans (pullc _ _ _))).append_left _).trans (pullc _ _ _)).trans (((((((((List.Perm.refl _)).append_left _).trans (pullc _ _ _))).append_left _).trans (pullc _ _ _)).trans (((((((((List.Perm.refl _)).append_left _).trans (pullc _ _ _))).append_left _).trans (pullc _ _ _)).trans ((List.Perm.refl _).append_left _)).append_left _)).append_left _)).append_left _)).append_left _)).append_left _)) : (ch11 ++ (ch9 ++ (ch8 ++ (c6_0 ++ (c6_1 ++ (c6_2 ++ (c6_3 ++ (c6_4 ++ ([]))))))))).Perm (ch9 ++ (c6_0 ++ (c6_1 ++ (c6_2 ++ (c6_3 ++ (c6_4 ++ (ch11 ++ (ch8 ++ ([])))))))))) (List.Perm.of_eq ?_)
            simp only [List.append_assoc, List.nil_append]
          refine rw_append1F (a := x4) (ch2 := c6_0 ++ (c6_1 ++ (c6_2 ++ (c6_3 ++ (c6_4))))) (F2 := ch11 ++ (ch8 ++ ([]))) rfl tyM_S_impl_Stream eStream rfl rfl (mem_ch hch11 (fun c hc => List.mem_append_left _ hc)) how9 ⟨_, _, _, _, _, _, _, _, _, _, rfl, h6_0, h6_1, h6_2, h6_3, h6_4, rfl⟩ hpm13 (by first | omega | (simp only [List.length_take, List.length_set, List.length_append, List.length_cons, List.length_nil]; omega)) <| fun v12 ch12 how12 => AS rfl rfl <| ND <| IB <| RG <| MV rfl rfl <| rw_add rfl rfl rfl <| AS rfl rfl <| ND <| ?_
          refine gw_dropF (F' := ch12 ++ ([])) (List.Sublist.append_left (List.nil_sublist _) _) <| gw_dropN 2 <| ?_
          refine gw_sub (Sub.consE (i := 8) rfl (int_succ (by omega)) (Sub.consE (i := 5) rfl rfl (Sub.consE (i := 7) rfl rfl (Sub.cons (i := 0) rfl (Sub.cons (i := 3) rfl (Sub.cons (i := 4) rfl (Sub.cons (i := 6) rfl (Sub.nil _)))))))) (ih2 (i + 1, v12, ch12, ((o ++ [x]) ++ [x4]), true) ?_ ?_)
          · exact ⟨by omega, how12, by rw [hI, hd4]; simp [insGo, ins_true, h2, h3], by simp only [List.length_append, List.length_cons, List.length_nil]; omega⟩
          · show l.length - (i + 1) < l.length - i; omega
        · refine SK <| RG <| MV rfl rfl <| LS (i := 0) [_, _, _, _, _, _, _, _, _, _, _, _, _, _, _, _, _, _, _, _, _, _, _, _, _, _, _, _, _, _, _, _, _, _, _, _, _, _, _] rfl tyS_impl_Stream rfl rfl rfl rfl <| rw_slice1F (xs := [(0, _)]) [_, _, _, _, _, _, _, _, _, _, _, _, _, _, _, _, _, _, _, _, _, _, _, _, _, _, _, _, _, _, _, _, _, _, _, _, _, _, _] rfl tyM_S_impl_Stream rfl rfl rfl <| fun v14 ch14 how14 => ?_
          obtain ⟨bl14, rfl, hch14⟩ := how14
          have hpm16 : (ch14 ++ (c6_0 ++ (c6_1 ++ (c6_2 ++ (c6_3 ++ (c6_4 ++ (ch ++ ([])))))))).Perm (ch ++ ((c6_0 ++ (c6_1 ++ (c6_2 ++ (c6_3 ++ (c6_4))))) ++ (ch14 ++ ([])))) := by
            refine List.Perm.trans (((((((((((((((((((((List.Perm.refl _)).append_left _).trans (pullc _ _ _))).append_left _).trans (pullc _ _ _))).append_left _).trans (pullc _ _ _))).append_left _).trans (pullc _ _ _))).append_left _).trans (pullc _ _ _))).append_left _).trans (pullc _ _ _)).trans ((((((List.Perm.refl _)).append_left _).trans (pullc _ _ _)).trans ((((((List.Perm.refl _)).append_left _).trans (pullc _ _ _)).trans ((((((List.Perm.refl _)).append_left _).trans (pullc _ _ _)).trans ((((((List.Perm.refl _)).append_left _).trans (pullc _ _ _)).trans ((((((List.Perm.refl _)).append_left _).trans (pullc _ _ _)).trans ((List.Perm.refl _).append_left _)).append_left _)).append_left _)).append_left _)).append_left _)).append_left _)) : (ch14 ++ (c6_0 ++ (c6_1 ++ (c6_2 ++ (c6_3 ++ (c6_4 ++ (ch ++ ([])))))))).Perm (ch ++ (c6_0 ++ (c6_1 ++ (c6_2 ++ (c6_3 ++ (c6_4 ++ (ch14 ++ ([]))))))))) (List.Perm.of_eq ?_)
            simp only [List.append_assoc, List.nil_append]
          refine rw_append1F (a := x4) (ch2 := c6_0 ++ (c6_1 ++ (c6_2 ++ (c6_3 ++ (c6_4))))) (F2 := ch14 ++ ([])) rfl tyM_S_impl_Stream eStream rfl rfl (mem_ch hch14 (fun c hc => List.mem_append_left _ hc)) hO ⟨_, _, _, _, _, _, _, _, _, _, rfl, h6_0, h6_1, h6_2, h6_3, h6_4, rfl⟩ hpm16 (by first | omega | (simp only [List.length_take, List.length_set, List.length_append, List.length_cons, List.length_nil]; omega)) <| fun v15 ch15 how15 => AS rfl rfl <| ND <| IB <| RG <| MV rfl rfl <| rw_add rfl rfl rfl <| AS rfl rfl <| ND <| ?_
          refine gw_dropF (F' := ch15 ++ ([])) (List.Sublist.append_left (List.nil_sublist _) _) <| gw_dropN 1 <| ?_
          refine gw_sub (Sub.consE (i := 8) rfl (int_succ (by omega)) (Sub.consE (i := 5) rfl rfl (Sub.consE (i := 7) rfl rfl (Sub.cons (i := 0) rfl (Sub.cons (i := 3) rfl (Sub.cons (i := 4) rfl (Sub.cons (i := 6) rfl (Sub.nil _)))))))) (ih2 (i + 1, v15, ch15, (o ++ [x4]), pl) ?_ ?_)
          · exact ⟨by omega, how15, by rw [hI, hd4]; simp [insGo, ins_true, h2, h3], by simp only [List.length_append, List.length_cons, List.length_nil]; omega⟩
          · show l.length - (i + 1) < l.length - i; omega
      · replace h2 := of_not_F h2
        refine DT rfl rfl (fun K hk => OF rfl rfl (not_T h2) rfl hk) <| DT rfl rfl (fun K hk => OF rfl rfl (not_T h2) rfl hk) <| DT rfl rfl (fun K hk => OF rfl rfl (not_T h2) rfl hk) <| DT rfl rfl (fun K hk => OF rfl rfl (not_T h2) rfl hk) <| DT rfl rfl (fun K hk => OF rfl rfl (not_T h2) rfl hk) <| DT rfl rfl (fun K hk => OF rfl rfl (not_T h2) rfl hk) <| DT rfl rfl (fun K hk => OF rfl rfl (not_T h2) rfl hk) <| dw_nil <| OF rfl rfl (not_T h2) rfl <| PF rfl rfl (not_T h2) rfl <| ND <| CF rfl rfl <| SK <| RG <| ?_
        refine MV rfl rfl <| LS (i := 0) [_, _, _, _, _, _, _, _, _, _, _, _, _, _, _, _, _, _, _, _, _, _, _, _, _, _, _, _, _, _, _, _, _, _, _, _, _, _, _] rfl tyS_impl_Stream rfl rfl rfl rfl <| rw_slice1F (xs := [(0, _)]) [_, _, _, _, _, _, _, _, _, _, _, _, _, _, _, _, _, _, _, _, _, _, _, _, _, _, _, _, _, _, _, _, _, _, _, _, _, _, _] rfl tyM_S_impl_Stream rfl rfl rfl <| fun v17 ch17 how17 => ?_
        obtain ⟨bl17, rfl, hch17⟩ := how17
        have hpm19 : (ch17 ++ (c6_0 ++ (c6_1 ++ (c6_2 ++ (c6_3 ++ (c6_4 ++ (ch ++ ([])))))))).Perm (ch ++ ((c6_0 ++ (c6_1 ++ (c6_2 ++ (c6_3 ++ (c6_4))))) ++ (ch17 ++ ([])))) := by
          refine List.Perm.trans (((((((((((((((((((((List.Perm.refl _)).append_left _).trans (pullc _ _ _))).append_left _).trans (pullc _ _ _))).append_left _).trans (pullc _ _ _))).append_left _).trans (pullc _ _ _))).append_left _).trans (pullc _ _ _))).append_left _).trans (pullc _ _ _)).trans ((((((List.Perm.refl _)).append_left _).trans (pullc _ _ _)).trans ((((((List.Perm.refl _)).append_left _).trans (pullc _ _ _)).trans ((((((List.Perm.refl _)).append_left _).trans (pullc _ _ _)).trans ((((((List.Perm.refl _)).append_left _).trans (pullc _ _ _)).trans ((((((List.Perm.refl _)).append_left _).trans (pullc _ _ _)).trans ((List.Perm.refl _).append_left _)).append_left _)).append_left _)).append_left _)).append_left _)).append_left _)) : (ch17 ++ (c6_0 ++ (c6_1 ++ (c6_2 ++ (c6_3 ++ (c6_4 ++ (ch ++ ([])))))))).Perm (ch ++ (c6_0 ++ (c6_1 ++ (c6_2 ++ (c6_3 ++ (c6_4 ++ (ch17 ++ ([]))))))))) (List.Perm.of_eq ?_)
          simp only [List.append_assoc, List.nil_append]
        refine rw_append1F (a := x4) (ch2 := c6_0 ++ (c6_1 ++ (c6_2 ++ (c6_3 ++ (c6_4))))) (F2 := ch17 ++ ([])) rfl tyM_S_impl_Stream eStream rfl rfl (mem_ch hch17 (fun c hc => List.mem_append_left _ hc)) hO ⟨_, _, _, _, _, _, _, _, _, _, rfl, h6_0, h6_1, h6_2, h6_3, h6_4, rfl⟩ hpm19 (by first | omega | (simp only [List.length_take, List.length_set, List.length_append, List.length_cons, List.length_nil]; omega)) <| fun v18 ch18 how18 => AS rfl rfl <| ND <| IB <| RG <| MV rfl rfl <| rw_add rfl rfl rfl <| AS rfl rfl <| ND <| ?_
        refine gw_dropF (F' := ch18 ++ ([])) (List.Sublist.append_left (List.nil_sublist _) _) <| gw_dropN 1 <| ?_
        refine gw_sub (Sub.consE (i := 8) rfl (int_succ (by omega)) (Sub.consE (i := 5) rfl rfl (Sub.consE (i := 7) rfl rfl (Sub.cons (i := 0) rfl (Sub.cons (i := 3) rfl (Sub.cons (i := 4) rfl (Sub.cons (i := 6) rfl (Sub.nil _)))))))) (ih2 (i + 1, v18, ch18, (o ++ [x4]), pl) ?_ ?_)
        · exact ⟨by omega, how18, by rw [hI, hd4]; simp [insGo, ins_true, h2], by simp only [List.length_append, List.length_cons, List.length_nil]; omega⟩
        · show l.length - (i + 1) < l.length - i; omega
    · have hn20 := nil_of_dec h1
      refine EX rfl <| SQ <| SQ <| RG <| MV rfl rfl <| NT rfl rfl <| ND <| ?_
      refine gw_cond rfl (fun h4 => ?_) (fun h4 => ?_)
      · replace h4 := of_not_T h4
        refine SQ <| RG <| LS (i := 0) [_, _, _, _, _, _, _, _, _, _, _, _, _, _, _, _, _, _, _, _, _, _, _, _, _, _, _, _, _, _, _, _, _, _, _, _, _, _, _] rfl tyS_impl_Stream rfl rfl rfl rfl <| CN1 rfl fun_spec_l15Copy rfl (fun w hs => spec_l15Copy ⟨_, _, _, _, _, rfl, (hAx_0.s Pl.keeps hs), (hAx_1.s Pl.keeps hs), (hAx_2.s Pl.keeps hs), (hAx_3.s Pl.keeps hs), (hAx_4.s Pl.keeps hs)⟩ ⟨hbx_0, hbx_1, hbx_2, hbx_3, hbx_4, hbx_5⟩) <| fun vv21 ch21 how21 => ?_
        obtain ⟨cs21, rfl, v21_0, v21_1, v21_2, v21_3, v21_4, c21_0, c21_1, c21_2, c21_3, c21_4, rfl, h21_0, h21_1, h21_2, h21_3, h21_4, rfl⟩ := how21
        refine rw_F (F' := c21_0 ++ (c21_1 ++ (c21_2 ++ (c21_3 ++ (c21_4 ++ (ch ++ ([]))))))) (by simp only [List.append_assoc]) <| ?_
        obtain ⟨R21_0, b21_0, rfl, hR21_0, hrd21_0⟩ := h21_0.shape eInt
        obtain ⟨R21_1, b21_1, rfl, hR21_1, hrd21_1⟩ := h21_1.shape eRange
        obtain ⟨R21_2, b21_2, rfl, hR21_2, hrd21_2⟩ := h21_2.shape eRange
        obtain ⟨R21_3, b21_3, rfl, hR21_3, hrd21_3⟩ := h21_3.shape eRange
        obtain ⟨R21_4, b21_4, rfl, hR21_4, hrd21_4⟩ := h21_4.shape eChunk
        refine AL rfl tyZ_impl_Stream <| fun b4 => rw_storeN (i := 0) [_, _, _, _, _, _, _, _, _, _, _, _, _, _, _, _, _, _, _, _, _, _, _, _, _, _, _, _, _, _, _, _, _, _, _, _, _, _, _] [_, _, _, _, _, _, _, _, _, _, _, _, _, _, _, _, _, _, _, _, _, _, _, _, _, _, _, _, _, _, _, _, _, _, _, _, _, _, _] [_, _] tyS_impl_Stream.sz rfl rfl rfl rfl rfl rfl rfl rfl rfl <| ND <| RG <| MV rfl rfl <| LS (i := 0) [_, _, _, _, _, _, _, _, _, _, _, _, _, _, _, _, _, _, _, _, _, _, _, _, _, _, _, _, _, _, _, _, _, _, _, _, _, _, _] rfl tyS_impl_Stream rfl rfl rfl rfl <| rw_slice1F (xs := [(0, _)]) [_, _, _, _, _, _, _, _, _, _, _, _, _, _, _, _, _, _, _, _, _, _, _, _, _, _, _, _, _, _, _, _, _, _, _, _, _, _, _] rfl tyM_S_impl_Stream rfl rfl rfl <| fun v22 ch22 how22 => ?_
        obtain ⟨bl22, rfl, hch22⟩ := how22
        have hpm24 : (ch22 ++ (c21_0 ++ (c21_1 ++ (c21_2 ++ (c21_3 ++ (c21_4 ++ (ch ++ ([])))))))).Perm (ch ++ ((c21_0 ++ (c21_1 ++ (c21_2 ++ (c21_3 ++ (c21_4))))) ++ (ch22 ++ ([])))) := by
          refine List.Perm.trans (((((((((((((((((((((List.Perm.refl _)).append_left _).trans (pullc _ _ _))).append_left _).trans (pullc _ _ _))).append_left _).trans (pullc _ _ _))).append_left _).trans (pullc _ _ _))).append_left _).trans (pullc _ _ _))).append_left _).trans (pullc _ _ _)).trans ((((((List.Perm.refl _)).append_left _).trans (pullc _ _ _)).trans ((((((List.Perm.refl _)).append_left _).trans (pullc _ _ _)).trans ((((((List.Perm.refl _)).append_left _).trans (pullc _ _ _)).trans ((((((List.Perm.refl _)).append_left _).trans (pullc _ _ _)).trans ((((((List.Perm.refl _)).append_left _).trans (pullc _ _ _)).trans ((List.Perm.refl _).append_left _)).append_left _)).append_left _)).append_left _)).append_left _)).append_left _)) : (ch22 ++ (c21_0 ++ (c21_1 ++ (c21_2 ++ (c21_3 ++ (c21_4 ++ (ch ++ ([])))))))).Perm (ch ++ (c21_0 ++ (c21_1 ++ (c21_2 ++ (c21_3 ++ (c21_4 ++ (ch22 ++ ([]))))))))) (List.Perm.of_eq ?_)
          simp only [List.append_assoc, List.nil_append]
        refine rw_append1F (a := x) (ch2 := c21_0 ++ (c21_1 ++ (c21_2 ++ (c21_3 ++ (c21_4))))) (F2 := ch22 ++ ([])) rfl tyM_S_impl_Stream eStream rfl rfl (mem_ch hch22 (fun c hc => List.mem_append_left _ hc)) hO ⟨_, _, _, _, _, _, _, _, _, _, rfl, h21_0, h21_1, h21_2, h21_3, h21_4, rfl⟩ hpm24 (by first | omega | (simp only [List.length_take, List.length_set, List.length_append, List.length_cons, List.length_nil]; omega)) <| fun v23 ch23 how23 => AS rfl rfl <| ND <| SQ <| RG <| MV rfl rfl <| AS rfl rfl <| ND <| ?_
        refine ret_cn ch23 Try.func19 (res1 Try.func19 rfl (rv_tmp rfl)) ?_ ?_
        · refine OwA.s ?_
          rw [hI, hn20, h4]
          simpa [insGo] using how23
        · exact (List.sublist_append_left _ _).trans (List.sublist_append_right _ _)
      · replace h4 := of_not_F h4
        refine SK <| SQ <| RG <| MV rfl rfl <| AS rfl rfl <| ND <| ?_
        refine ret_cn ch Try.func19 (res1 Try.func19 rfl (rv_tmp rfl)) ?_ ?_
        · refine OwA.s ?_
          rw [hI, hn20, h4]
          simpa [insGo] using hO
        · exact (List.sublist_append_left _ _).trans (List.sublist_append_right _ _)

set_option maxRecDepth 20000 in
theorem slices_Insert_E {w : World} {A : Option Addr} {n c vb : Nat} {l : List Stream} {x : Stream} {row : List Value} {ch chx : List Ck} (hO : OwA 56 39 OwStream (.slice A n c) l ch) (hx : OwStream row x chx) (hn : n = l.length) (hb : n ≤ 1048576) (hin : ∀ c ∈ ((⟨vb, 56, row⟩ :: (ch ++ chx)) : List Ck), c.In w) (hnd : (((⟨vb, 56, row⟩ :: (ch ++ chx)) : List Ck).map Ck.b).Nodup) : CH Try.prog 74 [.slice A n c, .int .i64 (n : Int), .slice (some ⟨vb, 0, none⟩) 1 1] w (⟨vb, 56, row⟩ :: (ch ++ chx)) (fun v' ch' => OwA 56 39 OwStream v' (l ++ [x]) ch') := by
  refine ch_ofBF hin hnd Try.func74 rfl rfl rfl <| gw_F (F' := ch ++ (chx ++ ([]))) (by simp only [List.append_assoc]) <| SQ <| RG <| AS rfl rfl <| ND <| SQ <| RG <| MV rfl rfl <| MV rfl rfl <| rw_sliceJ (i := n) rfl tyM_S_impl_Stream rfl rfl (by omega) <| fun vj => ND <| SQ <| RG <| MV rfl rfl <| rw_len rfl tyE_S_impl_Stream rfl <| AS rfl rfl <| ND <| SQ <| SQ <| RG <| MV rfl rfl <| EQ1 rfl rfl rfl <| ND <| CF rfl (by decide) <| SK <| SQ <| RG <| ?_
  refine MV rfl rfl <| rw_len rfl tyE_S_impl_Stream rfl <| AS rfl rfl <| ND <| SQ <| SQ <| RG <| MV rfl rfl <| MV rfl rfl <| EQ1 rfl rfl rfl <| ND <| CT rfl (beq_self_eq_true _) <| SQ <| RG <| MV rfl rfl <| MV rfl rfl <| rw_append1 (i := 0) (a := x) (ch2 := chx) (F2 := []) rfl tyM_S_impl_Stream eStream rfl rfl rfl hO hx (.refl _) (by omega) <| fun v' ch' how => AS rfl rfl <| ND <| ?_
  refine ret_ch ch' Try.func74 (res1 Try.func74 rfl (rv_tmp rfl)) ?_ ?_
  · exact how
  · simp

set_option maxHeartbeats 2000000 in
set_option maxRecDepth 20000 in
theorem slices_Insert_G {w : World} {g c vb : Nat} {l1 l2 : List Stream} {x : Stream} {c1 c2 row : List Value} {h1 h2 chx : List Ck} (hO1 : Ows OwStream l1 c1 h1) (hO2 : Ows OwStream l2 c2 h2) (hx : OwStream row x chx) (h0 : 0 < l2.length) (hb : l1.length + l2.length ≤ 1048576) (hc : l1.length + l2.length ≤ c) {rs : List Value} (hg : c < l1.length + l2.length + 1) (h3 : (c2 ++ rs).length = (c - l1.length) * 39) (hin : ∀ c ∈ ((⟨g, 56, c1 ++ (c2 ++ rs)⟩ :: ⟨vb, 56, row⟩ :: (h1 ++ (h2 ++ chx))) : List Ck), c.In w) (hnd : (((⟨g, 56, c1 ++ (c2 ++ rs)⟩ :: ⟨vb, 56, row⟩ :: (h1 ++ (h2 ++ chx))) : List Ck).map Ck.b).Nodup) : CH Try.prog 74 [.slice (some ⟨g, 0, none⟩) (l1.length + l2.length) c, .int .i64 (l1.length : Int), .slice (some ⟨vb, 0, none⟩) 1 1] w (⟨g, 56, c1 ++ (c2 ++ rs)⟩ :: ⟨vb, 56, row⟩ :: (h1 ++ (h2 ++ chx))) (fun v' ch' => OwA 56 39 OwStream v' (l1 ++ x :: l2) ch') := by
  refine ch_of2 hin hnd Try.func74 rfl rfl rfl <| ?_
  refine gw_F (F' := h1 ++ (h2 ++ (chx ++ ([])))) (by simp only [List.append_assoc]) ?_
  have hl1 : c1.length = l1.length * 39 := hO1.length eStream
  have hl2 : c2.length = l2.length * 39 := hO2.length eStream
  have hlr : row.length = 39 := eStream.len hx
  refine SQ <| RG <| AS rfl rfl <| ND <| SQ <| RG <| MV rfl rfl <| MV rfl rfl <| rw_sliceJ (i := l1.length) rfl tyM_S_impl_Stream rfl rfl (by omega) <| fun vj => ND <| SQ <| RG <| MV rfl rfl <| rw_len rfl tyE_S_impl_Stream rfl <| AS rfl rfl <| ND <| SQ <| SQ <| RG <| MV rfl rfl <| EQ1 rfl rfl rfl <| ND <| CF rfl (by decide) <| SK <| SQ <| RG <| MV rfl rfl <| rw_len rfl tyE_S_impl_Stream rfl <| AS rfl rfl <| ND <| SQ <| SQ <| RG <| MV rfl rfl <| MV rfl rfl <| EQ1 rfl rfl rfl <| ?_
  refine ND <| CF rfl (beq_false_of_ne (by omega)) <| SK <| SQ <| SQ <| RG <| MV rfl rfl <| MV rfl rfl <| rw_addK ((((l1.length + l2.length) + 1 : Nat)) : Int) rfl rfl rfl (wadd rfl (by omega)) <| MV rfl rfl <| rw_cap rfl tyE_S_impl_Stream rfl <| rw_gtr rfl rfl rfl <| ND <| CT rfl (decide_eq_true (by omega)) <| SQ <| RG <| MV rfl rfl <| MV rfl rfl <| rw_sliceHi (j := l1.length) rfl tyM_S_impl_Stream rfl rfl rfl (by omega) (by omega) <| MV rfl rfl <| MV rfl rfl <| rw_addK ((((l1.length + l2.length) + 1 : Nat)) : Int) rfl rfl rfl (wadd rfl (by omega)) <| ?_
  refine MV rfl rfl <| rw_subK (((l2.length + 1 : Nat)) : Int) rfl rfl rfl (wsub (by omega) (by omega)) <| rw_appendZ (m := l2.length + 1) (j := 0) (i := l1.length) (olds := c1) rfl tyM_S_impl_Stream (show Try.prog.underlying 3 = some (.int .i64) by kernel_rfl) rfl rfl rfl rfl (cut_head hl1) hl1 (by omega) (by omega) (by omega) <| fun b2 cap mid g1 g2 g3 => ?_
  obtain ⟨m1, m2, m3, rfl, hm1, hm2⟩ := split3 (mid := mid) (p := 39) (q := l2.length * 39) (by rw [g3]; omega)
  refine AS rfl rfl <| ND <| SQ <| RG <| MV rfl rfl <| MV rfl rfl <| rw_sliceLo (i := l1.length) (l1.length * 39) rfl tyM_S_impl_Stream rfl rfl rfl (by omega) (by omega) (by omega) <| MV rfl rfl <| rw_copy (i := 0) row (c1 ++ (row ++ (m2 ++ m3))) rfl tyM_S_impl_Stream rfl rfl rfl (fun w hs j u hj => lit_cell (hs.at_ _ (List.mem_append_left _ (List.mem_of_getElem? (i := 2) rfl))) hj) (by rw [hlr]; simp only [Nat.min_def]; split <;> omega) (by simp only [List.length_append]; omega) (eStream.one hx) (splice_all (by omega) (by omega)) <| ND <| SQ <| gw_draw' [(0, .det), (1, .det), (2, .det), (3, .det), (4, .det), (5, .det), (6, .det), (7, .det)] [8] mixed rfl (free_det (free_det (free_det (free_det (free_det (free_det (free_det (free_det free_nil)))))))) (ts := [_]) rfl <| ?_
  refine DT rfl rfl (fun K hk => MV rfl rfl hk) <| DT rfl rfl (fun K hk => MV rfl rfl hk) <| DT rfl rfl (fun K hk => MV rfl rfl hk) <| DT rfl rfl (fun K hk => rw_addK (((l1.length + 1 : Nat)) : Int) rfl rfl rfl (wadd rfl (by omega)) hk) <| DT rfl rfl (fun K hk => rw_sliceLo (i := l1.length + 1) ((l1.length + 1) * 39) rfl tyM_S_impl_Stream rfl rfl rfl (by omega) (by omega) (by omega) hk) <| DT rfl rfl (fun K hk => MV rfl rfl hk) <| DT rfl rfl (fun K hk => MV rfl rfl hk) <| DT rfl rfl (fun K hk => rw_sliceLo (i := l1.length) (l1.length * 39) rfl tyM_S_impl_Stream rfl rfl rfl (by omega) (by omega) (by omega) hk) <| ?_
  refine dw_nil <| rw_copy (i := 0) c2 (c1 ++ (row ++ (c2 ++ m3))) rfl tyM_S_impl_Stream rfl rfl rfl (fun w hs j u hj => mid_cell hl1 (hs.at_ _ (List.mem_append_left _ (List.mem_of_getElem? (i := 1) rfl))) hj) (by rw [hl2]; simp only [Nat.min_def]; split <;> omega) (by simp only [List.length_append]; omega) (hO2.ones eStream) (splice_two hl1 hlr (by omega)) <| ND <| SQ <| RG <| MV rfl rfl <| AS rfl rfl <| ND <| gw_FP (F' := (h1 ++ (chx ++ h2)) ++ ([])) (by simp only [List.append_assoc, List.append_nil]; exact List.perm_append_comm.append_left _) <| ?_
  refine ret_ch (⟨b2, 56, c1 ++ (row ++ (c2 ++ m3))⟩ :: (h1 ++ (chx ++ h2))) Try.func74 (res1 Try.func74 rfl (rv_tmp rfl)) ?_ ?_
  · refine .inr ⟨b2, cap, c1 ++ (row ++ c2), m3, h1 ++ (chx ++ h2), ?_, hO1.append (.cons hx hO2), by simp only [List.append_assoc, List.nil_append], ?_, g2, ?_⟩
    · simp only [List.length_append, List.length_cons]; rfl
    · simp only [List.length_append, List.length_cons]; omega
    · simp only [List.length_append] at g3 ⊢; omega
  · simp only [List.append_nil, List.cons_append, List.nil_append]; exact List.Sublist.cons_cons _ (List.Sublist.cons _ (List.Sublist.cons _ (List.Sublist.refl _)))

set_option maxHeartbeats 2000000 in
set_option maxRecDepth 20000 in
theorem slices_Insert_S {w : World} {g c vb : Nat} {l1 l2 : List Stream} {x : Stream} {c1 c2 row : List Value} {h1 h2 chx : List Ck} (hO1 : Ows OwStream l1 c1 h1) (hO2 : Ows OwStream l2 c2 h2) (hx : OwStream row x chx) (h0 : 0 < l2.length) (hb : l1.length + l2.length ≤ 1048576) (hc : l1.length + l2.length ≤ c) {r0 rs2 : List Value} (hg : l1.length + l2.length + 1 ≤ c) (hm : c ≤ maxLen) (hr0 : r0.length = 39) (h3 : rs2.length = (c - (l1.length + l2.length + 1)) * 39) (hin : ∀ c ∈ ((⟨g, 56, c1 ++ (c2 ++ (r0 ++ rs2))⟩ :: ⟨vb, 56, row⟩ :: (h1 ++ (h2 ++ chx))) : List Ck), c.In w) (hnd : (((⟨g, 56, c1 ++ (c2 ++ (r0 ++ rs2))⟩ :: ⟨vb, 56, row⟩ :: (h1 ++ (h2 ++ chx))) : List Ck).map Ck.b).Nodup) : CH Try.prog 74 [.slice (some ⟨g, 0, none⟩) (l1.length + l2.length) c, .int .i64 (l1.length : Int), .slice (some ⟨vb, 0, none⟩) 1 1] w (⟨g, 56, c1 ++ (c2 ++ (r0 ++ rs2))⟩ :: ⟨vb, 56, row⟩ :: (h1 ++ (h2 ++ chx))) (fun v' ch' => OwA 56 39 OwStream v' (l1 ++ x :: l2) ch') := by
  refine ch_of2 hin hnd Try.func74 rfl rfl rfl <| ?_
  refine gw_F (F' := h1 ++ (h2 ++ (chx ++ ([])))) (by simp only [List.append_assoc]) ?_
  have hl1 : c1.length = l1.length * 39 := hO1.length eStream
  have hl2 : c2.length = l2.length * 39 := hO2.length eStream
  have hlr : row.length = 39 := eStream.len hx
  refine SQ <| RG <| AS rfl rfl <| ND <| SQ <| RG <| MV rfl rfl <| MV rfl rfl <| rw_sliceJ (i := l1.length) rfl tyM_S_impl_Stream rfl rfl (by omega) <| fun vj => ND <| SQ <| RG <| MV rfl rfl <| rw_len rfl tyE_S_impl_Stream rfl <| AS rfl rfl <| ND <| SQ <| SQ <| RG <| MV rfl rfl <| EQ1 rfl rfl rfl <| ND <| CF rfl (by decide) <| SK <| SQ <| RG <| MV rfl rfl <| rw_len rfl tyE_S_impl_Stream rfl <| AS rfl rfl <| ND <| SQ <| SQ <| RG <| MV rfl rfl <| MV rfl rfl <| EQ1 rfl rfl rfl <| ?_
  refine ND <| CF rfl (beq_false_of_ne (by omega)) <| SK <| SQ <| SQ <| RG <| MV rfl rfl <| MV rfl rfl <| rw_addK ((((l1.length + l2.length) + 1 : Nat)) : Int) rfl rfl rfl (wadd rfl (by omega)) <| MV rfl rfl <| rw_cap rfl tyE_S_impl_Stream rfl <| rw_gtr rfl rfl rfl <| ND <| CF rfl (decide_eq_false (by omega)) <| SK <| SQ <| RG <| MV rfl rfl <| MV rfl rfl <| MV rfl rfl <| rw_addK ((((l1.length + l2.length) + 1 : Nat)) : Int) rfl rfl rfl (wadd rfl (by omega)) <| rw_sliceHi (j := (l1.length + l2.length) + 1) rfl tyM_S_impl_Stream rfl rfl rfl (by omega) (by omega) <| ?_
  refine AS rfl rfl <| ND <| SQ <| SQ <| RG <| MV rfl rfl <| MV rfl rfl <| MV rfl rfl <| MV rfl rfl <| rw_addK (((l1.length + 1 : Nat)) : Int) rfl rfl rfl (wadd rfl (by omega)) <| rw_sliceLo (i := l1.length + 1) ((l1.length + 1) * 39) rfl tyM_S_impl_Stream rfl rfl rfl (by omega) (by omega) (by omega) <| rw_ext (v := .bool false) rfl rfl (fun w hs => run_apart (tR := 4) tyM_S_impl_Stream (show Try.prog.funcs[148]? = some Try.f148 from by kernel_rfl) (by kernel_rfl) (by kernel_rfl) (by kernel_rfl) (by kernel_rfl) (c1 := ⟨vb, 56, row⟩) (c2 := ⟨g, 56, c1 ++ (c2 ++ (r0 ++ rs2))⟩) (hs.at_ _ (List.mem_append_left _ (List.mem_of_getElem? (i := 1) rfl))) (hs.at_ _ (List.mem_append_left _ (List.mem_of_getElem? (i := 0) rfl))) (ne_of_nd hs) (by simp only [List.length_append]; omega) _ _ _ _ _ _) <| ?_
  refine NT rfl rfl <| ND <| CT rfl rfl <| SQ <| gw_draw' [(0, .det), (1, .det), (2, .det), (3, .det), (4, .det), (5, .det), (6, .det), (7, .det)] [8] mixed rfl (free_det (free_det (free_det (free_det (free_det (free_det (free_det (free_det free_nil)))))))) (ts := [_]) rfl <| DT rfl rfl (fun K hk => MV rfl rfl hk) <| DT rfl rfl (fun K hk => MV rfl rfl hk) <| DT rfl rfl (fun K hk => MV rfl rfl hk) <| DT rfl rfl (fun K hk => rw_addK (((l1.length + 1 : Nat)) : Int) rfl rfl rfl (wadd rfl (by omega)) hk) <| DT rfl rfl (fun K hk => rw_sliceLo (i := l1.length + 1) ((l1.length + 1) * 39) rfl tyM_S_impl_Stream rfl rfl rfl (by omega) (by omega) (by omega) hk) <| ?_
  refine DT rfl rfl (fun K hk => MV rfl rfl hk) <| DT rfl rfl (fun K hk => MV rfl rfl hk) <| DT rfl rfl (fun K hk => rw_sliceLo (i := l1.length) (l1.length * 39) rfl tyM_S_impl_Stream rfl rfl rfl (by omega) (by omega) (by omega) hk) <| dw_nil <| rw_copy (i := 0) c2 (c1 ++ ((c2 ++ r0).take 39 ++ (c2 ++ rs2))) rfl tyM_S_impl_Stream rfl rfl rfl (fun w hs j u hj => mid_cell hl1 (hs.at_ _ (List.mem_append_left _ (List.mem_of_getElem? (i := 0) rfl))) hj) (by rw [hl2]; simp only [Nat.min_def]; split <;> omega) (by simp only [List.length_append]; omega) (hO2.ones eStream) (splice_shift hl1 hl2 hr0) <| ?_
  refine ND <| SQ <| RG <| MV rfl rfl <| MV rfl rfl <| rw_sliceLo (i := l1.length) (l1.length * 39) rfl tyM_S_impl_Stream rfl rfl rfl (by omega) (by omega) (by omega) <| MV rfl rfl <| rw_copy (i := 0) row (c1 ++ (row ++ (c2 ++ rs2))) rfl tyM_S_impl_Stream rfl rfl rfl (fun w hs j u hj => lit_cell (hs.at_ _ (List.mem_append_left _ (List.mem_of_getElem? (i := 1) rfl))) hj) (by rw [hlr]; simp only [Nat.min_def]; split <;> omega) (by simp only [List.length_append, List.length_take]; omega) (eStream.one hx) (splice_all (by omega) (by rw [List.length_take]; simp only [List.length_append]; omega)) <| ?_
  refine ND <| SQ <| RG <| MV rfl rfl <| AS rfl rfl <| ND <| gw_FP (F' := (h1 ++ (chx ++ h2)) ++ ([])) (by simp only [List.append_assoc, List.append_nil]; exact List.perm_append_comm.append_left _) <| ?_
  refine ret_ch (⟨g, 56, c1 ++ (row ++ (c2 ++ rs2))⟩ :: (h1 ++ (chx ++ h2))) Try.func74 (res1 Try.func74 rfl (rv_tmp rfl)) ?_ ?_
  · refine .inr ⟨g, c, c1 ++ (row ++ c2), rs2, h1 ++ (chx ++ h2), ?_, hO1.append (.cons hx hO2), by simp only [List.append_assoc, List.nil_append], ?_, hm, ?_⟩
    · simp only [List.length_append, List.length_cons]; rfl
    · simp only [List.length_append, List.length_cons]; omega
    · simp only [List.length_append]; omega
  · simp only [List.append_nil, List.cons_append, List.nil_append]; exact List.Sublist.cons_cons _ (List.Sublist.cons _ (List.Sublist.refl _))

theorem slices_Insert {w : World} {A : Option Addr} {n c vb i : Nat} {l : List Stream} {x : Stream} {row : List Value} {chL ch chx : List Ck} (hO : OwA 56 39 OwStream (.slice A n c) l ch) (hx : OwStream row x chx) (hL : chL = [⟨vb, 56, row⟩]) (hi : i ≤ l.length) (hb : l.length ≤ 1048576)
    (hin : ∀ c ∈ chL ++ (ch ++ chx), c.In w) (hnd : ((chL ++ (ch ++ chx)).map Ck.b).Nodup) :
    CH Try.prog 74 [.slice A n c, .int .i64 (i : Int), .slice (some ⟨vb, 0, none⟩) 1 1] w (chL ++ (ch ++ chx)) (fun v' ch' => OwA 56 39 OwStream v' (l.take i ++ x :: l.drop i) ch') := by
  subst hL
  have hn : n = l.length := by
    rcases hO with ⟨A', h1, rfl, _⟩ | ⟨g, cap, cs, rest, chs, h1, _⟩
    · cases h1; rfl
    · cases h1; rfl
  by_cases he : i = l.length
  · have h := slices_Insert_E (vb := vb) hO hx hn (by omega) hin hnd
    subst he
    rw [List.take_length, List.drop_length]
    rw [hn] at h ⊢
    exact h
  · rcases hO with ⟨A', h1, rfl, rfl⟩ | ⟨g, cap, cs, rest, chs, h1, h2, rfl, h3, h4, h5⟩
    · exact absurd (Nat.le_zero.1 hi) he
    · cases h1
      obtain ⟨c1, c2, k1, k2, rfl, rfl, g1, g2⟩ := h2.split i
      rw [List.nil_append, List.append_assoc c1 c2 rest] at hin hnd ⊢
      have hl1 : (l.take i).length = i := by rw [List.length_take]; omega
      have hl2 : (l.drop i).length = l.length - i := List.length_drop
      have hc1 := g1.length eStream
      have hc2 := g2.length eStream
      have hperm : (⟨g, 56, c1 ++ (c2 ++ rest)⟩ :: ⟨vb, 56, row⟩ :: (k1 ++ (k2 ++ chx)) : List Ck).Perm ([⟨vb, 56, row⟩] ++ ((⟨g, 56, c1 ++ (c2 ++ rest)⟩ :: (k1 ++ k2)) ++ chx)) := by
        simp only [List.cons_append, List.nil_append, List.append_assoc]
        exact List.Perm.swap _ _ _
      have hin' := fun c hc => hin c (hperm.mem_iff.1 hc)
      have hnd' := (hperm.map Ck.b).nodup_iff.2 hnd
      have e : (l.take i).length + (l.drop i).length = l.length := by omega
      rw [List.length_append, List.length_append] at h5
      by_cases hg : c < l.length + 1
      · have h := slices_Insert_G (vb := vb) (l1 := l.take i) (l2 := l.drop i) (c := c) g1 g2 hx (by omega) (by omega) (by omega) (by omega) (by rw [List.length_append]; omega) hin' hnd'
        rw [e, hl1] at h
        exact h.permG hperm
      · obtain ⟨r0, rs2, m3, hr, hr1, hr2⟩ := split3 (mid := rest) (p := 39) (q := 0) (by omega)
        have hm0 : rs2 = [] := List.eq_nil_of_length_eq_zero hr2
        subst hm0
        rw [List.nil_append] at hr
        subst hr
        rw [List.length_append] at h5
        have h := slices_Insert_S (vb := vb) (l1 := l.take i) (l2 := l.drop i) (c := c) (r0 := r0) (rs2 := m3) g1 g2 hx (by omega) (by omega) (by omega) (by omega) h4 hr1 (by omega) hin' hnd'
        rw [e, hl1] at h
        exact h.permG hperm

theorem impl_PutStream_1 {w : World} {q : Addr} {id : Int} {cs3 : List Value} {cs : List Value} {x : Stream} (hv : RdStream w cs x) (hq : At w q (.int .i64 id :: cs3)) : CV Try.prog 73 [.agg cs.toArray, .pointer (some q)] w (.bool (decide (id < x.id))) := by
  obtain ⟨v0, v1, v2, v3, v4, rfl, k0, k1, k2, k3, k4⟩ := hv
  obtain ⟨A0, c0, rfl, hA0⟩ := k0
  obtain ⟨A1, c1, rfl, hA1⟩ := k1
  obtain ⟨A2, c2, rfl, hA2⟩ := k2
  obtain ⟨A3, c3, rfl, hA3⟩ := k3
  obtain ⟨A4, c4, rfl, hA4⟩ := k4
  refine cv_of Try.func73 rfl rfl rfl <| SQ <| RG <| BX [_, _, _, _, _, _, _, _, _, _, _, _, _, _, _, _, _, _, _, _, _, _, _, _, _, _, _, _, _, _, _, _, _, _, _, _, _, _, _] rfl rfl rfl <| fun b1 => AS rfl rfl <| ND <| SQ <| RG <| FA rfl tyF_impl_Stream_0 rfl <| LD (i := 0) rfl tyP_int rfl rfl rfl <| FX rfl tyF_impl_Stream_0 rfl <| rw_loadX _ rfl tyP_int rfl (fun w hs => hq.ld hs rfl) <| rw_gtr rfl rfl rfl <| AS rfl rfl <| ND <| ret_cv Try.func73 (res1 Try.func73 rfl (rv_tmp rfl)) <| ?_
  rfl

theorem slices_IndexFunc_gt {w : World} {v : Value} {l : List Stream} (hv : RdS w 39 RdStream v l) (hb : l.length ≤ 1048576) {q : Addr} {id : Int} {cs3 : List Value} (hq : At w q (.int .i64 id :: cs3)) : CV Try.prog 72 [v, .func (.func 73) #[] #[.pointer (some q)]] w (.int .i64 (gtFrom id 0 l)) := by
  obtain ⟨A, c, rfl, hA⟩ := hv
  refine cv_of Try.func72 rfl rfl rfl <| SQ <| RG <| AS rfl rfl <| ND <| SQ <| SQ <| RG <| MV rfl rfl <| rw_len rfl tyE_S_impl_Stream rfl <| MV rfl rfl <| ND <| BK <| ?_
  refine gw_loopC (α := Nat) (fun z_ => z_ ≤ l.length ∧ gtFrom id 0 l = gtFrom id z_ (l.drop z_)) (fun z_ => l.length - z_) (fun e z_ => (8, .int .i64 (z_ : Int)) :: e) 0 [(0, _), (1, _), (7, _)] (Sub.consE rfl rfl (Sub.cons (i := 0) rfl (Sub.cons (i := 1) rfl (Sub.cons (i := 7) rfl (Sub.nil _))))) ?_ ?_
  · exact ⟨Nat.zero_le _, rfl⟩
  · rintro i hI1 ih1
    try dsimp only
    obtain ⟨hle, hI⟩ := hI1
    refine SQ <| RG <| rw_lss rfl rfl rfl <| ND <| SQ <| ?_
    refine gw_cond rfl (fun h1 => ?_) (fun h1 => ?_)
    · have hi2 := lt_of_dec h1
      obtain ⟨x3, hx3⟩ := get_of_lt hi2
      have hd3 := drop_cons hx3
      refine SK <| SQ <| BK <| SQ <| RG <| MV rfl rfl <| AS rfl rfl <| ND <| SQ <| RG <| MV rfl rfl <| MV rfl rfl <| MV rfl rfl <| ?_
      obtain ⟨cse4_, hRe4_, hq4⟩ := hA.get hx3
      obtain ⟨ve4_0, ve4_1, ve4_2, ve4_3, ve4_4, rfl, ke4_0, ke4_1, ke4_2, ke4_3, ke4_4⟩ := hRe4_
      obtain ⟨Ae4_0, ce4_0, rfl, hAe4_0⟩ := ke4_0
      obtain ⟨Ae4_1, ce4_1, rfl, hAe4_1⟩ := ke4_1
      obtain ⟨Ae4_2, ce4_2, rfl, hAe4_2⟩ := ke4_2
      obtain ⟨Ae4_3, ce4_3, rfl, hAe4_3⟩ := ke4_3
      obtain ⟨Ae4_4, ce4_4, rfl, hAe4_4⟩ := ke4_4
      refine rw_indexAddr (i) rfl tyE_S_impl_Stream rfl rfl rfl (hA.some hi2) hi2 <| rw_loadX_s [_, _, _, _, _, _, _, _, _, _, _, _, _, _, _, _, _, _, _, _, _, _, _, _, _, _, _, _, _, _, _, _, _, _, _, _, _, _, _] rfl tyS_impl_Stream rfl rfl (fun w hs => hq4.lds0 (n := 39) hs rfl) <| rw_cvF rfl rfl fun_impl_PutStream_1 rfl (fun w hs => impl_PutStream_1 ⟨_, _, _, _, _, rfl, (hAe4_0.s Pl.keeps hs), (hAe4_1.s Pl.keeps hs), (hAe4_2.s Pl.keeps hs), (hAe4_3.s Pl.keeps hs), (hAe4_4.s Pl.keeps hs)⟩ (hq.sat hs)) <| ND <| ?_
      refine gw_cond rfl (fun h2 => ?_) (fun h2 => ?_)
      · refine SQ <| RG <| MV rfl rfl <| AS rfl rfl <| ND <| ret_cv Try.func72 (res1 Try.func72 rfl (rv_tmp rfl)) <| ?_
        rw [hI, hd3]; simp [gtFrom, h2]
      · refine SK <| IB <| RG <| rw_add rfl rfl rfl <| MV rfl rfl <| ND <| ?_
        refine gw_sub (Sub.consE (i := 8) rfl (int_succ (by omega)) (Sub.cons (i := 0) rfl (Sub.cons (i := 1) rfl (Sub.cons (i := 7) rfl (Sub.nil _))))) (ih1 (i + 1) ?_ ?_)
        · exact ⟨by omega, by rw [hI, hd3]; simp [gtFrom, h2]⟩
        · show l.length - (i + 1) < l.length - i; omega
    · have hn5 := nil_of_dec h1
      refine EX rfl <| SQ <| RG <| AS rfl rfl <| ND <| ret_cv Try.func72 (res1 Try.func72 rfl (rv_tmp rfl)) <| ?_
      rw [hI, hn5]; rfl

set_option maxHeartbeats 2000000 in
theorem impl_copyStreams_A {w : World} {v : Value} {l : List Stream} (hv : RdS w 39 RdStream v l) (hb : l.length ≤ 1048576) (hall : ∀ x ∈ l, x.le 1048576) : CN Try.prog 69 [v] w (fun v ch => OwA 56 39 OwStream v l ch) := by
  obtain ⟨A, c, rfl, hA⟩ := hv
  refine cn_of Try.func69 rfl rfl rfl <| SQ <| RG <| AS rfl rfl <| ND <| SQ <| RG <| rw_slice0 rfl tyM_S_impl_Stream OwStream <| fun v1 how1 => AS rfl rfl <| ND <| SQ <| SQ <| RG <| MV rfl rfl <| rw_len rfl tyE_S_impl_Stream rfl <| MV rfl rfl <| ND <| BK <| ?_
  refine gw_loopX (α := Nat × Value × List Ck) (fun z_ => z_.1 ≤ l.length ∧ OwA 56 39 OwStream z_.2.1 (l.take z_.1) z_.2.2) (fun z_ => l.length - z_.1) (fun e z_ => (9, .int .i64 (z_.1 : Int)) :: (3, z_.2.1) :: e) (fun B _ => B) (fun F z_ => z_.2.2 ++ ([])) (0, v1, []) [(2, _), (7, _), (8, _)] (Sub.consE rfl rfl (Sub.consE rfl rfl (Sub.cons (i := 2) rfl (Sub.cons (i := 7) rfl (Sub.cons (i := 8) rfl (Sub.nil _)))))) rfl rfl ?_ ?_
  · exact ⟨Nat.zero_le _, how1⟩
  · rintro ⟨i, v, ch⟩ hI2 ih2
    dsimp only at hI2
    dsimp only
    obtain ⟨hle, hO⟩ := hI2
    refine SQ <| RG <| rw_lss rfl rfl rfl <| ND <| SQ <| ?_
    refine gw_cond rfl (fun h1 => ?_) (fun h1 => ?_)
    · have hi3 := lt_of_dec h1
      obtain ⟨x4, hx4⟩ := get_of_lt hi3
      have hd4 := drop_cons hx4
      refine SK <| SQ <| BK <| SQ <| RG <| ?_
      obtain ⟨cse5_, hRe5_, hq5⟩ := hA.get hx4
      obtain ⟨ve5_0, ve5_1, ve5_2, ve5_3, ve5_4, rfl, ke5_0, ke5_1, ke5_2, ke5_3, ke5_4⟩ := hRe5_
      obtain ⟨Ae5_0, ce5_0, rfl, hAe5_0⟩ := ke5_0
      obtain ⟨Ae5_1, ce5_1, rfl, hAe5_1⟩ := ke5_1
      obtain ⟨Ae5_2, ce5_2, rfl, hAe5_2⟩ := ke5_2
      obtain ⟨Ae5_3, ce5_3, rfl, hAe5_3⟩ := ke5_3
      obtain ⟨Ae5_4, ce5_4, rfl, hAe5_4⟩ := ke5_4
      obtain ⟨hbe5_0, hbe5_1, hbe5_2, hbe5_3, hbe5_4, hbe5_5⟩ := hall x4 (List.mem_of_getElem? hx4)
      refine rw_indexAddr (i) rfl tyE_S_impl_Stream rfl rfl rfl (hA.some hi3) hi3 <| rw_loadX_s [_, _, _, _, _, _, _, _, _, _, _, _, _, _, _, _, _, _, _, _, _, _, _, _, _, _, _, _, _, _, _, _, _, _, _, _, _, _, _] rfl tyS_impl_Stream rfl rfl (fun w hs => hq5.lds0 (n := 39) hs rfl) <| AL rfl tyZ_impl_Stream <| fun b1 => rw_storeN (i := 0) [_, _, _, _, _, _, _, _, _, _, _, _, _, _, _, _, _, _, _, _, _, _, _, _, _, _, _, _, _, _, _, _, _, _, _, _, _, _, _] [_, _, _, _, _, _, _, _, _, _, _, _, _, _, _, _, _, _, _, _, _, _, _, _, _, _, _, _, _, _, _, _, _, _, _, _, _, _, _] [_] tyS_impl_Stream.sz rfl rfl rfl rfl rfl rfl rfl rfl rfl <| ?_
      refine ND <| RG <| MV rfl rfl <| LS (i := 0) [_, _, _, _, _, _, _, _, _, _, _, _, _, _, _, _, _, _, _, _, _, _, _, _, _, _, _, _, _, _, _, _, _, _, _, _, _, _, _] rfl tyS_impl_Stream rfl rfl rfl rfl <| CN1 rfl fun_impl_copyStream rfl (fun w hs => impl_copyStream ⟨_, _, _, _, _, rfl, (hAe5_0.s Pl.keeps hs), (hAe5_1.s Pl.keeps hs), (hAe5_2.s Pl.keeps hs), (hAe5_3.s Pl.keeps hs), (hAe5_4.s Pl.keeps hs)⟩ ⟨hbe5_0, hbe5_1, hbe5_2, hbe5_3, hbe5_4, hbe5_5⟩) <| fun vv6 ch6 how6 => ?_
      obtain ⟨cs6, rfl, v6_0, v6_1, v6_2, v6_3, v6_4, c6_0, c6_1, c6_2, c6_3, c6_4, rfl, h6_0, h6_1, h6_2, h6_3, h6_4, rfl⟩ := how6
      refine rw_F (F' := c6_0 ++ (c6_1 ++ (c6_2 ++ (c6_3 ++ (c6_4 ++ (ch ++ ([]))))))) (by simp only [List.append_assoc]) <| ?_
      obtain ⟨R6_0, b6_0, rfl, hR6_0, hrd6_0⟩ := h6_0.shape eInt
      obtain ⟨R6_1, b6_1, rfl, hR6_1, hrd6_1⟩ := h6_1.shape eRange
      obtain ⟨R6_2, b6_2, rfl, hR6_2, hrd6_2⟩ := h6_2.shape eRange
      obtain ⟨R6_3, b6_3, rfl, hR6_3, hrd6_3⟩ := h6_3.shape eRange
      obtain ⟨R6_4, b6_4, rfl, hR6_4, hrd6_4⟩ := h6_4.shape eChunk
      refine rw_slice (xs := [(0, _)]) [_, _, _, _, _, _, _, _, _, _, _, _, _, _, _, _, _, _, _, _, _, _, _, _, _, _, _, _, _, _, _, _, _, _, _, _, _, _, _] rfl tyM_S_impl_Stream rfl rfl rfl rfl <| fun b2 => ?_
      have hpm8 : (c6_0 ++ (c6_1 ++ (c6_2 ++ (c6_3 ++ (c6_4 ++ (ch ++ ([]))))))).Perm (ch ++ ((c6_0 ++ (c6_1 ++ (c6_2 ++ (c6_3 ++ (c6_4))))) ++ ([]))) := by
        refine List.Perm.trans ((((((((((((((((((List.Perm.refl _)).append_left _).trans (pullc _ _ _))).append_left _).trans (pullc _ _ _))).append_left _).trans (pullc _ _ _))).append_left _).trans (pullc _ _ _))).append_left _).trans (pullc _ _ _)).trans (((List.Perm.refl _).trans (((List.Perm.refl _).trans (((List.Perm.refl _).trans (((List.Perm.refl _).trans (((List.Perm.refl _).trans ((List.Perm.refl _).append_left _)).append_left _)).append_left _)).append_left _)).append_left _)).append_left _)) : (c6_0 ++ (c6_1 ++ (c6_2 ++ (c6_3 ++ (c6_4 ++ (ch ++ ([]))))))).Perm (ch ++ (c6_0 ++ (c6_1 ++ (c6_2 ++ (c6_3 ++ (c6_4 ++ ([])))))))) (List.Perm.of_eq ?_)
        simp only [List.append_assoc, List.nil_append]
      refine rw_append1 (i := 0) (a := x4) (ch2 := c6_0 ++ (c6_1 ++ (c6_2 ++ (c6_3 ++ (c6_4))))) (F2 := []) rfl tyM_S_impl_Stream eStream rfl rfl rfl hO ⟨_, _, _, _, _, _, _, _, _, _, rfl, h6_0, h6_1, h6_2, h6_3, h6_4, rfl⟩ hpm8 (by simp only [List.length_take]; omega) <| fun v7 ch7 how7 => AS rfl rfl <| ND <| IB <| RG <| rw_add rfl rfl rfl <| MV rfl rfl <| ND <| gw_dropN 2 <| ?_
      refine gw_sub (Sub.consE (i := 9) rfl (int_succ (by omega)) (Sub.consE (i := 3) rfl rfl (Sub.cons (i := 2) rfl (Sub.cons (i := 7) rfl (Sub.cons (i := 8) rfl (Sub.nil _)))))) (ih2 (i + 1, v7, ch7) ?_ ?_)
      · exact ⟨by omega, by rw [take_snoc hx4]; exact how7⟩
      · show l.length - (i + 1) < l.length - i; omega
    · have hn9 := nil_of_dec h1
      refine EX rfl <| SQ <| RG <| MV rfl rfl <| AS rfl rfl <| ND <| ?_
      refine ret_cn ch Try.func69 (res1 Try.func69 rfl (rv_tmp rfl)) ?_ ?_
      · rw [take_all hn9] at hO; exact hO
      · simp

set_option maxHeartbeats 4000000 in
set_option maxRecDepth 20000 in
theorem impl_PutStream_T {w : World} {v : Value} {l : List Stream} (hv : RdS w 39 RdStream v l) (hb : l.length ≤ 1048576) (hall : ∀ x ∈ l, x.le 1048576) {cs : List Value} {x : Stream} (hvx : RdStream w cs x) (hbx : x.le 1048576) {n : Nat} {y : Stream} (hf : findStream l x.id = (n : Int)) (hs_ : l[n]? = some y) : CN Try.prog 20 [v, .agg cs.toArray] w (fun v ch => OwS 56 39 OwStream v (l.set n x) ch) := by
  obtain ⟨A, c, rfl, hA⟩ := hv
  obtain ⟨vx_0, vx_1, vx_2, vx_3, vx_4, rfl, kx_0, kx_1, kx_2, kx_3, kx_4⟩ := hvx
  obtain ⟨Ax_0, cx_0, rfl, hAx_0⟩ := kx_0
  obtain ⟨Ax_1, cx_1, rfl, hAx_1⟩ := kx_1
  obtain ⟨Ax_2, cx_2, rfl, hAx_2⟩ := kx_2
  obtain ⟨Ax_3, cx_3, rfl, hAx_3⟩ := kx_3
  obtain ⟨Ax_4, cx_4, rfl, hAx_4⟩ := kx_4
  obtain ⟨hbx_0, hbx_1, hbx_2, hbx_3, hbx_4, hbx_5⟩ := hbx
  refine cn_of Try.func20 rfl rfl rfl <| SQ <| RG <| BX [_, _, _, _, _, _, _, _, _, _, _, _, _, _, _, _, _, _, _, _, _, _, _, _, _, _, _, _, _, _, _, _, _, _, _, _, _, _, _] rfl rfl rfl <| fun b1 => AS rfl rfl <| ND <| SQ <| RG <| MV rfl rfl <| CN1 rfl fun_impl_copyStreams rfl (fun w hs => impl_copyStreams_A (hA.s RdStream.keeps hs) hb hall) <| fun v1 ch1 how1 => ?_
  obtain ⟨R1, rc1, rfl, hR1, hrd1⟩ := (OwA.s how1).shape eStream
  refine AS rfl rfl <| ND <| SQ <| SQ <| RG <| MV rfl rfl <| FA rfl tyF_impl_Stream_0 rfl <| LD (i := 0) rfl tyP_int rfl rfl rfl <| CV1 rfl fun_impl_FindStream rfl (fun w hs => impl_FindStream (hA.s RdStream.keeps hs) hb _) <| AS rfl rfl <| ND <| SQ <| RG <| MV rfl rfl <| rw_geq rfl rfl rfl <| ND <| CT rfl (at_pos hf) <| SQ <| RG <| MV rfl rfl <| MV rfl rfl <| LS (i := 0) [_, _, _, _, _, _, _, _, _, _, _, _, _, _, _, _, _, _, _, _, _, _, _, _, _, _, _, _, _, _, _, _, _, _, _, _, _, _, _] rfl tyS_impl_Stream rfl rfl rfl rfl <| ?_
  refine CN1 rfl fun_impl_copyStream rfl (fun w hs => impl_copyStream ⟨_, _, _, _, _, rfl, (hAx_0.s Pl.keeps hs), (hAx_1.s Pl.keeps hs), (hAx_2.s Pl.keeps hs), (hAx_3.s Pl.keeps hs), (hAx_4.s Pl.keeps hs)⟩ ⟨hbx_0, hbx_1, hbx_2, hbx_3, hbx_4, hbx_5⟩) <| fun vv2 ch2 how2 => ?_
  obtain ⟨cs2, rfl, v2_0, v2_1, v2_2, v2_3, v2_4, c2_0, c2_1, c2_2, c2_3, c2_4, rfl, h2_0, h2_1, h2_2, h2_3, h2_4, rfl⟩ := how2
  refine rw_F (F' := c2_0 ++ (c2_1 ++ (c2_2 ++ (c2_3 ++ (c2_4 ++ (ch1 ++ ([]))))))) (by simp only [List.append_assoc]) <| ?_
  obtain ⟨R2_0, b2_0, rfl, hR2_0, hrd2_0⟩ := h2_0.shape eInt
  obtain ⟨R2_1, b2_1, rfl, hR2_1, hrd2_1⟩ := h2_1.shape eRange
  obtain ⟨R2_2, b2_2, rfl, hR2_2, hrd2_2⟩ := h2_2.shape eRange
  obtain ⟨R2_3, b2_3, rfl, hR2_3, hrd2_3⟩ := h2_3.shape eRange
  obtain ⟨R2_4, b2_4, rfl, hR2_4, hrd2_4⟩ := h2_4.shape eChunk
  obtain ⟨g_, pre, rs, c1, mm, c2, h1, cy, h2, rfl, hnn, hO1, hmm, hO2, hch, g1, g2, g3⟩ := ((OwA.s how1)).openAt hs_
  subst hch
  refine rw_perm (B' := _) (F' := (⟨g_, 56, pre ++ ((c1 ++ (mm ++ c2)) ++ rs)⟩ :: (h1 ++ (cy ++ h2))) ++ (c2_0 ++ (c2_1 ++ (c2_2 ++ (c2_3 ++ (c2_4 ++ ([]))))))) (List.Perm.append_left _ (((((((((((((((((List.Perm.refl _)).append_left _).trans (pullc _ _ _))).append_left _).trans (pullc _ _ _))).append_left _).trans (pullc _ _ _))).append_left _).trans (pullc _ _ _))).append_left _).trans (pullc _ _ _)).trans ((List.Perm.refl _).append_left _))) <| rw_perm take_blk <| rw_F (F' := h1 ++ (cy ++ (h2 ++ (c2_0 ++ (c2_1 ++ (c2_2 ++ (c2_3 ++ (c2_4 ++ ([]))))))))) (by simp only [List.append_assoc]) <| ?_
  have hl1 : c1.length = n * 39 := by rw [hO1.length eStream, List.length_take]; have := (List.getElem?_eq_some_iff.1 hs_).1; congr 1; omega
  have hlm : mm.length = 39 := eStream.len hmm
  refine rw_indexAddrO (n) rfl tyE_S_impl_Stream rfl rfl hf (by have := (List.getElem?_eq_some_iff.1 hs_).1; omega) <| rw_storeX (i := 0) [_, _, _, _, _, _, _, _, _, _, _, _, _, _, _, _, _, _, _, _, _, _, _, _, _, _, _, _, _, _, _, _, _, _, _, _, _, _, _] (pre ++ ((c1 ++ ([_, _, _, _, _, _, _, _, _, _, _, _, _, _, _, _, _, _, _, _, _, _, _, _, _, _, _, _, _, _, _, _, _, _, _, _, _, _, _] ++ c2)) ++ rs)) tyS_impl_Stream.sz rfl rfl rfl rfl rfl (by simp only [List.length_append]; omega) (fun u hu => List.all_eq_true.1 (by rfl) u hu) (splice_el (by omega) (by rw [hlm]; rfl)) <| ND <| SQ <| RG <| ?_
  refine MV rfl rfl <| AS rfl rfl <| ND <| ?_
  refine gw_FP ((List.Perm.refl _).trans (((((((((List.Perm.refl _)).append_left _).trans (pullc _ _ _))).append_left _).trans (pullc _ _ _)).trans (((((((((List.Perm.refl _)).append_left _).trans (pullc _ _ _))).append_left _).trans (pullc _ _ _)).trans (((((((((List.Perm.refl _)).append_left _).trans (pullc _ _ _))).append_left _).trans (pullc _ _ _)).trans (((((((((List.Perm.refl _)).append_left _).trans (pullc _ _ _))).append_left _).trans (pullc _ _ _)).trans (((((((((List.Perm.refl _)).append_left _).trans (pullc _ _ _))).append_left _).trans (pullc _ _ _)).trans ((((((List.Perm.refl _)).append_left _).trans (pullc _ _ _)).trans ((List.Perm.refl _).append_left _)).append_left _)).append_left _)).append_left _)).append_left _)).append_left _)).append_left _)) (gw_F (F' := (h1 ++ ((c2_0 ++ (c2_1 ++ (c2_2 ++ (c2_3 ++ (c2_4))))) ++ h2)) ++ (cy ++ ([]))) (by simp only [List.append_assoc]) ?_)
  refine ret_cn (⟨g_, 56, pre ++ ((c1 ++ (Stream.row x (.slice R2_0 x.send.ring.cells.length b2_0) (.slice R2_1 x.send.pending.length b2_1) (.slice R2_2 x.send.flight.length b2_2) (.slice R2_3 x.send.acked.length b2_3) (.slice R2_4 x.recv.buffer.chunks.length b2_4) ++ c2)) ++ rs)⟩ :: (h1 ++ ((c2_0 ++ (c2_1 ++ (c2_2 ++ (c2_3 ++ (c2_4))))) ++ h2))) Try.func20 (res1 Try.func20 rfl (rv_tmp rfl)) ?_ ?_
  · rw [set_split hs_]
    refine OwS.closeG (hO1.append (.cons ⟨_, _, _, _, _, _, _, _, _, _, rfl, h2_0, h2_1, h2_2, h2_3, h2_4, rfl⟩ hO2)) ?_ g1 g2 ?_
    · rw [List.length_append, List.length_cons, List.length_take, List.length_drop]; have := (List.getElem?_eq_some_iff.1 hs_).1; omega
    · rw [← g3]; simp only [List.length_append, hlm]; rfl
  · exact List.Sublist.cons_cons _ ((List.sublist_append_left _ _).trans (List.sublist_append_right _ _))

set_option maxHeartbeats 4000000 in
set_option maxRecDepth 20000 in
theorem impl_PutStream_F1 {w : World} {v : Value} {l : List Stream} (hv : RdS w 39 RdStream v l) (hb : l.length ≤ 1048576) (hall : ∀ x ∈ l, x.le 1048576) {cs : List Value} {x : Stream} (hvx : RdStream w cs x) (hbx : x.le 1048576) (hf : findStream l x.id = -1) (hg : gtFrom x.id 0 l = -1) (hk : leHead x.id l = l.length) : CN Try.prog 20 [v, .agg cs.toArray] w (fun v ch => OwS 56 39 OwStream v (insGo x false l) ch) := by
  obtain ⟨A, c, rfl, hA⟩ := hv
  obtain ⟨vx_0, vx_1, vx_2, vx_3, vx_4, rfl, kx_0, kx_1, kx_2, kx_3, kx_4⟩ := hvx
  obtain ⟨Ax_0, cx_0, rfl, hAx_0⟩ := kx_0
  obtain ⟨Ax_1, cx_1, rfl, hAx_1⟩ := kx_1
  obtain ⟨Ax_2, cx_2, rfl, hAx_2⟩ := kx_2
  obtain ⟨Ax_3, cx_3, rfl, hAx_3⟩ := kx_3
  obtain ⟨Ax_4, cx_4, rfl, hAx_4⟩ := kx_4
  obtain ⟨hbx_0, hbx_1, hbx_2, hbx_3, hbx_4, hbx_5⟩ := hbx
  refine cn_of Try.func20 rfl rfl rfl <| SQ <| RG <| BX [_, _, _, _, _, _, _, _, _, _, _, _, _, _, _, _, _, _, _, _, _, _, _, _, _, _, _, _, _, _, _, _, _, _, _, _, _, _, _] rfl rfl rfl <| fun b1 => AS rfl rfl <| ND <| SQ <| RG <| MV rfl rfl <| CN1 rfl fun_impl_copyStreams rfl (fun w hs => impl_copyStreams_A (hA.s RdStream.keeps hs) hb hall) <| fun v1 ch1 how1 => ?_
  obtain ⟨R1, rc1, rfl, hR1, hrd1⟩ := (OwA.s how1).shape eStream
  refine AS rfl rfl <| ND <| SQ <| SQ <| RG <| MV rfl rfl <| FA rfl tyF_impl_Stream_0 rfl <| LD (i := 0) rfl tyP_int rfl rfl rfl <| CV1 rfl fun_impl_FindStream rfl (fun w hs => impl_FindStream (hA.s RdStream.keeps hs) hb _) <| AS rfl rfl <| ND <| SQ <| RG <| MV rfl rfl <| rw_geq rfl rfl rfl <| ND <| CF rfl (at_neg hf) <| SK <| SQ <| RG <| MV rfl rfl <| rw_makeFunc rfl rfl <| CV1 rfl fun_slices_IndexFunc_S_impl_Stream_impl_Stream rfl (fun w hs => slices_IndexFunc_gt (hA.s RdStream.keeps hs) hb (Ck.In.at0 (c := ⟨b1, _, .int .i64 x.id :: [_, _, _, _, _, _, _, _, _, _, _, _, _, _, _, _, _, _, _, _, _, _, _, _, _, _, _, _, _, _, _, _, _, _, _, _, _, _]⟩) (hs.at_ _ (List.mem_append_left _ (List.mem_of_getElem? (i := 0) rfl))))) <| ?_
  refine AS rfl rfl <| ND <| SQ <| SQ <| RG <| MV rfl rfl <| rw_lss rfl rfl rfl <| ND <| CT rfl (by rw [hg]; rfl) <| RG <| MV rfl rfl <| rw_len rfl tyE_S_impl_Stream rfl <| AS rfl rfl <| ND <| SQ <| RG <| MV rfl rfl <| MV rfl rfl <| LS (i := 0) [_, _, _, _, _, _, _, _, _, _, _, _, _, _, _, _, _, _, _, _, _, _, _, _, _, _, _, _, _, _, _, _, _, _, _, _, _, _, _] rfl tyS_impl_Stream rfl rfl rfl rfl <| CN1 rfl fun_impl_copyStream rfl (fun w hs => impl_copyStream ⟨_, _, _, _, _, rfl, (hAx_0.s Pl.keeps hs), (hAx_1.s Pl.keeps hs), (hAx_2.s Pl.keeps hs), (hAx_3.s Pl.keeps hs), (hAx_4.s Pl.keeps hs)⟩ ⟨hbx_0, hbx_1, hbx_2, hbx_3, hbx_4, hbx_5⟩) <| fun vv2 ch2 how2 => ?_
  obtain ⟨cs2, rfl, v2_0, v2_1, v2_2, v2_3, v2_4, c2_0, c2_1, c2_2, c2_3, c2_4, rfl, h2_0, h2_1, h2_2, h2_3, h2_4, rfl⟩ := how2
  refine rw_F (F' := c2_0 ++ (c2_1 ++ (c2_2 ++ (c2_3 ++ (c2_4 ++ (ch1 ++ ([]))))))) (by simp only [List.append_assoc]) <| ?_
  obtain ⟨R2_0, b2_0, rfl, hR2_0, hrd2_0⟩ := h2_0.shape eInt
  obtain ⟨R2_1, b2_1, rfl, hR2_1, hrd2_1⟩ := h2_1.shape eRange
  obtain ⟨R2_2, b2_2, rfl, hR2_2, hrd2_2⟩ := h2_2.shape eRange
  obtain ⟨R2_3, b2_3, rfl, hR2_3, hrd2_3⟩ := h2_3.shape eRange
  obtain ⟨R2_4, b2_4, rfl, hR2_4, hrd2_4⟩ := h2_4.shape eChunk
  refine rw_slice1F (xs := [(0, _)]) [_, _, _, _, _, _, _, _, _, _, _, _, _, _, _, _, _, _, _, _, _, _, _, _, _, _, _, _, _, _, _, _, _, _, _, _, _, _, _] rfl tyM_S_impl_Stream rfl rfl rfl <| fun v3 ch3 how3 => ?_
  obtain ⟨bl3, rfl, hch3⟩ := how3
  have hpm4 : (ch3 ++ (c2_0 ++ (c2_1 ++ (c2_2 ++ (c2_3 ++ (c2_4 ++ (ch1 ++ ([])))))))).Perm ((ch3 ++ (ch1 ++ (c2_0 ++ (c2_1 ++ (c2_2 ++ (c2_3 ++ (c2_4))))))) ++ ([])) := by
    refine List.Perm.trans (((List.Perm.refl _).trans ((((((((((((((((((List.Perm.refl _)).append_left _).trans (pullc _ _ _))).append_left _).trans (pullc _ _ _))).append_left _).trans (pullc _ _ _))).append_left _).trans (pullc _ _ _))).append_left _).trans (pullc _ _ _)).trans (((List.Perm.refl _).trans (((List.Perm.refl _).trans (((List.Perm.refl _).trans (((List.Perm.refl _).trans (((List.Perm.refl _).trans ((List.Perm.refl _).append_left _)).append_left _)).append_left _)).append_left _)).append_left _)).append_left _)).append_left _)) : (ch3 ++ (c2_0 ++ (c2_1 ++ (c2_2 ++ (c2_3 ++ (c2_4 ++ (ch1 ++ ([])))))))).Perm (ch3 ++ (ch1 ++ (c2_0 ++ (c2_1 ++ (c2_2 ++ (c2_3 ++ (c2_4 ++ ([]))))))))) (List.Perm.of_eq ?_)
    simp only [List.append_assoc]
  refine rw_ch (G := ch3 ++ (ch1 ++ (c2_0 ++ (c2_1 ++ (c2_2 ++ (c2_3 ++ (c2_4))))))) (R := []) rfl fun_slices_Insert_S_impl_Stream_impl_Stream (rfl) hpm4 (fun w hs hin hnd => slices_Insert (i := l.length) (x := x) how1 ⟨_, _, _, _, _, _, _, _, _, _, rfl, h2_0, h2_1, h2_2, h2_3, h2_4, rfl⟩ hch3 (Nat.le_refl _) hb hin hnd) <| fun vi chi howi => AS rfl rfl <| ND <| ?_
  refine ret_cn chi Try.func20 (res1 Try.func20 rfl (rv_tmp rfl)) ?_ ?_
  · refine OwA.s ?_
    rw [← put_end x l hk]; rw [List.take_length, List.drop_length] at howi
    exact howi
  · exact (List.sublist_append_left _ _).trans (List.sublist_append_right _ _)

set_option maxHeartbeats 4000000 in
set_option maxRecDepth 20000 in
theorem impl_PutStream_F2 {w : World} {v : Value} {l : List Stream} (hv : RdS w 39 RdStream v l) (hb : l.length ≤ 1048576) (hall : ∀ x ∈ l, x.le 1048576) {cs : List Value} {x : Stream} (hvx : RdStream w cs x) (hbx : x.le 1048576) (hf : findStream l x.id = -1) (hg : gtFrom x.id 0 l = (leHead x.id l : Int)) : CN Try.prog 20 [v, .agg cs.toArray] w (fun v ch => OwS 56 39 OwStream v (insGo x false l) ch) := by
  obtain ⟨A, c, rfl, hA⟩ := hv
  obtain ⟨vx_0, vx_1, vx_2, vx_3, vx_4, rfl, kx_0, kx_1, kx_2, kx_3, kx_4⟩ := hvx
  obtain ⟨Ax_0, cx_0, rfl, hAx_0⟩ := kx_0
  obtain ⟨Ax_1, cx_1, rfl, hAx_1⟩ := kx_1
  obtain ⟨Ax_2, cx_2, rfl, hAx_2⟩ := kx_2
  obtain ⟨Ax_3, cx_3, rfl, hAx_3⟩ := kx_3
  obtain ⟨Ax_4, cx_4, rfl, hAx_4⟩ := kx_4
  obtain ⟨hbx_0, hbx_1, hbx_2, hbx_3, hbx_4, hbx_5⟩ := hbx
  refine cn_of Try.func20 rfl rfl rfl <| SQ <| RG <| BX [_, _, _, _, _, _, _, _, _, _, _, _, _, _, _, _, _, _, _, _, _, _, _, _, _, _, _, _, _, _, _, _, _, _, _, _, _, _, _] rfl rfl rfl <| fun b1 => AS rfl rfl <| ND <| SQ <| RG <| MV rfl rfl <| CN1 rfl fun_impl_copyStreams rfl (fun w hs => impl_copyStreams_A (hA.s RdStream.keeps hs) hb hall) <| fun v1 ch1 how1 => ?_
  obtain ⟨R1, rc1, rfl, hR1, hrd1⟩ := (OwA.s how1).shape eStream
  refine AS rfl rfl <| ND <| SQ <| SQ <| RG <| MV rfl rfl <| FA rfl tyF_impl_Stream_0 rfl <| LD (i := 0) rfl tyP_int rfl rfl rfl <| CV1 rfl fun_impl_FindStream rfl (fun w hs => impl_FindStream (hA.s RdStream.keeps hs) hb _) <| AS rfl rfl <| ND <| SQ <| RG <| MV rfl rfl <| rw_geq rfl rfl rfl <| ND <| CF rfl (at_neg hf) <| SK <| SQ <| RG <| MV rfl rfl <| rw_makeFunc rfl rfl <| CV1 rfl fun_slices_IndexFunc_S_impl_Stream_impl_Stream rfl (fun w hs => slices_IndexFunc_gt (hA.s RdStream.keeps hs) hb (Ck.In.at0 (c := ⟨b1, _, .int .i64 x.id :: [_, _, _, _, _, _, _, _, _, _, _, _, _, _, _, _, _, _, _, _, _, _, _, _, _, _, _, _, _, _, _, _, _, _, _, _, _, _]⟩) (hs.at_ _ (List.mem_append_left _ (List.mem_of_getElem? (i := 0) rfl))))) <| ?_
  refine AS rfl rfl <| ND <| SQ <| SQ <| RG <| MV rfl rfl <| rw_lss rfl rfl rfl <| ND <| CF rfl (by rw [hg]; simp) <| SK <| SQ <| RG <| MV rfl rfl <| MV rfl rfl <| LS (i := 0) [_, _, _, _, _, _, _, _, _, _, _, _, _, _, _, _, _, _, _, _, _, _, _, _, _, _, _, _, _, _, _, _, _, _, _, _, _, _, _] rfl tyS_impl_Stream rfl rfl rfl rfl <| CN1 rfl fun_impl_copyStream rfl (fun w hs => impl_copyStream ⟨_, _, _, _, _, rfl, (hAx_0.s Pl.keeps hs), (hAx_1.s Pl.keeps hs), (hAx_2.s Pl.keeps hs), (hAx_3.s Pl.keeps hs), (hAx_4.s Pl.keeps hs)⟩ ⟨hbx_0, hbx_1, hbx_2, hbx_3, hbx_4, hbx_5⟩) <| fun vv2 ch2 how2 => ?_
  obtain ⟨cs2, rfl, v2_0, v2_1, v2_2, v2_3, v2_4, c2_0, c2_1, c2_2, c2_3, c2_4, rfl, h2_0, h2_1, h2_2, h2_3, h2_4, rfl⟩ := how2
  refine rw_F (F' := c2_0 ++ (c2_1 ++ (c2_2 ++ (c2_3 ++ (c2_4 ++ (ch1 ++ ([]))))))) (by simp only [List.append_assoc]) <| ?_
  obtain ⟨R2_0, b2_0, rfl, hR2_0, hrd2_0⟩ := h2_0.shape eInt
  obtain ⟨R2_1, b2_1, rfl, hR2_1, hrd2_1⟩ := h2_1.shape eRange
  obtain ⟨R2_2, b2_2, rfl, hR2_2, hrd2_2⟩ := h2_2.shape eRange
  obtain ⟨R2_3, b2_3, rfl, hR2_3, hrd2_3⟩ := h2_3.shape eRange
  obtain ⟨R2_4, b2_4, rfl, hR2_4, hrd2_4⟩ := h2_4.shape eChunk
  refine rw_slice1F (xs := [(0, _)]) [_, _, _, _, _, _, _, _, _, _, _, _, _, _, _, _, _, _, _, _, _, _, _, _, _, _, _, _, _, _, _, _, _, _, _, _, _, _, _] rfl tyM_S_impl_Stream rfl rfl rfl <| fun v3 ch3 how3 => ?_
  obtain ⟨bl3, rfl, hch3⟩ := how3
  have hpm4 : (ch3 ++ (c2_0 ++ (c2_1 ++ (c2_2 ++ (c2_3 ++ (c2_4 ++ (ch1 ++ ([])))))))).Perm ((ch3 ++ (ch1 ++ (c2_0 ++ (c2_1 ++ (c2_2 ++ (c2_3 ++ (c2_4))))))) ++ ([])) := by
    refine List.Perm.trans (((List.Perm.refl _).trans ((((((((((((((((((List.Perm.refl _)).append_left _).trans (pullc _ _ _))).append_left _).trans (pullc _ _ _))).append_left _).trans (pullc _ _ _))).append_left _).trans (pullc _ _ _))).append_left _).trans (pullc _ _ _)).trans (((List.Perm.refl _).trans (((List.Perm.refl _).trans (((List.Perm.refl _).trans (((List.Perm.refl _).trans (((List.Perm.refl _).trans ((List.Perm.refl _).append_left _)).append_left _)).append_left _)).append_left _)).append_left _)).append_left _)).append_left _)) : (ch3 ++ (c2_0 ++ (c2_1 ++ (c2_2 ++ (c2_3 ++ (c2_4 ++ (ch1 ++ ([])))))))).Perm (ch3 ++ (ch1 ++ (c2_0 ++ (c2_1 ++ (c2_2 ++ (c2_3 ++ (c2_4 ++ ([]))))))))) (List.Perm.of_eq ?_)
    simp only [List.append_assoc]
  refine rw_ch (G := ch3 ++ (ch1 ++ (c2_0 ++ (c2_1 ++ (c2_2 ++ (c2_3 ++ (c2_4))))))) (R := []) rfl fun_slices_Insert_S_impl_Stream_impl_Stream ((by rw [← hg]; rfl)) hpm4 (fun w hs hin hnd => slices_Insert (i := (leHead x.id l)) (x := x) how1 ⟨_, _, _, _, _, _, _, _, _, _, rfl, h2_0, h2_1, h2_2, h2_3, h2_4, rfl⟩ hch3 (leHead_le _ _) hb hin hnd) <| fun vi chi howi => AS rfl rfl <| ND <| ?_
  refine ret_cn chi Try.func20 (res1 Try.func20 rfl (rv_tmp rfl)) ?_ ?_
  · refine OwA.s ?_
    rw [ins_eq]
    exact howi
  · exact (List.sublist_append_left _ _).trans (List.sublist_append_right _ _)

theorem impl_PutStream_F {w : World} {v : Value} {l : List Stream} (hv : RdS w 39 RdStream v l) (hb : l.length ≤ 1048576) (hall : ∀ x ∈ l, x.le 1048576) {cs : List Value} {x : Stream} (hvx : RdStream w cs x) (hbx : x.le 1048576) (hf : findStream l x.id = -1) : CN Try.prog 20 [v, .agg cs.toArray] w (fun v ch => OwS 56 39 OwStream v (insGo x false l) ch) := by
  rcases gt_cases x.id l with ⟨h1, h2⟩ | h1
  · exact impl_PutStream_F1 hv hb hall hvx hbx hf h1 h2
  · exact impl_PutStream_F2 hv hb hall hvx hbx hf h1

theorem laws_markStreamS_p_nil (A : Option Addr) (k : Int) (w : World) : CV Try.prog 21 [.slice A 0 0, .int .i64 k] w (.int .i64 k) := by
  refine cv_of Try.func21 rfl rfl rfl <| SQ <| RG <| AS rfl rfl <| ND <| SQ <| SQ <| RG <| AS rfl rfl <| ND <| BK <| gw_loop1 <| SQ <| SQ <| RG <| MV rfl rfl <| MV rfl rfl <| rw_len rfl tyE_S_impl_Stream rfl <| rw_lss rfl rfl rfl <| ND <| CF rfl rfl <| EX rfl <| SQ <| RG <| MV rfl rfl <| AS rfl rfl <| ND <| ret_cv Try.func21 (res1 Try.func21 rfl (rv_tmp rfl)) <| ?_
  rfl

set_option maxHeartbeats 4000000 in
set_option maxRecDepth 20000 in
theorem laws_markStreamS_p_b {w : World} {g c : Nat} {pre rs cells : List Value} {chs : List Ck} {l : List Stream} {k : Int} (hO : Ows OwStream l cells chs) (hb : l.length ≤ 1048577) (hall : ∀ x ∈ l, x.le 1048576) (hk : 0 ≤ k ∧ k ≤ 1125899906842624) (hc1 : l.length ≤ c) (hc2 : c ≤ maxLen) (hc3 : (cells ++ rs).length = c * 39) (hin : ∀ c ∈ ((⟨g, 56, pre ++ (cells ++ rs)⟩ :: chs) : List Ck), c.In w) (hnd : (((⟨g, 56, pre ++ (cells ++ rs)⟩ :: chs) : List Ck).map Ck.b).Nodup) : CH Try.prog 21 [.slice (some ⟨g, pre.length, none⟩) l.length c, .int .i64 k] w (⟨g, 56, pre ++ (cells ++ rs)⟩ :: chs) (fun v' ch' => v' = .int .i64 (endD kS6 k l) ∧ OwS 56 39 OwStream (.slice (some ⟨g, pre.length, none⟩) l.length c) (mkD mkStream kS6 k l) ch') := by
  refine ch_ofBF hin hnd Try.func21 rfl rfl rfl <| SQ <| RG <| AS rfl rfl <| ND <| SQ <| SQ <| RG <| AS rfl rfl <| ND <| BK <| ?_
  refine gw_loopX (α := Nat × Int × List Value × List Value × List Ck × List Ck) (fun z_ => z_.1 ≤ l.length ∧ z_.2.1 = endD kS6 k (l.take z_.1) ∧ Ows OwStream (mkD mkStream kS6 k (l.take z_.1)) z_.2.2.1 z_.2.2.2.2.1 ∧ Ows OwStream (l.drop z_.1) z_.2.2.2.1 z_.2.2.2.2.2) (fun z_ => l.length - z_.1) (fun e z_ => (5, .int .i64 (z_.1 : Int)) :: (1, .int .i64 z_.2.1) :: e) (fun B z_ => [⟨g, 56, pre ++ (z_.2.2.1 ++ (z_.2.2.2.1 ++ rs))⟩]) (fun F z_ => z_.2.2.2.2.1 ++ (z_.2.2.2.2.2 ++ ([]))) (0, k, [], cells, [], chs) [(0, _), (4, _)] (Sub.consE rfl rfl (Sub.consE rfl rfl (Sub.cons (i := 0) rfl (Sub.cons (i := 4) rfl (Sub.nil _))))) rfl rfl ?_ ?_
  · exact ⟨Nat.zero_le _, rfl, .nil, hO⟩
  · rintro ⟨i, Kk, cD, cR, hD, hR⟩ hI1 ih1
    dsimp only at hI1
    dsimp only [List.set]
    obtain ⟨hle, hK, hD_, hR_⟩ := hI1
    have hkb : 0 ≤ Kk ∧ Kk ≤ 1135795556581410 := by
      have hkt := endD_le 9437218 (by decide) (i := i) hb (k := k) (fun x hx k => kS6_bd (hall x hx) k)
      rw [← hK] at hkt; omega
    refine SQ <| SQ <| RG <| MV rfl rfl <| MV rfl rfl <| rw_len rfl tyE_S_impl_Stream rfl <| rw_lss rfl rfl rfl <| ND <| ?_
    refine gw_cond rfl (fun h1 => ?_) (fun h1 => ?_)
    · have hi2 := lt_of_dec h1
      obtain ⟨x, hx⟩ := get_of_lt hi2
      have hd2 := drop_cons hx
      rw [hd2] at hR_
      obtain ⟨mm, cR2, cx, hR2, rfl, rfl, hm, hR_2⟩ := hR_.uncons
      have hal : (pre ++ cD).length = pre.length + i * 39 := by
        rw [List.length_append, hD_.length eStream, mkD_len, List.length_take]; congr 2; omega
      obtain ⟨v0, v1, v2, v3, v4, cc0, cc1, cc2, cc3, cc4, rfl, ho0, ho1, ho2, ho3, ho4, rfl⟩ := hm
      obtain ⟨hbx0, hbx1, hbx2, hbx3, hbx4, hbx5⟩ := hall x (List.mem_of_getElem? hx)
      have hle_x : x.le 1048576 := hall x (List.mem_of_getElem? hx)
      obtain ⟨R0_, b0_, rfl, hR0_, hrd0_⟩ := ho0.shape eInt
      obtain ⟨R1_, b1_, rfl, hR1_, hrd1_⟩ := ho1.shape eRange
      obtain ⟨R2_, b2_, rfl, hR2_, hrd2_⟩ := ho2.shape eRange
      obtain ⟨R3_, b3_, rfl, hR3_, hrd3_⟩ := ho3.shape eRange
      obtain ⟨R4_, b4_, rfl, hR4_, hrd4_⟩ := ho4.shape eChunk
      refine gw_B blk_open <| gw_F (F' := hD ++ (cc0 ++ (cc1 ++ (cc2 ++ (cc3 ++ (cc4 ++ (hR2 ++ ([])))))))) (by simp only [List.append_assoc]) <| SK <| SQ <| BK <| SQ <| RG <| MV rfl rfl <| MV rfl rfl <| MV rfl rfl <| rw_indexAddrO (i) rfl tyE_S_impl_Stream rfl rfl rfl hi2 <| FA rfl tyF_impl_Stream_0 rfl <| rw_storeM (off := 0) (j := 0) [_] [_, _, _, _, _, _, _, _, _, _, _, _, _, _, _, _, _, _, _, _, _, _, _, _, _, _, _, _, _, _, _, _, _, _, _, _, _, _, _] [_] tyP_int.sz rfl (mid_q (o := 0) hal) rfl rfl rfl rfl rfl rfl rfl rfl <| ND <| SQ <| RG <| MV rfl rfl <| ?_
      refine rw_addK (Kk + 1) rfl rfl rfl (kinc0 (kup hkb)) <| AS rfl rfl <| ND <| gw_sub (Sub.cons (i := 0) rfl (Sub.cons (i := 1) rfl (Sub.cons (i := 4) rfl (Sub.cons (i := 5) rfl (Sub.nil _))))) <| SQ <| RG <| MV rfl rfl <| MV rfl rfl <| MV rfl rfl <| rw_indexAddrO (i) rfl tyE_S_impl_Stream rfl rfl rfl hi2 <| FA rfl tyF_impl_Stream_1 rfl <| FA rfl tyF_impl_Sender_0 rfl <| rw_storeM (off := 1) (j := 0) [_] [_, _, _, _, _, _, _, _, _, _, _, _, _, _, _, _, _, _, _, _, _, _, _, _, _, _, _, _, _, _, _, _, _, _, _, _, _, _, _] [_] tyP_int.sz rfl (mid_q (o := 1) hal) rfl rfl rfl rfl rfl rfl rfl rfl <| ?_
      refine ND <| SQ <| RG <| MV rfl rfl <| rw_addK (Kk + 2) rfl rfl rfl (kinc (kup hkb) (by decide) (by decide) (by decide)) <| AS rfl rfl <| ND <| SQ <| RG <| MV rfl rfl <| MV rfl rfl <| MV rfl rfl <| rw_indexAddrO (i) rfl tyE_S_impl_Stream rfl rfl rfl hi2 <| FA rfl tyF_impl_Stream_1 rfl <| FA rfl tyF_impl_Sender_1 rfl <| FA rfl tyF_impl_Ring_0 rfl <| rw_storeM (off := 2) (j := 0) [_] [_, _, _, _, _, _, _, _, _, _, _, _, _, _, _, _, _, _, _, _, _, _, _, _, _, _, _, _, _, _, _, _, _, _, _, _, _, _, _] [_] tyP_int.sz rfl (mid_q (o := 2) hal) rfl rfl rfl rfl rfl rfl rfl rfl <| ?_
      refine ND <| gw_sub (Sub.cons (i := 0) rfl (Sub.cons (i := 1) rfl (Sub.cons (i := 4) rfl (Sub.cons (i := 5) rfl (Sub.nil _))))) <| SQ <| RG <| MV rfl rfl <| rw_addK (Kk + 3) rfl rfl rfl (kinc (kup hkb) (by decide) (by decide) (by decide)) <| AS rfl rfl <| ND <| SQ <| RG <| MV rfl rfl <| MV rfl rfl <| MV rfl rfl <| rw_indexAddrO (i) rfl tyE_S_impl_Stream rfl rfl rfl hi2 <| FA rfl tyF_impl_Stream_1 rfl <| FA rfl tyF_impl_Sender_1 rfl <| FA rfl tyF_impl_Ring_1 rfl <| rw_storeM (off := 3) (j := 0) [_] [_, _, _, _, _, _, _, _, _, _, _, _, _, _, _, _, _, _, _, _, _, _, _, _, _, _, _, _, _, _, _, _, _, _, _, _, _, _, _] [_] tyP_int.sz rfl (mid_q (o := 3) hal) rfl rfl rfl rfl rfl rfl rfl rfl <| ?_
      refine ND <| SQ <| RG <| MV rfl rfl <| rw_addK (Kk + 4) rfl rfl rfl (kinc (kup hkb) (by decide) (by decide) (by decide)) <| AS rfl rfl <| ND <| gw_sub (Sub.cons (i := 0) rfl (Sub.cons (i := 1) rfl (Sub.cons (i := 4) rfl (Sub.cons (i := 5) rfl (Sub.nil _))))) <| SQ <| RG <| MV rfl rfl <| MV rfl rfl <| MV rfl rfl <| rw_indexAddrO (i) rfl tyE_S_impl_Stream rfl rfl rfl hi2 <| FA rfl tyF_impl_Stream_1 rfl <| FA rfl tyF_impl_Sender_1 rfl <| FA rfl tyF_impl_Ring_2 rfl <| rw_storeM (off := 4) (j := 0) [_] [_, _, _, _, _, _, _, _, _, _, _, _, _, _, _, _, _, _, _, _, _, _, _, _, _, _, _, _, _, _, _, _, _, _, _, _, _, _, _] [_] tyP_int.sz rfl (mid_q (o := 4) hal) rfl rfl rfl rfl rfl rfl rfl rfl <| ?_
      refine ND <| SQ <| RG <| MV rfl rfl <| rw_addK (Kk + 5) rfl rfl rfl (kinc (kup hkb) (by decide) (by decide) (by decide)) <| AS rfl rfl <| ND <| SQ <| RG <| MV rfl rfl <| MV rfl rfl <| rw_indexAddrO (i) rfl tyE_S_impl_Stream rfl rfl rfl hi2 <| FA rfl tyF_impl_Stream_1 rfl <| FA rfl tyF_impl_Sender_1 rfl <| FA rfl tyF_impl_Ring_3 rfl <| rw_loadM (off := 5) (j := 0) rfl tyP_S_int rfl (mid_q (o := 5) hal) rfl rfl <| MV rfl rfl <| rw_ch (G := cc0) (R := hD ++ (cc1 ++ (cc2 ++ (cc3 ++ (cc4 ++ (hR2 ++ ([]))))))) rfl fun_laws_markIntS rfl ((((((List.Perm.refl _)).append_left _).trans (pullc _ _ _)).trans ((List.Perm.refl _).append_left _))) (fun w hs hin hnd => laws_markIntS ho0 hbx0 (ktoc hkb (by decide) (by decide) (by decide)) hin hnd) <| fun vh3 ch3 how3 => ?_
      obtain ⟨rfl, hO3_0⟩ := how3
      obtain ⟨hn3_0, hrv3_0, hR3_0, hrd3_0⟩ := hO3_0.reshape eInt
      have hkb4 : 0 ≤ (kS1 Kk x) ∧ (kS1 Kk x) ≤ 1135795566018609 := by
        have hkt := kS_bd hle_x Kk
        omega
      refine AS rfl rfl <| ND <| gw_sub (Sub.cons (i := 0) rfl (Sub.cons (i := 1) rfl (Sub.cons (i := 4) rfl (Sub.cons (i := 5) rfl (Sub.nil _))))) <| SQ <| RG <| MV rfl rfl <| MV rfl rfl <| rw_indexAddrO (i) rfl tyE_S_impl_Stream rfl rfl rfl hi2 <| FA rfl tyF_impl_Stream_1 rfl <| FA rfl tyF_impl_Sender_2 rfl <| rw_loadM (off := 6) (j := 0) rfl tyP_S_impl_Range rfl (mid_q (o := 6) hal) rfl rfl <| MV rfl rfl <| rw_ch (G := cc1) (R := ch3 ++ (hD ++ (cc2 ++ (cc3 ++ (cc4 ++ (hR2 ++ ([]))))))) rfl fun_laws_markRangeS rfl (((((((((List.Perm.refl _)).append_left _).trans (pullc _ _ _))).append_left _).trans (pullc _ _ _)).trans ((List.Perm.refl _).append_left _))) (fun w hs hin hnd => laws_markRangeS ho1 hbx1 (kto hkb4 (by decide) (by decide) (by decide)) hin hnd) <| fun vh5 ch5 how5 => ?_
      obtain ⟨rfl, hO5_0⟩ := how5
      obtain ⟨hn5_0, hrv5_0, hR5_0, hrd5_0⟩ := hO5_0.reshape eRange
      have hkb6 : 0 ≤ (kS2 Kk x) ∧ (kS2 Kk x) ≤ 1135795566018609 := by
        have hkt := kS_bd hle_x Kk
        omega
      refine AS rfl rfl <| ND <| SQ <| RG <| MV rfl rfl <| MV rfl rfl <| rw_indexAddrO (i) rfl tyE_S_impl_Stream rfl rfl rfl hi2 <| FA rfl tyF_impl_Stream_1 rfl <| FA rfl tyF_impl_Sender_3 rfl <| rw_loadM (off := 7) (j := 0) rfl tyP_S_impl_Range rfl (mid_q (o := 7) hal) rfl rfl <| MV rfl rfl <| rw_ch (G := cc2) (R := ch5 ++ (ch3 ++ (hD ++ (cc3 ++ (cc4 ++ (hR2 ++ ([]))))))) rfl fun_laws_markRangeS rfl ((((((((((((List.Perm.refl _)).append_left _).trans (pullc _ _ _))).append_left _).trans (pullc _ _ _))).append_left _).trans (pullc _ _ _)).trans ((List.Perm.refl _).append_left _))) (fun w hs hin hnd => laws_markRangeS ho2 hbx2 (kto hkb6 (by decide) (by decide) (by decide)) hin hnd) <| fun vh7 ch7 how7 => ?_
      obtain ⟨rfl, hO7_0⟩ := how7
      obtain ⟨hn7_0, hrv7_0, hR7_0, hrd7_0⟩ := hO7_0.reshape eRange
      have hkb8 : 0 ≤ (kS3 Kk x) ∧ (kS3 Kk x) ≤ 1135795566018609 := by
        have hkt := kS_bd hle_x Kk
        omega
      refine AS rfl rfl <| ND <| gw_sub (Sub.cons (i := 0) rfl (Sub.cons (i := 1) rfl (Sub.cons (i := 4) rfl (Sub.cons (i := 5) rfl (Sub.nil _))))) <| SQ <| RG <| MV rfl rfl <| MV rfl rfl <| rw_indexAddrO (i) rfl tyE_S_impl_Stream rfl rfl rfl hi2 <| FA rfl tyF_impl_Stream_1 rfl <| FA rfl tyF_impl_Sender_4 rfl <| rw_loadM (off := 8) (j := 0) rfl tyP_S_impl_Range rfl (mid_q (o := 8) hal) rfl rfl <| MV rfl rfl <| rw_ch (G := cc3) (R := ch7 ++ (ch5 ++ (ch3 ++ (hD ++ (cc4 ++ (hR2 ++ ([]))))))) rfl fun_laws_markRangeS rfl (((((((((((((((List.Perm.refl _)).append_left _).trans (pullc _ _ _))).append_left _).trans (pullc _ _ _))).append_left _).trans (pullc _ _ _))).append_left _).trans (pullc _ _ _)).trans ((List.Perm.refl _).append_left _))) (fun w hs hin hnd => laws_markRangeS ho3 hbx3 (kto hkb8 (by decide) (by decide) (by decide)) hin hnd) <| fun vh9 ch9 how9 => ?_
      obtain ⟨rfl, hO9_0⟩ := how9
      obtain ⟨hn9_0, hrv9_0, hR9_0, hrd9_0⟩ := hO9_0.reshape eRange
      have hkb10 : 0 ≤ (kS4 Kk x) ∧ (kS4 Kk x) ≤ 1135795566018609 := by
        have hkt := kS_bd hle_x Kk
        omega
      refine AS rfl rfl <| ND <| SQ <| RG <| MV rfl rfl <| MV rfl rfl <| MV rfl rfl <| rw_indexAddrO (i) rfl tyE_S_impl_Stream rfl rfl rfl hi2 <| FA rfl tyF_impl_Stream_1 rfl <| FA rfl tyF_impl_Sender_5 rfl <| rw_storeM (off := 9) (j := 0) [_] [_, _, _, _, _, _, _, _, _, _, _, _, _, _, _, _, _, _, _, _, _, _, _, _, _, _, _, _, _, _, _, _, _, _, _, _, _, _, _] [_] tyP_int.sz rfl (mid_q (o := 9) hal) rfl rfl rfl rfl rfl rfl rfl rfl <| ND <| gw_sub (Sub.cons (i := 0) rfl (Sub.cons (i := 1) rfl (Sub.cons (i := 4) rfl (Sub.cons (i := 5) rfl (Sub.nil _))))) <| ?_
      refine SQ <| RG <| MV rfl rfl <| rw_addK ((kS4 Kk x) + 1) rfl rfl rfl (kinc0 (kup hkb10)) <| AS rfl rfl <| ND <| SQ <| RG <| MV rfl rfl <| MV rfl rfl <| MV rfl rfl <| rw_indexAddrO (i) rfl tyE_S_impl_Stream rfl rfl rfl hi2 <| FA rfl tyF_impl_Stream_1 rfl <| FA rfl tyF_impl_Sender_6 rfl <| rw_storeM (off := 10) (j := 0) [_] [_, _, _, _, _, _, _, _, _, _, _, _, _, _, _, _, _, _, _, _, _, _, _, _, _, _, _, _, _, _, _, _, _, _, _, _, _, _, _] [_] tyP_int.sz rfl (mid_q (o := 10) hal) rfl rfl rfl rfl rfl rfl rfl rfl <| ?_
      refine ND <| SQ <| RG <| MV rfl rfl <| rw_addK ((kS4 Kk x) + 2) rfl rfl rfl (kinc (kup hkb10) (by decide) (by decide) (by decide)) <| AS rfl rfl <| ND <| gw_sub (Sub.cons (i := 0) rfl (Sub.cons (i := 1) rfl (Sub.cons (i := 4) rfl (Sub.cons (i := 5) rfl (Sub.nil _))))) <| SQ <| RG <| MV rfl rfl <| MV rfl rfl <| MV rfl rfl <| rw_indexAddrO (i) rfl tyE_S_impl_Stream rfl rfl rfl hi2 <| FA rfl tyF_impl_Stream_1 rfl <| FA rfl tyF_impl_Sender_7 rfl <| rw_storeM (off := 11) (j := 0) [_] [_, _, _, _, _, _, _, _, _, _, _, _, _, _, _, _, _, _, _, _, _, _, _, _, _, _, _, _, _, _, _, _, _, _, _, _, _, _, _] [_] tyP_int.sz rfl (mid_q (o := 11) hal) rfl rfl rfl rfl rfl rfl rfl rfl <| ?_
      refine ND <| SQ <| RG <| MV rfl rfl <| rw_addK ((kS4 Kk x) + 3) rfl rfl rfl (kinc (kup hkb10) (by decide) (by decide) (by decide)) <| AS rfl rfl <| ND <| SQ <| RG <| MV rfl rfl <| MV rfl rfl <| MV rfl rfl <| rw_indexAddrO (i) rfl tyE_S_impl_Stream rfl rfl rfl hi2 <| FA rfl tyF_impl_Stream_1 rfl <| FA rfl tyF_impl_Sender_8 rfl <| rw_storeM (off := 12) (j := 0) [_] [_, _, _, _, _, _, _, _, _, _, _, _, _, _, _, _, _, _, _, _, _, _, _, _, _, _, _, _, _, _, _, _, _, _, _, _, _, _, _] [_] tyP_int.sz rfl (mid_q (o := 12) hal) rfl rfl rfl rfl rfl rfl rfl rfl <| ?_
      refine ND <| gw_sub (Sub.cons (i := 0) rfl (Sub.cons (i := 1) rfl (Sub.cons (i := 4) rfl (Sub.cons (i := 5) rfl (Sub.nil _))))) <| SQ <| RG <| MV rfl rfl <| rw_addK ((kS4 Kk x) + 4) rfl rfl rfl (kinc (kup hkb10) (by decide) (by decide) (by decide)) <| AS rfl rfl <| ND <| SQ <| RG <| MV rfl rfl <| MV rfl rfl <| MV rfl rfl <| rw_indexAddrO (i) rfl tyE_S_impl_Stream rfl rfl rfl hi2 <| FA rfl tyF_impl_Stream_2 rfl <| FA rfl tyF_impl_Credit_0 rfl <| rw_storeM (off := 13) (j := 0) [_] [_, _, _, _, _, _, _, _, _, _, _, _, _, _, _, _, _, _, _, _, _, _, _, _, _, _, _, _, _, _, _, _, _, _, _, _, _, _, _] [_] tyP_int.sz rfl (mid_q (o := 13) hal) rfl rfl rfl rfl rfl rfl rfl rfl <| ?_
      refine ND <| SQ <| RG <| MV rfl rfl <| rw_addK ((kS4 Kk x) + 5) rfl rfl rfl (kinc (kup hkb10) (by decide) (by decide) (by decide)) <| AS rfl rfl <| ND <| gw_sub (Sub.cons (i := 0) rfl (Sub.cons (i := 1) rfl (Sub.cons (i := 4) rfl (Sub.cons (i := 5) rfl (Sub.nil _))))) <| SQ <| RG <| MV rfl rfl <| MV rfl rfl <| MV rfl rfl <| rw_indexAddrO (i) rfl tyE_S_impl_Stream rfl rfl rfl hi2 <| FA rfl tyF_impl_Stream_2 rfl <| FA rfl tyF_impl_Credit_1 rfl <| rw_storeM (off := 14) (j := 0) [_] [_, _, _, _, _, _, _, _, _, _, _, _, _, _, _, _, _, _, _, _, _, _, _, _, _, _, _, _, _, _, _, _, _, _, _, _, _, _, _] [_] tyP_int.sz rfl (mid_q (o := 14) hal) rfl rfl rfl rfl rfl rfl rfl rfl <| ?_
      refine ND <| SQ <| RG <| MV rfl rfl <| rw_addK ((kS4 Kk x) + 6) rfl rfl rfl (kinc (kup hkb10) (by decide) (by decide) (by decide)) <| AS rfl rfl <| ND <| SQ <| RG <| MV rfl rfl <| MV rfl rfl <| MV rfl rfl <| rw_indexAddrO (i) rfl tyE_S_impl_Stream rfl rfl rfl hi2 <| FA rfl tyF_impl_Stream_2 rfl <| FA rfl tyF_impl_Credit_2 rfl <| rw_storeM (off := 15) (j := 0) [_] [_, _, _, _, _, _, _, _, _, _, _, _, _, _, _, _, _, _, _, _, _, _, _, _, _, _, _, _, _, _, _, _, _, _, _, _, _, _, _] [_] tyP_int.sz rfl (mid_q (o := 15) hal) rfl rfl rfl rfl rfl rfl rfl rfl <| ?_
      refine ND <| gw_sub (Sub.cons (i := 0) rfl (Sub.cons (i := 1) rfl (Sub.cons (i := 4) rfl (Sub.cons (i := 5) rfl (Sub.nil _))))) <| SQ <| RG <| MV rfl rfl <| rw_addK ((kS4 Kk x) + 7) rfl rfl rfl (kinc (kup hkb10) (by decide) (by decide) (by decide)) <| AS rfl rfl <| ND <| SQ <| RG <| MV rfl rfl <| MV rfl rfl <| MV rfl rfl <| rw_indexAddrO (i) rfl tyE_S_impl_Stream rfl rfl rfl hi2 <| FA rfl tyF_impl_Stream_2 rfl <| FA rfl tyF_impl_Credit_3 rfl <| rw_storeM (off := 16) (j := 0) [_] [_, _, _, _, _, _, _, _, _, _, _, _, _, _, _, _, _, _, _, _, _, _, _, _, _, _, _, _, _, _, _, _, _, _, _, _, _, _, _] [_] tyP_int.sz rfl (mid_q (o := 16) hal) rfl rfl rfl rfl rfl rfl rfl rfl <| ?_
      refine ND <| SQ <| RG <| MV rfl rfl <| rw_addK ((kS4 Kk x) + 8) rfl rfl rfl (kinc (kup hkb10) (by decide) (by decide) (by decide)) <| AS rfl rfl <| ND <| gw_sub (Sub.cons (i := 0) rfl (Sub.cons (i := 1) rfl (Sub.cons (i := 4) rfl (Sub.cons (i := 5) rfl (Sub.nil _))))) <| SQ <| RG <| MV rfl rfl <| MV rfl rfl <| MV rfl rfl <| rw_indexAddrO (i) rfl tyE_S_impl_Stream rfl rfl rfl hi2 <| FA rfl tyF_impl_Stream_3 rfl <| FA rfl tyF_impl_Receiver_0 rfl <| rw_storeM (off := 17) (j := 0) [_] [_, _, _, _, _, _, _, _, _, _, _, _, _, _, _, _, _, _, _, _, _, _, _, _, _, _, _, _, _, _, _, _, _, _, _, _, _, _, _] [_] tyP_int.sz rfl (mid_q (o := 17) hal) rfl rfl rfl rfl rfl rfl rfl rfl <| ?_
      refine ND <| SQ <| RG <| MV rfl rfl <| rw_addK ((kS4 Kk x) + 9) rfl rfl rfl (kinc (kup hkb10) (by decide) (by decide) (by decide)) <| AS rfl rfl <| ND <| SQ <| RG <| MV rfl rfl <| MV rfl rfl <| MV rfl rfl <| rw_indexAddrO (i) rfl tyE_S_impl_Stream rfl rfl rfl hi2 <| FA rfl tyF_impl_Stream_3 rfl <| FA rfl tyF_impl_Receiver_1 rfl <| FA rfl tyF_impl_Buffer_0 rfl <| rw_storeM (off := 18) (j := 0) [_] [_, _, _, _, _, _, _, _, _, _, _, _, _, _, _, _, _, _, _, _, _, _, _, _, _, _, _, _, _, _, _, _, _, _, _, _, _, _, _] [_] tyP_int.sz rfl (mid_q (o := 18) hal) rfl rfl rfl rfl rfl rfl rfl rfl <| ?_
      refine ND <| gw_sub (Sub.cons (i := 0) rfl (Sub.cons (i := 1) rfl (Sub.cons (i := 4) rfl (Sub.cons (i := 5) rfl (Sub.nil _))))) <| SQ <| RG <| MV rfl rfl <| rw_addK ((kS4 Kk x) + 10) rfl rfl rfl (kinc (kup hkb10) (by decide) (by decide) (by decide)) <| AS rfl rfl <| ND <| SQ <| RG <| MV rfl rfl <| MV rfl rfl <| rw_indexAddrO (i) rfl tyE_S_impl_Stream rfl rfl rfl hi2 <| FA rfl tyF_impl_Stream_3 rfl <| FA rfl tyF_impl_Receiver_1 rfl <| FA rfl tyF_impl_Buffer_1 rfl <| rw_loadM (off := 19) (j := 0) rfl tyP_S_impl_Chunk rfl (mid_q (o := 19) hal) rfl rfl <| ?_
      refine MV rfl rfl <| rw_ch (G := cc4) (R := ch9 ++ (ch7 ++ (ch5 ++ (ch3 ++ (hD ++ (hR2 ++ ([]))))))) rfl fun_laws_markChunkS rfl ((((((((((((((((((List.Perm.refl _)).append_left _).trans (pullc _ _ _))).append_left _).trans (pullc _ _ _))).append_left _).trans (pullc _ _ _))).append_left _).trans (pullc _ _ _))).append_left _).trans (pullc _ _ _)).trans ((List.Perm.refl _).append_left _))) (fun w hs hin hnd => laws_markChunkS ho4 hbx4 (ktoc hkb10 (by decide) (by decide) (by decide)) hin hnd) <| fun vh11 ch11 how11 => ?_
      obtain ⟨rfl, hO11_0⟩ := how11
      obtain ⟨hn11_0, hrv11_0, hR11_0, hrd11_0⟩ := hO11_0.reshape eChunk
      have hkb12 : 0 ≤ (kS5 Kk x) ∧ (kS5 Kk x) ≤ 1135795566018609 := by
        have hkt := kS_bd hle_x Kk
        omega
      refine AS rfl rfl <| ND <| gw_sub (Sub.cons (i := 0) rfl (Sub.cons (i := 1) rfl (Sub.cons (i := 4) rfl (Sub.cons (i := 5) rfl (Sub.nil _))))) <| SQ <| RG <| MV rfl rfl <| MV rfl rfl <| MV rfl rfl <| rw_indexAddrO (i) rfl tyE_S_impl_Stream rfl rfl rfl hi2 <| FA rfl tyF_impl_Stream_3 rfl <| FA rfl tyF_impl_Receiver_2 rfl <| rw_storeM (off := 20) (j := 0) [_] [_, _, _, _, _, _, _, _, _, _, _, _, _, _, _, _, _, _, _, _, _, _, _, _, _, _, _, _, _, _, _, _, _, _, _, _, _, _, _] [_] tyP_int.sz rfl (mid_q (o := 20) hal) rfl rfl rfl rfl rfl rfl rfl rfl <| ?_
      refine ND <| SQ <| RG <| MV rfl rfl <| rw_addK ((kS5 Kk x) + 1) rfl rfl rfl (kinc0 (kup hkb12)) <| AS rfl rfl <| ND <| SQ <| RG <| MV rfl rfl <| MV rfl rfl <| MV rfl rfl <| rw_indexAddrO (i) rfl tyE_S_impl_Stream rfl rfl rfl hi2 <| FA rfl tyF_impl_Stream_3 rfl <| FA rfl tyF_impl_Receiver_3 rfl <| rw_storeM (off := 21) (j := 0) [_] [_, _, _, _, _, _, _, _, _, _, _, _, _, _, _, _, _, _, _, _, _, _, _, _, _, _, _, _, _, _, _, _, _, _, _, _, _, _, _] [_] tyP_int.sz rfl (mid_q (o := 21) hal) rfl rfl rfl rfl rfl rfl rfl rfl <| ?_
      refine ND <| gw_sub (Sub.cons (i := 0) rfl (Sub.cons (i := 1) rfl (Sub.cons (i := 4) rfl (Sub.cons (i := 5) rfl (Sub.nil _))))) <| SQ <| RG <| MV rfl rfl <| rw_addK ((kS5 Kk x) + 2) rfl rfl rfl (kinc (kup hkb12) (by decide) (by decide) (by decide)) <| AS rfl rfl <| ND <| SQ <| RG <| MV rfl rfl <| MV rfl rfl <| MV rfl rfl <| rw_indexAddrO (i) rfl tyE_S_impl_Stream rfl rfl rfl hi2 <| FA rfl tyF_impl_Stream_3 rfl <| FA rfl tyF_impl_Receiver_4 rfl <| rw_storeM (off := 22) (j := 0) [_] [_, _, _, _, _, _, _, _, _, _, _, _, _, _, _, _, _, _, _, _, _, _, _, _, _, _, _, _, _, _, _, _, _, _, _, _, _, _, _] [_] tyP_int.sz rfl (mid_q (o := 22) hal) rfl rfl rfl rfl rfl rfl rfl rfl <| ?_
      refine ND <| SQ <| RG <| MV rfl rfl <| rw_addK ((kS5 Kk x) + 3) rfl rfl rfl (kinc (kup hkb12) (by decide) (by decide) (by decide)) <| AS rfl rfl <| ND <| gw_sub (Sub.cons (i := 0) rfl (Sub.cons (i := 1) rfl (Sub.cons (i := 4) rfl (Sub.cons (i := 5) rfl (Sub.nil _))))) <| SQ <| RG <| MV rfl rfl <| MV rfl rfl <| MV rfl rfl <| rw_indexAddrO (i) rfl tyE_S_impl_Stream rfl rfl rfl hi2 <| FA rfl tyF_impl_Stream_4 rfl <| FA rfl tyF_impl_Window_0 rfl <| rw_storeM (off := 23) (j := 0) [_] [_, _, _, _, _, _, _, _, _, _, _, _, _, _, _, _, _, _, _, _, _, _, _, _, _, _, _, _, _, _, _, _, _, _, _, _, _, _, _] [_] tyP_int.sz rfl (mid_q (o := 23) hal) rfl rfl rfl rfl rfl rfl rfl rfl <| ?_
      refine ND <| SQ <| RG <| MV rfl rfl <| rw_addK ((kS5 Kk x) + 4) rfl rfl rfl (kinc (kup hkb12) (by decide) (by decide) (by decide)) <| AS rfl rfl <| ND <| SQ <| RG <| MV rfl rfl <| MV rfl rfl <| MV rfl rfl <| rw_indexAddrO (i) rfl tyE_S_impl_Stream rfl rfl rfl hi2 <| FA rfl tyF_impl_Stream_4 rfl <| FA rfl tyF_impl_Window_1 rfl <| rw_storeM (off := 24) (j := 0) [_] [_, _, _, _, _, _, _, _, _, _, _, _, _, _, _, _, _, _, _, _, _, _, _, _, _, _, _, _, _, _, _, _, _, _, _, _, _, _, _] [_] tyP_int.sz rfl (mid_q (o := 24) hal) rfl rfl rfl rfl rfl rfl rfl rfl <| ?_
      refine ND <| gw_sub (Sub.cons (i := 0) rfl (Sub.cons (i := 1) rfl (Sub.cons (i := 4) rfl (Sub.cons (i := 5) rfl (Sub.nil _))))) <| SQ <| RG <| MV rfl rfl <| rw_addK ((kS5 Kk x) + 5) rfl rfl rfl (kinc (kup hkb12) (by decide) (by decide) (by decide)) <| AS rfl rfl <| ND <| SQ <| RG <| MV rfl rfl <| MV rfl rfl <| MV rfl rfl <| rw_indexAddrO (i) rfl tyE_S_impl_Stream rfl rfl rfl hi2 <| FA rfl tyF_impl_Stream_4 rfl <| FA rfl tyF_impl_Window_2 rfl <| rw_storeM (off := 25) (j := 0) [_] [_, _, _, _, _, _, _, _, _, _, _, _, _, _, _, _, _, _, _, _, _, _, _, _, _, _, _, _, _, _, _, _, _, _, _, _, _, _, _] [_] tyP_int.sz rfl (mid_q (o := 25) hal) rfl rfl rfl rfl rfl rfl rfl rfl <| ?_
      refine ND <| SQ <| RG <| MV rfl rfl <| rw_addK ((kS5 Kk x) + 6) rfl rfl rfl (kinc (kup hkb12) (by decide) (by decide) (by decide)) <| AS rfl rfl <| ND <| gw_sub (Sub.cons (i := 0) rfl (Sub.cons (i := 1) rfl (Sub.cons (i := 4) rfl (Sub.cons (i := 5) rfl (Sub.nil _))))) <| SQ <| RG <| MV rfl rfl <| MV rfl rfl <| MV rfl rfl <| rw_indexAddrO (i) rfl tyE_S_impl_Stream rfl rfl rfl hi2 <| FA rfl tyF_impl_Stream_4 rfl <| FA rfl tyF_impl_Window_3 rfl <| rw_storeM (off := 26) (j := 0) [_] [_, _, _, _, _, _, _, _, _, _, _, _, _, _, _, _, _, _, _, _, _, _, _, _, _, _, _, _, _, _, _, _, _, _, _, _, _, _, _] [_] tyP_int.sz rfl (mid_q (o := 26) hal) rfl rfl rfl rfl rfl rfl rfl rfl <| ?_
      refine ND <| SQ <| RG <| MV rfl rfl <| rw_addK ((kS5 Kk x) + 7) rfl rfl rfl (kinc (kup hkb12) (by decide) (by decide) (by decide)) <| AS rfl rfl <| ND <| SQ <| RG <| MV rfl rfl <| MV rfl rfl <| MV rfl rfl <| rw_indexAddrO (i) rfl tyE_S_impl_Stream rfl rfl rfl hi2 <| FA rfl tyF_impl_Stream_4 rfl <| FA rfl tyF_impl_Window_4 rfl <| rw_storeM (off := 27) (j := 0) [_] [_, _, _, _, _, _, _, _, _, _, _, _, _, _, _, _, _, _, _, _, _, _, _, _, _, _, _, _, _, _, _, _, _, _, _, _, _, _, _] [_] tyP_int.sz rfl (mid_q (o := 27) hal) rfl rfl rfl rfl rfl rfl rfl rfl <| ?_
      refine ND <| gw_sub (Sub.cons (i := 0) rfl (Sub.cons (i := 1) rfl (Sub.cons (i := 4) rfl (Sub.cons (i := 5) rfl (Sub.nil _))))) <| SQ <| RG <| MV rfl rfl <| rw_addK ((kS5 Kk x) + 8) rfl rfl rfl (kinc (kup hkb12) (by decide) (by decide) (by decide)) <| AS rfl rfl <| ND <| SQ <| RG <| MV rfl rfl <| MV rfl rfl <| MV rfl rfl <| rw_indexAddrO (i) rfl tyE_S_impl_Stream rfl rfl rfl hi2 <| FA rfl tyF_impl_Stream_4 rfl <| FA rfl tyF_impl_Window_5 rfl <| rw_storeM (off := 28) (j := 0) [_] [_, _, _, _, _, _, _, _, _, _, _, _, _, _, _, _, _, _, _, _, _, _, _, _, _, _, _, _, _, _, _, _, _, _, _, _, _, _, _] [_] tyP_int.sz rfl (mid_q (o := 28) hal) rfl rfl rfl rfl rfl rfl rfl rfl <| ?_
      refine ND <| SQ <| RG <| MV rfl rfl <| rw_addK ((kS5 Kk x) + 9) rfl rfl rfl (kinc (kup hkb12) (by decide) (by decide) (by decide)) <| AS rfl rfl <| ND <| gw_sub (Sub.cons (i := 0) rfl (Sub.cons (i := 1) rfl (Sub.cons (i := 4) rfl (Sub.cons (i := 5) rfl (Sub.nil _))))) <| SQ <| RG <| MV rfl rfl <| MV rfl rfl <| MV rfl rfl <| rw_indexAddrO (i) rfl tyE_S_impl_Stream rfl rfl rfl hi2 <| FA rfl tyF_impl_Stream_5 rfl <| FA rfl tyF_impl_Priority_0 rfl <| rw_storeM (off := 29) (j := 0) [_] [_, _, _, _, _, _, _, _, _, _, _, _, _, _, _, _, _, _, _, _, _, _, _, _, _, _, _, _, _, _, _, _, _, _, _, _, _, _, _] [_] tyP_int.sz rfl (mid_q (o := 29) hal) rfl rfl rfl rfl rfl rfl rfl rfl <| ?_
      refine ND <| SQ <| RG <| MV rfl rfl <| rw_addK ((kS5 Kk x) + 10) rfl rfl rfl (kinc (kup hkb12) (by decide) (by decide) (by decide)) <| AS rfl rfl <| ND <| SQ <| RG <| MV rfl rfl <| MV rfl rfl <| MV rfl rfl <| rw_rem rfl rfl rfl (by decide) <| EQ1 rfl rfl rfl <| rw_indexAddrO (i) rfl tyE_S_impl_Stream rfl rfl rfl hi2 <| FA rfl tyF_impl_Stream_5 rfl <| FA rfl tyF_impl_Priority_1 rfl <| rw_storeM (off := 30) (j := 0) [_] [_, _, _, _, _, _, _, _, _, _, _, _, _, _, _, _, _, _, _, _, _, _, _, _, _, _, _, _, _, _, _, _, _, _, _, _, _, _, _] [_] tyP_bool.sz rfl (mid_q (o := 30) hal) rfl rfl rfl rfl rfl rfl rfl rfl <| ?_
      refine ND <| gw_sub (Sub.cons (i := 0) rfl (Sub.cons (i := 1) rfl (Sub.cons (i := 4) rfl (Sub.cons (i := 5) rfl (Sub.nil _))))) <| SQ <| RG <| MV rfl rfl <| rw_addK ((kS5 Kk x) + 11) rfl rfl rfl (kinc (kup hkb12) (by decide) (by decide) (by decide)) <| AS rfl rfl <| ND <| SQ <| RG <| MV rfl rfl <| MV rfl rfl <| MV rfl rfl <| rw_rem rfl rfl rfl (by decide) <| EQ1 rfl rfl rfl <| rw_indexAddrO (i) rfl tyE_S_impl_Stream rfl rfl rfl hi2 <| FA rfl tyF_impl_Stream_6 rfl <| rw_storeM (off := 31) (j := 0) [_] [_, _, _, _, _, _, _, _, _, _, _, _, _, _, _, _, _, _, _, _, _, _, _, _, _, _, _, _, _, _, _, _, _, _, _, _, _, _, _] [_] tyP_bool.sz rfl (mid_q (o := 31) hal) rfl rfl rfl rfl rfl rfl rfl rfl <| ?_
      refine ND <| SQ <| RG <| MV rfl rfl <| rw_addK ((kS5 Kk x) + 12) rfl rfl rfl (kinc (kup hkb12) (by decide) (by decide) (by decide)) <| AS rfl rfl <| ND <| gw_sub (Sub.cons (i := 0) rfl (Sub.cons (i := 1) rfl (Sub.cons (i := 4) rfl (Sub.cons (i := 5) rfl (Sub.nil _))))) <| SQ <| RG <| MV rfl rfl <| MV rfl rfl <| MV rfl rfl <| rw_rem rfl rfl rfl (by decide) <| EQ1 rfl rfl rfl <| rw_indexAddrO (i) rfl tyE_S_impl_Stream rfl rfl rfl hi2 <| FA rfl tyF_impl_Stream_7 rfl <| rw_storeM (off := 32) (j := 0) [_] [_, _, _, _, _, _, _, _, _, _, _, _, _, _, _, _, _, _, _, _, _, _, _, _, _, _, _, _, _, _, _, _, _, _, _, _, _, _, _] [_] tyP_bool.sz rfl (mid_q (o := 32) hal) rfl rfl rfl rfl rfl rfl rfl rfl <| ?_
      refine ND <| SQ <| RG <| MV rfl rfl <| rw_addK ((kS5 Kk x) + 13) rfl rfl rfl (kinc (kup hkb12) (by decide) (by decide) (by decide)) <| AS rfl rfl <| ND <| SQ <| RG <| MV rfl rfl <| MV rfl rfl <| MV rfl rfl <| rw_rem rfl rfl rfl (by decide) <| EQ1 rfl rfl rfl <| rw_indexAddrO (i) rfl tyE_S_impl_Stream rfl rfl rfl hi2 <| FA rfl tyF_impl_Stream_8 rfl <| rw_storeM (off := 33) (j := 0) [_] [_, _, _, _, _, _, _, _, _, _, _, _, _, _, _, _, _, _, _, _, _, _, _, _, _, _, _, _, _, _, _, _, _, _, _, _, _, _, _] [_] tyP_bool.sz rfl (mid_q (o := 33) hal) rfl rfl rfl rfl rfl rfl rfl rfl <| ?_
      refine ND <| gw_sub (Sub.cons (i := 0) rfl (Sub.cons (i := 1) rfl (Sub.cons (i := 4) rfl (Sub.cons (i := 5) rfl (Sub.nil _))))) <| SQ <| RG <| MV rfl rfl <| rw_addK ((kS5 Kk x) + 14) rfl rfl rfl (kinc (kup hkb12) (by decide) (by decide) (by decide)) <| AS rfl rfl <| ND <| SQ <| RG <| MV rfl rfl <| MV rfl rfl <| MV rfl rfl <| rw_rem rfl rfl rfl (by decide) <| EQ1 rfl rfl rfl <| rw_indexAddrO (i) rfl tyE_S_impl_Stream rfl rfl rfl hi2 <| FA rfl tyF_impl_Stream_9 rfl <| rw_storeM (off := 34) (j := 0) [_] [_, _, _, _, _, _, _, _, _, _, _, _, _, _, _, _, _, _, _, _, _, _, _, _, _, _, _, _, _, _, _, _, _, _, _, _, _, _, _] [_] tyP_bool.sz rfl (mid_q (o := 34) hal) rfl rfl rfl rfl rfl rfl rfl rfl <| ?_
      refine ND <| SQ <| RG <| MV rfl rfl <| rw_addK ((kS5 Kk x) + 15) rfl rfl rfl (kinc (kup hkb12) (by decide) (by decide) (by decide)) <| AS rfl rfl <| ND <| gw_sub (Sub.cons (i := 0) rfl (Sub.cons (i := 1) rfl (Sub.cons (i := 4) rfl (Sub.cons (i := 5) rfl (Sub.nil _))))) <| SQ <| RG <| MV rfl rfl <| MV rfl rfl <| MV rfl rfl <| rw_rem rfl rfl rfl (by decide) <| EQ1 rfl rfl rfl <| rw_indexAddrO (i) rfl tyE_S_impl_Stream rfl rfl rfl hi2 <| FA rfl tyF_impl_Stream_10 rfl <| rw_storeM (off := 35) (j := 0) [_] [_, _, _, _, _, _, _, _, _, _, _, _, _, _, _, _, _, _, _, _, _, _, _, _, _, _, _, _, _, _, _, _, _, _, _, _, _, _, _] [_] tyP_bool.sz rfl (mid_q (o := 35) hal) rfl rfl rfl rfl rfl rfl rfl rfl <| ?_
      refine ND <| SQ <| RG <| MV rfl rfl <| rw_addK ((kS5 Kk x) + 16) rfl rfl rfl (kinc (kup hkb12) (by decide) (by decide) (by decide)) <| AS rfl rfl <| ND <| SQ <| RG <| MV rfl rfl <| MV rfl rfl <| MV rfl rfl <| rw_rem rfl rfl rfl (by decide) <| EQ1 rfl rfl rfl <| rw_indexAddrO (i) rfl tyE_S_impl_Stream rfl rfl rfl hi2 <| FA rfl tyF_impl_Stream_11 rfl <| rw_storeM (off := 36) (j := 0) [_] [_, _, _, _, _, _, _, _, _, _, _, _, _, _, _, _, _, _, _, _, _, _, _, _, _, _, _, _, _, _, _, _, _, _, _, _, _, _, _] [_] tyP_bool.sz rfl (mid_q (o := 36) hal) rfl rfl rfl rfl rfl rfl rfl rfl <| ?_
      refine ND <| gw_sub (Sub.cons (i := 0) rfl (Sub.cons (i := 1) rfl (Sub.cons (i := 4) rfl (Sub.cons (i := 5) rfl (Sub.nil _))))) <| SQ <| RG <| MV rfl rfl <| rw_addK ((kS5 Kk x) + 17) rfl rfl rfl (kinc (kup hkb12) (by decide) (by decide) (by decide)) <| AS rfl rfl <| ND <| SQ <| RG <| MV rfl rfl <| MV rfl rfl <| MV rfl rfl <| rw_indexAddrO (i) rfl tyE_S_impl_Stream rfl rfl rfl hi2 <| FA rfl tyF_impl_Stream_12 rfl <| rw_storeM (off := 37) (j := 0) [_] [_, _, _, _, _, _, _, _, _, _, _, _, _, _, _, _, _, _, _, _, _, _, _, _, _, _, _, _, _, _, _, _, _, _, _, _, _, _, _] [_] tyP_int.sz rfl (mid_q (o := 37) hal) rfl rfl rfl rfl rfl rfl rfl rfl <| ?_
      refine ND <| SQ <| RG <| MV rfl rfl <| rw_addK ((kS5 Kk x) + 18) rfl rfl rfl (kinc (kup hkb12) (by decide) (by decide) (by decide)) <| AS rfl rfl <| ND <| SQ <| RG <| MV rfl rfl <| MV rfl rfl <| MV rfl rfl <| rw_rem rfl rfl rfl (by decide) <| EQ1 rfl rfl rfl <| rw_indexAddrO (i) rfl tyE_S_impl_Stream rfl rfl rfl hi2 <| FA rfl tyF_impl_Stream_13 rfl <| rw_storeM (off := 38) (j := 0) [_] [_, _, _, _, _, _, _, _, _, _, _, _, _, _, _, _, _, _, _, _, _, _, _, _, _, _, _, _, _, _, _, _, _, _, _, _, _, _, _] [_] tyP_bool.sz rfl (mid_q (o := 38) hal) rfl rfl rfl rfl rfl rfl rfl rfl <| ?_
      refine ND <| gw_sub (Sub.cons (i := 0) rfl (Sub.cons (i := 1) rfl (Sub.cons (i := 4) rfl (Sub.cons (i := 5) rfl (Sub.nil _))))) <| RG <| MV rfl rfl <| rw_addK ((kS5 Kk x) + 19) rfl rfl rfl (kinc (kup hkb12) (by decide) (by decide) (by decide)) <| AS rfl rfl <| ND <| IB <| RG <| MV rfl rfl <| rw_add rfl rfl rfl <| AS rfl rfl <| ND <| ?_
      refine gw_B blk_assoc <| ?_
      refine gw_FP (((((((((((((((((List.Perm.refl _)).append_left _).trans (pullc _ _ _))).append_left _).trans (pullc _ _ _))).append_left _).trans (pullc _ _ _))).append_left _).trans (pullc _ _ _))).append_left _).trans (pullc _ _ _)).trans (((((((((((((((List.Perm.refl _)).append_left _).trans (pullc _ _ _))).append_left _).trans (pullc _ _ _))).append_left _).trans (pullc _ _ _))).append_left _).trans (pullc _ _ _)).trans ((((((((((((List.Perm.refl _)).append_left _).trans (pullc _ _ _))).append_left _).trans (pullc _ _ _))).append_left _).trans (pullc _ _ _)).trans (((((((((List.Perm.refl _)).append_left _).trans (pullc _ _ _))).append_left _).trans (pullc _ _ _)).trans ((((((List.Perm.refl _)).append_left _).trans (pullc _ _ _)).trans (((List.Perm.refl _).trans (((List.Perm.refl _).trans ((List.Perm.refl _).append_left _)).append_left _)).append_left _)).append_left _)).append_left _)).append_left _)).append_left _)) (gw_F (F' := (hD ++ (ch3 ++ (ch5 ++ (ch7 ++ (ch9 ++ (ch11)))))) ++ (hR2 ++ ([]))) (by simp only [List.append_assoc]) ?_)
      refine gw_sub (Sub.consE (i := 5) rfl (int_succ (by omega)) (Sub.consE (i := 1) rfl rfl (Sub.cons (i := 0) rfl (Sub.cons (i := 4) rfl (Sub.nil _))))) (ih1 (i + 1, kS6 Kk x, cD ++ Stream.row (mkStream Kk x) (.slice R0_ x.send.ring.cells.length b0_) (.slice R1_ x.send.pending.length b1_) (.slice R2_ x.send.flight.length b2_) (.slice R3_ x.send.acked.length b3_) (.slice R4_ x.recv.buffer.chunks.length b4_), cR2, hD ++ (ch3 ++ (ch5 ++ (ch7 ++ (ch9 ++ (ch11))))), hR2) ?_ ?_)
      · exact ⟨by omega, endD_step hx hK, by rw [mkD_step hx hK]; exact hD_.snoc ⟨_, _, _, _, _, _, _, _, _, _, rfl, hO3_0, hO5_0, hO7_0, hO9_0, hO11_0, rfl⟩, hR_2⟩
      · show l.length - (i + 1) < l.length - i; omega
    · have hn13 := ge_of_dec h1
      refine EX rfl <| SQ <| RG <| MV rfl rfl <| AS rfl rfl <| ND <| ?_
      refine ret_ch (⟨g, 56, pre ++ (cD ++ (cR ++ rs))⟩ :: (hD ++ [])) Try.func21 (res1 Try.func21 rfl (rv_tmp rfl)) ?_ ?_
      · obtain rfl : i = l.length := by omega
        rw [List.drop_length] at hR_
        obtain ⟨rfl, rfl⟩ := hR_.nil_inv
        rw [List.take_length] at hK hD_
        refine ⟨by rw [hK], ?_⟩
        rw [List.append_nil]
        exact OwS.closeG hD_ (mkD_len _ _ _ _) hc1 hc2 (by have h1 := hD_.length eStream; rw [mkD_len] at h1; have h2 := hO.length eStream; rw [List.length_append] at hc3 ⊢; rw [List.nil_append]; omega)
      · exact List.Sublist.cons_cons _ (List.Sublist.append_left (List.nil_sublist _) _)

theorem laws_markStreamS_p {w : World} {A : Option Addr} {n c : Nat} {l : List Stream} {ch : List Ck} {k : Int} (hO : OwS 56 39 OwStream (.slice A n c) l ch) (hb : l.length ≤ 1048577) (hall : ∀ x ∈ l, x.le 1048576) (hk : 0 ≤ k ∧ k ≤ 1125899906842624) (hin : ∀ c ∈ ch, c.In w) (hnd : (ch.map Ck.b).Nodup) :
    CH Try.prog 21 [.slice A n c, .int .i64 k] w ch (fun v' ch' => v' = .int .i64 (endD kS6 k l) ∧ OwS 56 39 OwStream (.slice A n c) (mkD mkStream kS6 k l) ch') := by
  rcases hO.openG with ⟨rfl, rfl, rfl, rfl⟩ | ⟨g, pre, rs, cells, chs, rfl, rfl, hO2, rfl, hc1, hc2, hc3⟩
  · exact (laws_markStreamS_p_nil A k w).ch ⟨rfl, ⟨[], .inl ⟨A, rfl, rfl, rfl⟩⟩⟩
  · exact laws_markStreamS_p_b hO2 hb hall hk hc1 hc2 hc3 hin hnd

set_option maxHeartbeats 4000000 in
set_option maxRecDepth 20000 in
theorem laws_heldStreamS_p {w : World} {v : Value} {l : List Stream} {k : Int} (hv : RdS w 39 RdStream v (mkD mkStream kS6 k l)) (hb : l.length ≤ 1048577) (hall : ∀ x ∈ l, x.le 1048576) (hk : 0 ≤ k ∧ k ≤ 1125899906842624) : CV Try.prog 23 [v, .int .i64 k] w (.int .i64 (endD kS6 k l)) := by
  obtain ⟨A, c, rfl, hA⟩ := hv
  have hlm : (mkD mkStream kS6 k l).length = l.length := mkD_len _ _ _ _
  refine cv_of Try.func23 rfl rfl rfl <| SQ <| RG <| AS rfl rfl <| ND <| SQ <| SQ <| RG <| AS rfl rfl <| ND <| BK <| ?_
  refine gw_loopC (α := Nat × Int) (fun z_ => z_.1 ≤ l.length ∧ z_.2 = endD kS6 k (l.take z_.1)) (fun z_ => l.length - z_.1) (fun e z_ => (5, .int .i64 (z_.1 : Int)) :: (1, .int .i64 z_.2) :: e) (0, k) [(0, _)] (Sub.consE rfl rfl (Sub.consE rfl rfl (Sub.cons (i := 0) rfl (Sub.nil _)))) ?_ ?_
  · exact ⟨Nat.zero_le _, rfl⟩
  · rintro ⟨i, Kk⟩ hI1 ih1
    dsimp only at hI1
    dsimp only
    obtain ⟨hle, hK⟩ := hI1
    have hkb : 0 ≤ Kk ∧ Kk ≤ 1135795556581410 := by
      have hkt := endD_le 9437218 (by decide) (i := i) hb (k := k) (fun x hx k => kS6_bd (hall x hx) k)
      rw [← hK] at hkt; omega
    refine SQ <| SQ <| RG <| MV rfl rfl <| MV rfl rfl <| rw_len rfl tyE_S_impl_Stream rfl <| rw_lss rfl rfl rfl <| ND <| ?_
    refine gw_cond rfl (fun h1 => ?_) (fun h1 => ?_)
    · have hi2 := lt_of_dec h1
      obtain ⟨x3, hx3⟩ := get_of_lt hi2
      obtain ⟨y3, hy3, rfl⟩ := mkD_get _ _ _ _ _ _ hx3
      rw [← hK] at hx3
      obtain ⟨hby4_0, hby4_1, hby4_2, hby4_3, hby4_4, hby4_5⟩ := hall y3 (List.mem_of_getElem? hy3)
      have hle_y4 : y3.le 1048576 := hall y3 (List.mem_of_getElem? hy3)
      refine SK <| SQ <| BK <| SQ <| SQ <| RG <| MV rfl rfl <| MV rfl rfl <| ?_
      obtain ⟨cse5_, hRe5_, hq5⟩ := hA.get hx3
      obtain ⟨ve5_0, ve5_1, ve5_2, ve5_3, ve5_4, rfl, ke5_0, ke5_1, ke5_2, ke5_3, ke5_4⟩ := hRe5_
      obtain ⟨Ae5_0, ce5_0, rfl, hAe5_0⟩ := ke5_0
      obtain ⟨Ae5_1, ce5_1, rfl, hAe5_1⟩ := ke5_1
      obtain ⟨Ae5_2, ce5_2, rfl, hAe5_2⟩ := ke5_2
      obtain ⟨Ae5_3, ce5_3, rfl, hAe5_3⟩ := ke5_3
      obtain ⟨Ae5_4, ce5_4, rfl, hAe5_4⟩ := ke5_4
      refine rw_indexAddr (i) rfl tyE_S_impl_Stream rfl rfl rfl (hA.some hi2) hi2 <| FX rfl tyF_impl_Stream_0 rfl <| rw_loadX _ rfl tyP_int rfl (fun w hs => hq5.ld hs rfl) <| MV rfl rfl <| NS rfl rfl rfl <| ND <| gw_sub (Sub.cons (i := 0) rfl (Sub.cons (i := 1) rfl (Sub.cons (i := 5) rfl (Sub.cons (i := 18) rfl (Sub.nil _))))) <| CF rfl rfl <| SK <| SQ <| RG <| MV rfl rfl <| rw_addK (Kk + 1) rfl rfl rfl (kinc0 (kup hkb)) <| AS rfl rfl <| ND <| SQ <| SQ <| RG <| MV rfl rfl <| MV rfl rfl <| rw_indexAddr (i) rfl tyE_S_impl_Stream rfl rfl rfl (hA.some hi2) hi2 <| ?_
      refine FX rfl tyF_impl_Stream_1 rfl <| FX rfl tyF_impl_Sender_0 rfl <| rw_loadX _ rfl tyP_int rfl (fun w hs => hq5.ld2 hs rfl) <| MV rfl rfl <| NS rfl rfl rfl <| ND <| gw_sub (Sub.cons (i := 0) rfl (Sub.cons (i := 1) rfl (Sub.cons (i := 5) rfl (Sub.cons (i := 28) rfl (Sub.nil _))))) <| CF rfl rfl <| SK <| SQ <| RG <| MV rfl rfl <| rw_addK (Kk + 2) rfl rfl rfl (kinc (kup hkb) (by decide) (by decide) (by decide)) <| AS rfl rfl <| ND <| SQ <| SQ <| RG <| MV rfl rfl <| MV rfl rfl <| rw_indexAddr (i) rfl tyE_S_impl_Stream rfl rfl rfl (hA.some hi2) hi2 <| ?_
      refine FX rfl tyF_impl_Stream_1 rfl <| FX rfl tyF_impl_Sender_1 rfl <| FX rfl tyF_impl_Ring_0 rfl <| rw_loadX _ rfl tyP_int rfl (fun w hs => hq5.ld3 hs rfl) <| MV rfl rfl <| NS rfl rfl rfl <| ND <| gw_sub (Sub.cons (i := 0) rfl (Sub.cons (i := 1) rfl (Sub.cons (i := 5) rfl (Sub.cons (i := 39) rfl (Sub.nil _))))) <| CF rfl rfl <| SK <| SQ <| RG <| MV rfl rfl <| rw_addK (Kk + 3) rfl rfl rfl (kinc (kup hkb) (by decide) (by decide) (by decide)) <| AS rfl rfl <| ND <| SQ <| SQ <| RG <| MV rfl rfl <| ?_
      refine MV rfl rfl <| rw_indexAddr (i) rfl tyE_S_impl_Stream rfl rfl rfl (hA.some hi2) hi2 <| FX rfl tyF_impl_Stream_1 rfl <| FX rfl tyF_impl_Sender_1 rfl <| FX rfl tyF_impl_Ring_1 rfl <| rw_loadX _ rfl tyP_int rfl (fun w hs => hq5.ld3 hs rfl) <| MV rfl rfl <| NS rfl rfl rfl <| ND <| gw_sub (Sub.cons (i := 0) rfl (Sub.cons (i := 1) rfl (Sub.cons (i := 5) rfl (Sub.cons (i := 50) rfl (Sub.nil _))))) <| CF rfl rfl <| SK <| SQ <| RG <| MV rfl rfl <| rw_addK (Kk + 4) rfl rfl rfl (kinc (kup hkb) (by decide) (by decide) (by decide)) <| ?_
      refine AS rfl rfl <| ND <| SQ <| SQ <| RG <| MV rfl rfl <| MV rfl rfl <| rw_indexAddr (i) rfl tyE_S_impl_Stream rfl rfl rfl (hA.some hi2) hi2 <| FX rfl tyF_impl_Stream_1 rfl <| FX rfl tyF_impl_Sender_1 rfl <| FX rfl tyF_impl_Ring_2 rfl <| rw_loadX _ rfl tyP_int rfl (fun w hs => hq5.ld3 hs rfl) <| MV rfl rfl <| NS rfl rfl rfl <| ND <| gw_sub (Sub.cons (i := 0) rfl (Sub.cons (i := 1) rfl (Sub.cons (i := 5) rfl (Sub.cons (i := 61) rfl (Sub.nil _))))) <| CF rfl rfl <| SK <| SQ <| RG <| MV rfl rfl <| ?_
      refine rw_addK (Kk + 5) rfl rfl rfl (kinc (kup hkb) (by decide) (by decide) (by decide)) <| AS rfl rfl <| ND <| SQ <| RG <| MV rfl rfl <| MV rfl rfl <| rw_indexAddr (i) rfl tyE_S_impl_Stream rfl rfl rfl (hA.some hi2) hi2 <| FX rfl tyF_impl_Stream_1 rfl <| FX rfl tyF_impl_Sender_1 rfl <| FX rfl tyF_impl_Ring_3 rfl <| rw_loadX _ rfl tyP_S_int rfl (fun w hs => hq5.ld3 hs rfl) <| MV rfl rfl <| CV1 rfl fun_laws_heldIntS rfl (fun w hs => laws_heldIntS (k := (Kk + 5)) (l := y3.send.ring.cells) (hAe5_0.s Pl.keeps hs) hby4_0 (ktoc hkb (by decide) (by decide) (by decide))) <| ?_
      have hkb6 : 0 ≤ (kS1 Kk y3) ∧ (kS1 Kk y3) ≤ 1135795566018609 := by
        have hkt := kS_bd hle_y4 Kk
        omega
      refine AS rfl rfl <| ND <| gw_sub (Sub.cons (i := 0) rfl (Sub.cons (i := 1) rfl (Sub.cons (i := 5) rfl (Sub.nil _)))) <| SQ <| SQ <| RG <| MV rfl rfl <| rw_lss rfl rfl rfl <| ND <| CF rfl (knn (kup hkb6)) <| SK <| SQ <| RG <| MV rfl rfl <| MV rfl rfl <| rw_indexAddr (i) rfl tyE_S_impl_Stream rfl rfl rfl (hA.some hi2) hi2 <| FX rfl tyF_impl_Stream_1 rfl <| FX rfl tyF_impl_Sender_2 rfl <| rw_loadX _ rfl tyP_S_impl_Range rfl (fun w hs => hq5.ld2 hs rfl) <| MV rfl rfl <| CV1 rfl fun_laws_heldRangeS rfl (fun w hs => laws_heldRangeS (k := (kS1 Kk y3)) (l := y3.send.pending) (hAe5_1.s Pl.keeps hs) hby4_1 (kto hkb6 (by decide) (by decide) (by decide))) <| ?_
      have hkb7 : 0 ≤ (kS2 Kk y3) ∧ (kS2 Kk y3) ≤ 1135795566018609 := by
        have hkt := kS_bd hle_y4 Kk
        omega
      refine AS rfl rfl <| ND <| gw_sub (Sub.cons (i := 0) rfl (Sub.cons (i := 1) rfl (Sub.cons (i := 5) rfl (Sub.nil _)))) <| SQ <| SQ <| RG <| MV rfl rfl <| rw_lss rfl rfl rfl <| ND <| CF rfl (knn (kup hkb7)) <| SK <| SQ <| RG <| MV rfl rfl <| MV rfl rfl <| rw_indexAddr (i) rfl tyE_S_impl_Stream rfl rfl rfl (hA.some hi2) hi2 <| FX rfl tyF_impl_Stream_1 rfl <| FX rfl tyF_impl_Sender_3 rfl <| rw_loadX _ rfl tyP_S_impl_Range rfl (fun w hs => hq5.ld2 hs rfl) <| MV rfl rfl <| CV1 rfl fun_laws_heldRangeS rfl (fun w hs => laws_heldRangeS (k := (kS2 Kk y3)) (l := y3.send.flight) (hAe5_2.s Pl.keeps hs) hby4_2 (kto hkb7 (by decide) (by decide) (by decide))) <| ?_
      have hkb8 : 0 ≤ (kS3 Kk y3) ∧ (kS3 Kk y3) ≤ 1135795566018609 := by
        have hkt := kS_bd hle_y4 Kk
        omega
      refine AS rfl rfl <| ND <| gw_sub (Sub.cons (i := 0) rfl (Sub.cons (i := 1) rfl (Sub.cons (i := 5) rfl (Sub.nil _)))) <| SQ <| SQ <| RG <| MV rfl rfl <| rw_lss rfl rfl rfl <| ND <| CF rfl (knn (kup hkb8)) <| SK <| SQ <| RG <| MV rfl rfl <| MV rfl rfl <| rw_indexAddr (i) rfl tyE_S_impl_Stream rfl rfl rfl (hA.some hi2) hi2 <| FX rfl tyF_impl_Stream_1 rfl <| FX rfl tyF_impl_Sender_4 rfl <| rw_loadX _ rfl tyP_S_impl_Range rfl (fun w hs => hq5.ld2 hs rfl) <| MV rfl rfl <| CV1 rfl fun_laws_heldRangeS rfl (fun w hs => laws_heldRangeS (k := (kS3 Kk y3)) (l := y3.send.acked) (hAe5_3.s Pl.keeps hs) hby4_3 (kto hkb8 (by decide) (by decide) (by decide))) <| ?_
      have hkb9 : 0 ≤ (kS4 Kk y3) ∧ (kS4 Kk y3) ≤ 1135795566018609 := by
        have hkt := kS_bd hle_y4 Kk
        omega
      refine AS rfl rfl <| ND <| gw_sub (Sub.cons (i := 0) rfl (Sub.cons (i := 1) rfl (Sub.cons (i := 5) rfl (Sub.nil _)))) <| SQ <| SQ <| RG <| MV rfl rfl <| rw_lss rfl rfl rfl <| ND <| CF rfl (knn (kup hkb9)) <| SK <| SQ <| SQ <| RG <| MV rfl rfl <| MV rfl rfl <| rw_indexAddr (i) rfl tyE_S_impl_Stream rfl rfl rfl (hA.some hi2) hi2 <| FX rfl tyF_impl_Stream_1 rfl <| FX rfl tyF_impl_Sender_5 rfl <| rw_loadX _ rfl tyP_int rfl (fun w hs => hq5.ld2 hs rfl) <| MV rfl rfl <| NS rfl rfl rfl <| ND <| ?_
      refine CF rfl rfl <| SK <| SQ <| RG <| MV rfl rfl <| rw_addK ((kS4 Kk y3) + 1) rfl rfl rfl (kinc0 (kup hkb9)) <| AS rfl rfl <| ND <| gw_sub (Sub.cons (i := 0) rfl (Sub.cons (i := 1) rfl (Sub.cons (i := 5) rfl (Sub.nil _)))) <| SQ <| SQ <| RG <| MV rfl rfl <| MV rfl rfl <| rw_indexAddr (i) rfl tyE_S_impl_Stream rfl rfl rfl (hA.some hi2) hi2 <| FX rfl tyF_impl_Stream_1 rfl <| FX rfl tyF_impl_Sender_6 rfl <| rw_loadX _ rfl tyP_int rfl (fun w hs => hq5.ld2 hs rfl) <| MV rfl rfl <| NS rfl rfl rfl <| ?_
      refine ND <| CF rfl rfl <| SK <| SQ <| RG <| MV rfl rfl <| rw_addK ((kS4 Kk y3) + 2) rfl rfl rfl (kinc (kup hkb9) (by decide) (by decide) (by decide)) <| AS rfl rfl <| ND <| gw_sub (Sub.cons (i := 0) rfl (Sub.cons (i := 1) rfl (Sub.cons (i := 5) rfl (Sub.nil _)))) <| SQ <| SQ <| RG <| MV rfl rfl <| MV rfl rfl <| rw_indexAddr (i) rfl tyE_S_impl_Stream rfl rfl rfl (hA.some hi2) hi2 <| FX rfl tyF_impl_Stream_1 rfl <| FX rfl tyF_impl_Sender_7 rfl <| rw_loadX _ rfl tyP_int rfl (fun w hs => hq5.ld2 hs rfl) <| MV rfl rfl <| ?_
      refine NS rfl rfl rfl <| ND <| CF rfl rfl <| SK <| SQ <| RG <| MV rfl rfl <| rw_addK ((kS4 Kk y3) + 3) rfl rfl rfl (kinc (kup hkb9) (by decide) (by decide) (by decide)) <| AS rfl rfl <| ND <| gw_sub (Sub.cons (i := 0) rfl (Sub.cons (i := 1) rfl (Sub.cons (i := 5) rfl (Sub.nil _)))) <| SQ <| SQ <| RG <| MV rfl rfl <| MV rfl rfl <| rw_indexAddr (i) rfl tyE_S_impl_Stream rfl rfl rfl (hA.some hi2) hi2 <| FX rfl tyF_impl_Stream_1 rfl <| FX rfl tyF_impl_Sender_8 rfl <| rw_loadX _ rfl tyP_int rfl (fun w hs => hq5.ld2 hs rfl) <| ?_
      refine MV rfl rfl <| NS rfl rfl rfl <| ND <| CF rfl rfl <| SK <| SQ <| RG <| MV rfl rfl <| rw_addK ((kS4 Kk y3) + 4) rfl rfl rfl (kinc (kup hkb9) (by decide) (by decide) (by decide)) <| AS rfl rfl <| ND <| gw_sub (Sub.cons (i := 0) rfl (Sub.cons (i := 1) rfl (Sub.cons (i := 5) rfl (Sub.nil _)))) <| SQ <| SQ <| RG <| MV rfl rfl <| MV rfl rfl <| rw_indexAddr (i) rfl tyE_S_impl_Stream rfl rfl rfl (hA.some hi2) hi2 <| FX rfl tyF_impl_Stream_2 rfl <| FX rfl tyF_impl_Credit_0 rfl <| rw_loadX _ rfl tyP_int rfl (fun w hs => hq5.ld2 hs rfl) <| ?_
      refine MV rfl rfl <| NS rfl rfl rfl <| ND <| CF rfl rfl <| SK <| SQ <| RG <| MV rfl rfl <| rw_addK ((kS4 Kk y3) + 5) rfl rfl rfl (kinc (kup hkb9) (by decide) (by decide) (by decide)) <| AS rfl rfl <| ND <| gw_sub (Sub.cons (i := 0) rfl (Sub.cons (i := 1) rfl (Sub.cons (i := 5) rfl (Sub.nil _)))) <| SQ <| SQ <| RG <| MV rfl rfl <| MV rfl rfl <| rw_indexAddr (i) rfl tyE_S_impl_Stream rfl rfl rfl (hA.some hi2) hi2 <| FX rfl tyF_impl_Stream_2 rfl <| FX rfl tyF_impl_Credit_1 rfl <| rw_loadX _ rfl tyP_int rfl (fun w hs => hq5.ld2 hs rfl) <| ?_
      refine MV rfl rfl <| NS rfl rfl rfl <| ND <| CF rfl rfl <| SK <| SQ <| RG <| MV rfl rfl <| rw_addK ((kS4 Kk y3) + 6) rfl rfl rfl (kinc (kup hkb9) (by decide) (by decide) (by decide)) <| AS rfl rfl <| ND <| gw_sub (Sub.cons (i := 0) rfl (Sub.cons (i := 1) rfl (Sub.cons (i := 5) rfl (Sub.nil _)))) <| SQ <| SQ <| RG <| MV rfl rfl <| MV rfl rfl <| rw_indexAddr (i) rfl tyE_S_impl_Stream rfl rfl rfl (hA.some hi2) hi2 <| FX rfl tyF_impl_Stream_2 rfl <| FX rfl tyF_impl_Credit_2 rfl <| rw_loadX _ rfl tyP_int rfl (fun w hs => hq5.ld2 hs rfl) <| ?_
      refine MV rfl rfl <| NS rfl rfl rfl <| ND <| CF rfl rfl <| SK <| SQ <| RG <| MV rfl rfl <| rw_addK ((kS4 Kk y3) + 7) rfl rfl rfl (kinc (kup hkb9) (by decide) (by decide) (by decide)) <| AS rfl rfl <| ND <| gw_sub (Sub.cons (i := 0) rfl (Sub.cons (i := 1) rfl (Sub.cons (i := 5) rfl (Sub.nil _)))) <| SQ <| SQ <| RG <| MV rfl rfl <| MV rfl rfl <| rw_indexAddr (i) rfl tyE_S_impl_Stream rfl rfl rfl (hA.some hi2) hi2 <| FX rfl tyF_impl_Stream_2 rfl <| FX rfl tyF_impl_Credit_3 rfl <| rw_loadX _ rfl tyP_int rfl (fun w hs => hq5.ld2 hs rfl) <| ?_
      refine MV rfl rfl <| NS rfl rfl rfl <| ND <| CF rfl rfl <| SK <| SQ <| RG <| MV rfl rfl <| rw_addK ((kS4 Kk y3) + 8) rfl rfl rfl (kinc (kup hkb9) (by decide) (by decide) (by decide)) <| AS rfl rfl <| ND <| gw_sub (Sub.cons (i := 0) rfl (Sub.cons (i := 1) rfl (Sub.cons (i := 5) rfl (Sub.nil _)))) <| SQ <| SQ <| RG <| MV rfl rfl <| MV rfl rfl <| rw_indexAddr (i) rfl tyE_S_impl_Stream rfl rfl rfl (hA.some hi2) hi2 <| FX rfl tyF_impl_Stream_3 rfl <| FX rfl tyF_impl_Receiver_0 rfl <| rw_loadX _ rfl tyP_int rfl (fun w hs => hq5.ld2 hs rfl) <| ?_
      refine MV rfl rfl <| NS rfl rfl rfl <| ND <| CF rfl rfl <| SK <| SQ <| RG <| MV rfl rfl <| rw_addK ((kS4 Kk y3) + 9) rfl rfl rfl (kinc (kup hkb9) (by decide) (by decide) (by decide)) <| AS rfl rfl <| ND <| gw_sub (Sub.cons (i := 0) rfl (Sub.cons (i := 1) rfl (Sub.cons (i := 5) rfl (Sub.nil _)))) <| SQ <| SQ <| RG <| MV rfl rfl <| MV rfl rfl <| rw_indexAddr (i) rfl tyE_S_impl_Stream rfl rfl rfl (hA.some hi2) hi2 <| FX rfl tyF_impl_Stream_3 rfl <| FX rfl tyF_impl_Receiver_1 rfl <| FX rfl tyF_impl_Buffer_0 rfl <| ?_
      refine rw_loadX _ rfl tyP_int rfl (fun w hs => hq5.ld3 hs rfl) <| MV rfl rfl <| NS rfl rfl rfl <| ND <| CF rfl rfl <| SK <| SQ <| RG <| MV rfl rfl <| rw_addK ((kS4 Kk y3) + 10) rfl rfl rfl (kinc (kup hkb9) (by decide) (by decide) (by decide)) <| AS rfl rfl <| ND <| gw_sub (Sub.cons (i := 0) rfl (Sub.cons (i := 1) rfl (Sub.cons (i := 5) rfl (Sub.nil _)))) <| SQ <| RG <| MV rfl rfl <| MV rfl rfl <| rw_indexAddr (i) rfl tyE_S_impl_Stream rfl rfl rfl (hA.some hi2) hi2 <| FX rfl tyF_impl_Stream_3 rfl <| FX rfl tyF_impl_Receiver_1 rfl <| ?_
      refine FX rfl tyF_impl_Buffer_1 rfl <| rw_loadX _ rfl tyP_S_impl_Chunk rfl (fun w hs => hq5.ld3 hs rfl) <| MV rfl rfl <| CV1 rfl fun_laws_heldChunkS rfl (fun w hs => laws_heldChunkS (k := ((kS4 Kk y3) + 10)) (l := y3.recv.buffer.chunks) (hAe5_4.s Pl.keeps hs) hby4_4 (ktoc hkb9 (by decide) (by decide) (by decide))) <| ?_
      have hkb10 : 0 ≤ (kS5 Kk y3) ∧ (kS5 Kk y3) ≤ 1135795566018609 := by
        have hkt := kS_bd hle_y4 Kk
        omega
      refine AS rfl rfl <| ND <| SQ <| SQ <| RG <| MV rfl rfl <| rw_lss rfl rfl rfl <| ND <| gw_sub (Sub.cons (i := 0) rfl (Sub.cons (i := 1) rfl (Sub.cons (i := 5) rfl (Sub.cons (i := 216) rfl (Sub.nil _))))) <| CF rfl (knn (kup hkb10)) <| SK <| SQ <| SQ <| RG <| MV rfl rfl <| MV rfl rfl <| rw_indexAddr (i) rfl tyE_S_impl_Stream rfl rfl rfl (hA.some hi2) hi2 <| FX rfl tyF_impl_Stream_3 rfl <| FX rfl tyF_impl_Receiver_2 rfl <| rw_loadX _ rfl tyP_int rfl (fun w hs => hq5.ld2 hs rfl) <| MV rfl rfl <| NS rfl rfl rfl <| ?_
      refine ND <| CF rfl rfl <| SK <| SQ <| RG <| MV rfl rfl <| rw_addK ((kS5 Kk y3) + 1) rfl rfl rfl (kinc0 (kup hkb10)) <| AS rfl rfl <| ND <| gw_sub (Sub.cons (i := 0) rfl (Sub.cons (i := 1) rfl (Sub.cons (i := 5) rfl (Sub.nil _)))) <| SQ <| SQ <| RG <| MV rfl rfl <| MV rfl rfl <| rw_indexAddr (i) rfl tyE_S_impl_Stream rfl rfl rfl (hA.some hi2) hi2 <| FX rfl tyF_impl_Stream_3 rfl <| FX rfl tyF_impl_Receiver_3 rfl <| rw_loadX _ rfl tyP_int rfl (fun w hs => hq5.ld2 hs rfl) <| MV rfl rfl <| NS rfl rfl rfl <| ?_
      refine ND <| CF rfl rfl <| SK <| SQ <| RG <| MV rfl rfl <| rw_addK ((kS5 Kk y3) + 2) rfl rfl rfl (kinc (kup hkb10) (by decide) (by decide) (by decide)) <| AS rfl rfl <| ND <| gw_sub (Sub.cons (i := 0) rfl (Sub.cons (i := 1) rfl (Sub.cons (i := 5) rfl (Sub.nil _)))) <| SQ <| SQ <| RG <| MV rfl rfl <| MV rfl rfl <| rw_indexAddr (i) rfl tyE_S_impl_Stream rfl rfl rfl (hA.some hi2) hi2 <| FX rfl tyF_impl_Stream_3 rfl <| FX rfl tyF_impl_Receiver_4 rfl <| rw_loadX _ rfl tyP_int rfl (fun w hs => hq5.ld2 hs rfl) <| MV rfl rfl <| ?_
      refine NS rfl rfl rfl <| ND <| CF rfl rfl <| SK <| SQ <| RG <| MV rfl rfl <| rw_addK ((kS5 Kk y3) + 3) rfl rfl rfl (kinc (kup hkb10) (by decide) (by decide) (by decide)) <| AS rfl rfl <| ND <| gw_sub (Sub.cons (i := 0) rfl (Sub.cons (i := 1) rfl (Sub.cons (i := 5) rfl (Sub.nil _)))) <| SQ <| SQ <| RG <| MV rfl rfl <| MV rfl rfl <| rw_indexAddr (i) rfl tyE_S_impl_Stream rfl rfl rfl (hA.some hi2) hi2 <| FX rfl tyF_impl_Stream_4 rfl <| FX rfl tyF_impl_Window_0 rfl <| rw_loadX _ rfl tyP_int rfl (fun w hs => hq5.ld2 hs rfl) <| ?_
      refine MV rfl rfl <| NS rfl rfl rfl <| ND <| CF rfl rfl <| SK <| SQ <| RG <| MV rfl rfl <| rw_addK ((kS5 Kk y3) + 4) rfl rfl rfl (kinc (kup hkb10) (by decide) (by decide) (by decide)) <| AS rfl rfl <| ND <| gw_sub (Sub.cons (i := 0) rfl (Sub.cons (i := 1) rfl (Sub.cons (i := 5) rfl (Sub.nil _)))) <| SQ <| SQ <| RG <| MV rfl rfl <| MV rfl rfl <| rw_indexAddr (i) rfl tyE_S_impl_Stream rfl rfl rfl (hA.some hi2) hi2 <| FX rfl tyF_impl_Stream_4 rfl <| FX rfl tyF_impl_Window_1 rfl <| rw_loadX _ rfl tyP_int rfl (fun w hs => hq5.ld2 hs rfl) <| ?_
      refine MV rfl rfl <| NS rfl rfl rfl <| ND <| CF rfl rfl <| SK <| SQ <| RG <| MV rfl rfl <| rw_addK ((kS5 Kk y3) + 5) rfl rfl rfl (kinc (kup hkb10) (by decide) (by decide) (by decide)) <| AS rfl rfl <| ND <| gw_sub (Sub.cons (i := 0) rfl (Sub.cons (i := 1) rfl (Sub.cons (i := 5) rfl (Sub.nil _)))) <| SQ <| SQ <| RG <| MV rfl rfl <| MV rfl rfl <| rw_indexAddr (i) rfl tyE_S_impl_Stream rfl rfl rfl (hA.some hi2) hi2 <| FX rfl tyF_impl_Stream_4 rfl <| FX rfl tyF_impl_Window_2 rfl <| rw_loadX _ rfl tyP_int rfl (fun w hs => hq5.ld2 hs rfl) <| ?_
      refine MV rfl rfl <| NS rfl rfl rfl <| ND <| CF rfl rfl <| SK <| SQ <| RG <| MV rfl rfl <| rw_addK ((kS5 Kk y3) + 6) rfl rfl rfl (kinc (kup hkb10) (by decide) (by decide) (by decide)) <| AS rfl rfl <| ND <| gw_sub (Sub.cons (i := 0) rfl (Sub.cons (i := 1) rfl (Sub.cons (i := 5) rfl (Sub.nil _)))) <| SQ <| SQ <| RG <| MV rfl rfl <| MV rfl rfl <| rw_indexAddr (i) rfl tyE_S_impl_Stream rfl rfl rfl (hA.some hi2) hi2 <| FX rfl tyF_impl_Stream_4 rfl <| FX rfl tyF_impl_Window_3 rfl <| rw_loadX _ rfl tyP_int rfl (fun w hs => hq5.ld2 hs rfl) <| ?_
      refine MV rfl rfl <| NS rfl rfl rfl <| ND <| CF rfl rfl <| SK <| SQ <| RG <| MV rfl rfl <| rw_addK ((kS5 Kk y3) + 7) rfl rfl rfl (kinc (kup hkb10) (by decide) (by decide) (by decide)) <| AS rfl rfl <| ND <| gw_sub (Sub.cons (i := 0) rfl (Sub.cons (i := 1) rfl (Sub.cons (i := 5) rfl (Sub.nil _)))) <| SQ <| SQ <| RG <| MV rfl rfl <| MV rfl rfl <| rw_indexAddr (i) rfl tyE_S_impl_Stream rfl rfl rfl (hA.some hi2) hi2 <| FX rfl tyF_impl_Stream_4 rfl <| FX rfl tyF_impl_Window_4 rfl <| rw_loadX _ rfl tyP_int rfl (fun w hs => hq5.ld2 hs rfl) <| ?_
      refine MV rfl rfl <| NS rfl rfl rfl <| ND <| CF rfl rfl <| SK <| SQ <| RG <| MV rfl rfl <| rw_addK ((kS5 Kk y3) + 8) rfl rfl rfl (kinc (kup hkb10) (by decide) (by decide) (by decide)) <| AS rfl rfl <| ND <| gw_sub (Sub.cons (i := 0) rfl (Sub.cons (i := 1) rfl (Sub.cons (i := 5) rfl (Sub.nil _)))) <| SQ <| SQ <| RG <| MV rfl rfl <| MV rfl rfl <| rw_indexAddr (i) rfl tyE_S_impl_Stream rfl rfl rfl (hA.some hi2) hi2 <| FX rfl tyF_impl_Stream_4 rfl <| FX rfl tyF_impl_Window_5 rfl <| rw_loadX _ rfl tyP_int rfl (fun w hs => hq5.ld2 hs rfl) <| ?_
      refine MV rfl rfl <| NS rfl rfl rfl <| ND <| CF rfl rfl <| SK <| SQ <| RG <| MV rfl rfl <| rw_addK ((kS5 Kk y3) + 9) rfl rfl rfl (kinc (kup hkb10) (by decide) (by decide) (by decide)) <| AS rfl rfl <| ND <| gw_sub (Sub.cons (i := 0) rfl (Sub.cons (i := 1) rfl (Sub.cons (i := 5) rfl (Sub.nil _)))) <| SQ <| SQ <| RG <| MV rfl rfl <| MV rfl rfl <| rw_indexAddr (i) rfl tyE_S_impl_Stream rfl rfl rfl (hA.some hi2) hi2 <| FX rfl tyF_impl_Stream_5 rfl <| FX rfl tyF_impl_Priority_0 rfl <| rw_loadX _ rfl tyP_int rfl (fun w hs => hq5.ld2 hs rfl) <| ?_
      refine MV rfl rfl <| NS rfl rfl rfl <| ND <| CF rfl rfl <| SK <| SQ <| RG <| MV rfl rfl <| rw_addK ((kS5 Kk y3) + 10) rfl rfl rfl (kinc (kup hkb10) (by decide) (by decide) (by decide)) <| AS rfl rfl <| ND <| gw_sub (Sub.cons (i := 0) rfl (Sub.cons (i := 1) rfl (Sub.cons (i := 5) rfl (Sub.nil _)))) <| SQ <| SQ <| RG <| MV rfl rfl <| MV rfl rfl <| rw_indexAddr (i) rfl tyE_S_impl_Stream rfl rfl rfl (hA.some hi2) hi2 <| FX rfl tyF_impl_Stream_5 rfl <| FX rfl tyF_impl_Priority_1 rfl <| rw_loadX _ rfl tyP_bool rfl (fun w hs => hq5.ld2 hs rfl) <| ?_
      refine MV rfl rfl <| rw_rem rfl rfl rfl (by decide) <| EQ1 rfl rfl rfl <| rw_neqSelfB (by kernel_rfl) rfl rfl rfl <| ND <| CF rfl rfl <| SK <| SQ <| RG <| MV rfl rfl <| rw_addK ((kS5 Kk y3) + 11) rfl rfl rfl (kinc (kup hkb10) (by decide) (by decide) (by decide)) <| AS rfl rfl <| ND <| gw_sub (Sub.cons (i := 0) rfl (Sub.cons (i := 1) rfl (Sub.cons (i := 5) rfl (Sub.nil _)))) <| SQ <| SQ <| RG <| MV rfl rfl <| MV rfl rfl <| rw_indexAddr (i) rfl tyE_S_impl_Stream rfl rfl rfl (hA.some hi2) hi2 <| FX rfl tyF_impl_Stream_6 rfl <| ?_
      refine rw_loadX _ rfl tyP_bool rfl (fun w hs => hq5.ld hs rfl) <| MV rfl rfl <| rw_rem rfl rfl rfl (by decide) <| EQ1 rfl rfl rfl <| rw_neqSelfB (by kernel_rfl) rfl rfl rfl <| ND <| CF rfl rfl <| SK <| SQ <| RG <| MV rfl rfl <| rw_addK ((kS5 Kk y3) + 12) rfl rfl rfl (kinc (kup hkb10) (by decide) (by decide) (by decide)) <| AS rfl rfl <| ND <| gw_sub (Sub.cons (i := 0) rfl (Sub.cons (i := 1) rfl (Sub.cons (i := 5) rfl (Sub.nil _)))) <| SQ <| SQ <| RG <| MV rfl rfl <| MV rfl rfl <| rw_indexAddr (i) rfl tyE_S_impl_Stream rfl rfl rfl (hA.some hi2) hi2 <| ?_
      refine FX rfl tyF_impl_Stream_7 rfl <| rw_loadX _ rfl tyP_bool rfl (fun w hs => hq5.ld hs rfl) <| MV rfl rfl <| rw_rem rfl rfl rfl (by decide) <| EQ1 rfl rfl rfl <| rw_neqSelfB (by kernel_rfl) rfl rfl rfl <| ND <| CF rfl rfl <| SK <| SQ <| RG <| MV rfl rfl <| rw_addK ((kS5 Kk y3) + 13) rfl rfl rfl (kinc (kup hkb10) (by decide) (by decide) (by decide)) <| AS rfl rfl <| ND <| gw_sub (Sub.cons (i := 0) rfl (Sub.cons (i := 1) rfl (Sub.cons (i := 5) rfl (Sub.nil _)))) <| SQ <| SQ <| RG <| MV rfl rfl <| MV rfl rfl <| ?_
      refine rw_indexAddr (i) rfl tyE_S_impl_Stream rfl rfl rfl (hA.some hi2) hi2 <| FX rfl tyF_impl_Stream_8 rfl <| rw_loadX _ rfl tyP_bool rfl (fun w hs => hq5.ld hs rfl) <| MV rfl rfl <| rw_rem rfl rfl rfl (by decide) <| EQ1 rfl rfl rfl <| rw_neqSelfB (by kernel_rfl) rfl rfl rfl <| ND <| CF rfl rfl <| SK <| SQ <| RG <| MV rfl rfl <| rw_addK ((kS5 Kk y3) + 14) rfl rfl rfl (kinc (kup hkb10) (by decide) (by decide) (by decide)) <| AS rfl rfl <| ND <| gw_sub (Sub.cons (i := 0) rfl (Sub.cons (i := 1) rfl (Sub.cons (i := 5) rfl (Sub.nil _)))) <| ?_
      refine SQ <| SQ <| RG <| MV rfl rfl <| MV rfl rfl <| rw_indexAddr (i) rfl tyE_S_impl_Stream rfl rfl rfl (hA.some hi2) hi2 <| FX rfl tyF_impl_Stream_9 rfl <| rw_loadX _ rfl tyP_bool rfl (fun w hs => hq5.ld hs rfl) <| MV rfl rfl <| rw_rem rfl rfl rfl (by decide) <| EQ1 rfl rfl rfl <| rw_neqSelfB (by kernel_rfl) rfl rfl rfl <| ND <| CF rfl rfl <| SK <| SQ <| RG <| MV rfl rfl <| rw_addK ((kS5 Kk y3) + 15) rfl rfl rfl (kinc (kup hkb10) (by decide) (by decide) (by decide)) <| AS rfl rfl <| ND <| gw_sub (Sub.cons (i := 0) rfl (Sub.cons (i := 1) rfl (Sub.cons (i := 5) rfl (Sub.nil _)))) <| ?_
      refine SQ <| SQ <| RG <| MV rfl rfl <| MV rfl rfl <| rw_indexAddr (i) rfl tyE_S_impl_Stream rfl rfl rfl (hA.some hi2) hi2 <| FX rfl tyF_impl_Stream_10 rfl <| rw_loadX _ rfl tyP_bool rfl (fun w hs => hq5.ld hs rfl) <| MV rfl rfl <| rw_rem rfl rfl rfl (by decide) <| EQ1 rfl rfl rfl <| rw_neqSelfB (by kernel_rfl) rfl rfl rfl <| ND <| CF rfl rfl <| SK <| SQ <| RG <| MV rfl rfl <| rw_addK ((kS5 Kk y3) + 16) rfl rfl rfl (kinc (kup hkb10) (by decide) (by decide) (by decide)) <| AS rfl rfl <| ND <| gw_sub (Sub.cons (i := 0) rfl (Sub.cons (i := 1) rfl (Sub.cons (i := 5) rfl (Sub.nil _)))) <| ?_
      refine SQ <| SQ <| RG <| MV rfl rfl <| MV rfl rfl <| rw_indexAddr (i) rfl tyE_S_impl_Stream rfl rfl rfl (hA.some hi2) hi2 <| FX rfl tyF_impl_Stream_11 rfl <| rw_loadX _ rfl tyP_bool rfl (fun w hs => hq5.ld hs rfl) <| MV rfl rfl <| rw_rem rfl rfl rfl (by decide) <| EQ1 rfl rfl rfl <| rw_neqSelfB (by kernel_rfl) rfl rfl rfl <| ND <| CF rfl rfl <| SK <| SQ <| RG <| MV rfl rfl <| rw_addK ((kS5 Kk y3) + 17) rfl rfl rfl (kinc (kup hkb10) (by decide) (by decide) (by decide)) <| AS rfl rfl <| ND <| gw_sub (Sub.cons (i := 0) rfl (Sub.cons (i := 1) rfl (Sub.cons (i := 5) rfl (Sub.nil _)))) <| ?_
      refine SQ <| SQ <| RG <| MV rfl rfl <| MV rfl rfl <| rw_indexAddr (i) rfl tyE_S_impl_Stream rfl rfl rfl (hA.some hi2) hi2 <| FX rfl tyF_impl_Stream_12 rfl <| rw_loadX _ rfl tyP_int rfl (fun w hs => hq5.ld hs rfl) <| MV rfl rfl <| NS rfl rfl rfl <| ND <| CF rfl rfl <| SK <| SQ <| RG <| MV rfl rfl <| rw_addK ((kS5 Kk y3) + 18) rfl rfl rfl (kinc (kup hkb10) (by decide) (by decide) (by decide)) <| AS rfl rfl <| ND <| SQ <| SQ <| RG <| MV rfl rfl <| MV rfl rfl <| rw_indexAddr (i) rfl tyE_S_impl_Stream rfl rfl rfl (hA.some hi2) hi2 <| ?_
      refine FX rfl tyF_impl_Stream_13 rfl <| rw_loadX _ rfl tyP_bool rfl (fun w hs => hq5.ld hs rfl) <| MV rfl rfl <| rw_rem rfl rfl rfl (by decide) <| EQ1 rfl rfl rfl <| rw_neqSelfB (by kernel_rfl) rfl rfl rfl <| ND <| gw_sub (Sub.cons (i := 0) rfl (Sub.cons (i := 1) rfl (Sub.cons (i := 5) rfl (Sub.cons (i := 412) rfl (Sub.nil _))))) <| CF rfl rfl <| SK <| RG <| MV rfl rfl <| rw_addK ((kS5 Kk y3) + 19) rfl rfl rfl (kinc (kup hkb10) (by decide) (by decide) (by decide)) <| AS rfl rfl <| ND <| IB <| RG <| MV rfl rfl <| ?_
      refine rw_add rfl rfl rfl <| AS rfl rfl <| ND <| ?_
      refine gw_sub (Sub.consE (i := 5) rfl (int_succ (by omega)) (Sub.consE (i := 1) rfl rfl (Sub.cons (i := 0) rfl (Sub.nil _)))) (ih1 (i + 1, kS6 Kk y3) ?_ ?_)
      · exact ⟨by omega, endD_step hy3 hK⟩
      · show l.length - (i + 1) < l.length - i; omega
    · have hn11 := nil_of_dec h1
      refine EX rfl <| SQ <| RG <| MV rfl rfl <| AS rfl rfl <| ND <| ret_cv Try.func23 (res1 Try.func23 rfl (rv_tmp rfl)) <| ?_
      have hil : i = l.length := by have hz := congrArg List.length hn11; rw [List.length_drop, List.length_nil] at hz; omega
      rw [hK, hil, List.take_length]

theorem laws_eqStreamS_p {w : World} {v : Value} {l : List Stream} (hv : RdS w 39 RdStream v l) (hb : l.length ≤ 1048577) (hall : ∀ x ∈ l, x.le 1048576) {v1 : Value} (hv1 : RdS w 39 RdStream v1 l) : CV Try.prog 18 [v, v1] w (.bool true) := by
  obtain ⟨A, c, rfl, hA⟩ := hv
  obtain ⟨A1, c1, rfl, hA1⟩ := hv1
  refine cv_of Try.func18 rfl rfl rfl <| SQ <| RG <| AS rfl rfl <| ND <| SQ <| SQ <| RG <| MV rfl rfl <| rw_len rfl tyE_S_impl_Stream rfl <| MV rfl rfl <| rw_len rfl tyE_S_impl_Stream rfl <| NS rfl rfl rfl <| ND <| CF rfl rfl <| SK <| SQ <| SQ <| RG <| AS rfl rfl <| ND <| BK <| ?_
  refine gw_loopC (α := Nat) (fun z_ => z_ ≤ l.length) (fun z_ => l.length - z_) (fun e z_ => (5, .int .i64 (z_ : Int)) :: e) 0 [(0, _), (1, _)] (Sub.consE rfl rfl (Sub.cons (i := 0) rfl (Sub.cons (i := 1) rfl (Sub.nil _)))) ?_ ?_
  · exact Nat.zero_le _
  · rintro i hI1 ih1
    try dsimp only
    have hle := hI1
    refine SQ <| SQ <| RG <| MV rfl rfl <| MV rfl rfl <| rw_len rfl tyE_S_impl_Stream rfl <| rw_lss rfl rfl rfl <| ND <| ?_
    refine gw_cond rfl (fun h1 => ?_) (fun h1 => ?_)
    · have hi2 := lt_of_dec h1
      obtain ⟨x3, hx3⟩ := get_of_lt hi2
      have hd3 := drop_cons hx3
      refine SK <| SQ <| BK <| SQ <| gw_draw' [(0, .det), (1, .det), (2, .det), (3, .det), (4, .det), (5, .det), (6, .det), (7, .det)] [8, 9] mixed rfl (free_det (free_det (free_det (free_det (free_det (free_det (free_det (free_det free_nil)))))))) (ts := [_, _]) rfl <| DT rfl rfl (fun K hk => MV rfl rfl hk) <| DT rfl rfl (fun K hk => MV rfl rfl hk) <| ?_
      obtain ⟨cse4_, hRe4_, hq4⟩ := hA.get hx3
      obtain ⟨ve4_0, ve4_1, ve4_2, ve4_3, ve4_4, rfl, ke4_0, ke4_1, ke4_2, ke4_3, ke4_4⟩ := hRe4_
      obtain ⟨Ae4_0, ce4_0, rfl, hAe4_0⟩ := ke4_0
      obtain ⟨Ae4_1, ce4_1, rfl, hAe4_1⟩ := ke4_1
      obtain ⟨Ae4_2, ce4_2, rfl, hAe4_2⟩ := ke4_2
      obtain ⟨Ae4_3, ce4_3, rfl, hAe4_3⟩ := ke4_3
      obtain ⟨Ae4_4, ce4_4, rfl, hAe4_4⟩ := ke4_4
      obtain ⟨hbe4_0, hbe4_1, hbe4_2, hbe4_3, hbe4_4, hbe4_5⟩ := hall x3 (List.mem_of_getElem? hx3)
      refine DT rfl rfl (fun K hk => rw_indexAddr (i) rfl tyE_S_impl_Stream rfl rfl rfl (hA.some hi2) hi2 hk) <| DT rfl rfl (fun K hk => rw_loadX_s [_, _, _, _, _, _, _, _, _, _, _, _, _, _, _, _, _, _, _, _, _, _, _, _, _, _, _, _, _, _, _, _, _, _, _, _, _, _, _] rfl tyS_impl_Stream rfl rfl (fun w hs => hq4.lds0 (n := 39) hs rfl) hk) <| DT rfl rfl (fun K hk => MV rfl rfl hk) <| DT rfl rfl (fun K hk => MV rfl rfl hk) <| ?_
      obtain ⟨cse5_, hRe5_, hq5⟩ := hA1.get hx3
      obtain ⟨ve5_0, ve5_1, ve5_2, ve5_3, ve5_4, rfl, ke5_0, ke5_1, ke5_2, ke5_3, ke5_4⟩ := hRe5_
      obtain ⟨Ae5_0, ce5_0, rfl, hAe5_0⟩ := ke5_0
      obtain ⟨Ae5_1, ce5_1, rfl, hAe5_1⟩ := ke5_1
      obtain ⟨Ae5_2, ce5_2, rfl, hAe5_2⟩ := ke5_2
      obtain ⟨Ae5_3, ce5_3, rfl, hAe5_3⟩ := ke5_3
      obtain ⟨Ae5_4, ce5_4, rfl, hAe5_4⟩ := ke5_4
      obtain ⟨hbe5_0, hbe5_1, hbe5_2, hbe5_3, hbe5_4, hbe5_5⟩ := hall x3 (List.mem_of_getElem? hx3)
      refine DT rfl rfl (fun K hk => rw_indexAddr (i) rfl tyE_S_impl_Stream rfl rfl rfl (hA1.some hi2) hi2 hk) <| DT rfl rfl (fun K hk => rw_loadX_s [_, _, _, _, _, _, _, _, _, _, _, _, _, _, _, _, _, _, _, _, _, _, _, _, _, _, _, _, _, _, _, _, _, _, _, _, _, _, _] rfl tyS_impl_Stream rfl rfl (fun w hs => hq5.lds0 (n := 39) hs rfl) hk) <| dw_nil <| CV1 rfl fun_laws_eqStream rfl (fun w hs => laws_eqStream ⟨_, _, _, _, _, rfl, (hAe4_0.s Pl.keeps hs), (hAe4_1.s Pl.keeps hs), (hAe4_2.s Pl.keeps hs), (hAe4_3.s Pl.keeps hs), (hAe4_4.s Pl.keeps hs)⟩ ⟨hbe5_0, hbe5_1, hbe5_2, hbe5_3, hbe5_4, hbe5_5⟩ ⟨_, _, _, _, _, rfl, (hAe5_0.s Pl.keeps hs), (hAe5_1.s Pl.keeps hs), (hAe5_2.s Pl.keeps hs), (hAe5_3.s Pl.keeps hs), (hAe5_4.s Pl.keeps hs)⟩) <| ?_
      refine NT rfl rfl <| ND <| CF rfl rfl <| SK <| IB <| RG <| MV rfl rfl <| rw_add rfl rfl rfl <| AS rfl rfl <| ND <| ?_
      refine gw_sub (Sub.consE (i := 5) rfl (int_succ (by omega)) (Sub.cons (i := 0) rfl (Sub.cons (i := 1) rfl (Sub.nil _)))) (ih1 (i + 1) ?_ ?_)
      · omega
      · show l.length - (i + 1) < l.length - i; omega
    · have hn6 := nil_of_dec h1
      refine EX rfl <| SQ <| RG <| AS rfl rfl <| ND <| ret_cv Try.func18 (res1 Try.func18 rfl (rv_tmp rfl)) <| ?_
      rfl

set_option maxHeartbeats 8000000 in
set_option maxRecDepth 20000 in
theorem law_FnExactPutStream_T {w : World} {v : Value} {l : List Stream} (hv : RdS w 39 RdStream v l) (hb : l.length ≤ 9223372036854775807) (hall : ∀ y ∈ l, y.le 9223372036854775807) {csx_ : List Value} {x : Stream} (hvx_ : RdStream w csx_ x) (hbx_ : x.le 9223372036854775807) {n : Nat} {y : Stream} (hf : findStream l x.id = (n : Int)) (hs_ : l[n]? = some y) : CV Try.prog 5 [v, .agg csx_.toArray] w (.bool true) := by
  obtain ⟨A, c, rfl, hA⟩ := hv
  obtain ⟨vx_0, vx_1, vx_2, vx_3, vx_4, rfl, kx_0, kx_1, kx_2, kx_3, kx_4⟩ := hvx_
  obtain ⟨Ax_0, cx_0, rfl, hAx_0⟩ := kx_0
  obtain ⟨Ax_1, cx_1, rfl, hAx_1⟩ := kx_1
  obtain ⟨Ax_2, cx_2, rfl, hAx_2⟩ := kx_2
  obtain ⟨Ax_3, cx_3, rfl, hAx_3⟩ := kx_3
  obtain ⟨Ax_4, cx_4, rfl, hAx_4⟩ := kx_4
  obtain ⟨hbx_0, hbx_1, hbx_2, hbx_3, hbx_4, hbx_5⟩ := hbx_
  refine cv_of Try.func5 rfl rfl rfl <| SQ <| RG <| BX [_, _, _, _, _, _, _, _, _, _, _, _, _, _, _, _, _, _, _, _, _, _, _, _, _, _, _, _, _, _, _, _, _, _, _, _, _, _, _] rfl rfl rfl <| fun b1 => AS rfl rfl <| ND <| SQ <| RG <| AS rfl rfl <| ND <| SQ <| RG <| MV rfl rfl <| MV rfl rfl <| CV1 rfl fun_laws_szStreamS rfl (fun w hs => laws_szStreamS (hA.s RdStream.keeps hs) _ (by first | omega | assumption) (by first | omega | assumption) (by omega) (by omega)) <| AS rfl rfl <| ND <| SQ <| SQ <| RG <| ?_
  refine MV rfl rfl <| rw_lss rfl rfl rfl <| ND <| ?_
  refine gw_cond rfl (fun h1 => ?_) (fun h1 => ?_)
  · refine SQ <| RG <| AS rfl rfl <| ND <| ret_cv Try.func5 (res1 Try.func5 rfl (rv_tmp rfl)) <| ?_
    rfl
  · have hnn1 := nn_of h1
    obtain ⟨hle1, hz1_0, hz1_1⟩ := szStreams_ok (by first | omega | assumption) (by first | omega | assumption) (by omega) (by omega) hnn1
    refine SK <| SQ <| RG <| LS (i := 0) [_, _, _, _, _, _, _, _, _, _, _, _, _, _, _, _, _, _, _, _, _, _, _, _, _, _, _, _, _, _, _, _, _, _, _, _, _, _, _] rfl tyS_laws_Stream rfl rfl rfl rfl <| MV rfl rfl <| CV1 rfl fun_laws_szStream rfl (fun w hs => laws_szStream ⟨_, _, _, _, _, rfl, (hAx_0.s Pl.keeps hs), (hAx_1.s Pl.keeps hs), (hAx_2.s Pl.keeps hs), (hAx_3.s Pl.keeps hs), (hAx_4.s Pl.keeps hs)⟩ _ ⟨by first | omega | assumption, by first | omega | assumption, by first | omega | assumption, by first | omega | assumption, by first | omega | assumption, by first | omega | assumption⟩ (by omega) (by omega)) <| ?_
    refine AS rfl rfl <| ND <| SQ <| SQ <| RG <| MV rfl rfl <| rw_lss rfl rfl rfl <| ND <| gw_sub (Sub.cons (i := 0) rfl (Sub.cons (i := 3) rfl (Sub.cons (i := 4) rfl (Sub.cons (i := 23) rfl (Sub.nil _))))) <| ?_
    refine gw_cond rfl (fun h2 => ?_) (fun h2 => ?_)
    · refine SQ <| RG <| AS rfl rfl <| ND <| ret_cv Try.func5 (res1 Try.func5 rfl (rv_tmp rfl)) <| ?_
      rfl
    · have hnn2 := nn_of h2
      obtain ⟨hle2, hz2_0, hz2_1, hz2_2, hz2_3, hz2_4, hz2_5⟩ := szStream_ok ⟨by first | omega | assumption, by first | omega | assumption, by first | omega | assumption, by first | omega | assumption, by first | omega | assumption, by first | omega | assumption⟩ (by omega) (by omega) hnn2
      refine SK <| SQ <| gw_draw' [(0, .det), (2, .det), (1, .add)] [3, 4, 5] mixed rfl (free_det (free_det (free_add free_nil))) (ts := [_, _, _]) rfl <| DT rfl rfl (fun K hk => MV rfl rfl hk) <| DT rfl rfl (fun K hk => LS (i := 0) [_, _, _, _, _, _, _, _, _, _, _, _, _, _, _, _, _, _, _, _, _, _, _, _, _, _, _, _, _, _, _, _, _, _, _, _, _, _, _] rfl tyS_laws_Stream rfl rfl rfl rfl hk) <| DA rfl rfl (fun K hk => CN1 rfl fun_laws_toStreamS rfl (fun w hs => laws_toStreamS (hA.s RdStream.keeps hs) hz1_0 hz1_1) hk) <| fun v3 ch3 how3 => ?_
      obtain ⟨R3, rc3, rfl, hR3, hrd3⟩ := how3.shape eStream
      refine dw_nil <| CN1 rfl fun_laws_toStream rfl (fun w hs => laws_toStream ⟨_, _, _, _, _, rfl, (hAx_0.s Pl.keeps hs), (hAx_1.s Pl.keeps hs), (hAx_2.s Pl.keeps hs), (hAx_3.s Pl.keeps hs), (hAx_4.s Pl.keeps hs)⟩ ⟨hz2_0, hz2_1, hz2_2, hz2_3, hz2_4, hz2_5⟩) <| fun vv4 ch4 how4 => ?_
      obtain ⟨cs4, rfl, v4_0, v4_1, v4_2, v4_3, v4_4, c4_0, c4_1, c4_2, c4_3, c4_4, rfl, h4_0, h4_1, h4_2, h4_3, h4_4, rfl⟩ := how4
      refine rw_F (F' := c4_0 ++ (c4_1 ++ (c4_2 ++ (c4_3 ++ (c4_4 ++ (ch3 ++ ([]))))))) (by simp only [List.append_assoc]) <| ?_
      obtain ⟨R4_0, b4_0, rfl, hR4_0, hrd4_0⟩ := h4_0.shape eInt
      obtain ⟨R4_1, b4_1, rfl, hR4_1, hrd4_1⟩ := h4_1.shape eRange
      obtain ⟨R4_2, b4_2, rfl, hR4_2, hrd4_2⟩ := h4_2.shape eRange
      obtain ⟨R4_3, b4_3, rfl, hR4_3, hrd4_3⟩ := h4_3.shape eRange
      obtain ⟨R4_4, b4_4, rfl, hR4_4, hrd4_4⟩ := h4_4.shape eChunk
      have hlx : x.le 1048576 := ⟨hz2_0, hz2_1, hz2_2, hz2_3, hz2_4, hz2_5⟩
      have hlb : (l.set n x).length ≤ 1048577 := by rw [List.length_set]; exact Nat.le_succ_of_le hz1_0
      have hla : ∀ y ∈ l.set n x, y.le 1048576 := set_all hz1_1 hlx
      refine CN1 rfl fun_spec_PutStream rfl (fun w hs => spec_PutStream_T ⟨_, _, rfl, hrd3 _ (fun c hc => hs.at_ c (List.mem_append_right _ (List.mem_append_right _ (List.mem_append_right _ (List.mem_append_right _ (List.mem_append_right _ (List.mem_append_right _ (List.mem_append_left _ hc))))))))⟩ hz1_0 hz1_1 ⟨_, _, _, _, _, rfl, ⟨_, _, rfl, hrd4_0 _ (fun c hc => hs.at_ c (List.mem_append_right _ (List.mem_append_left _ hc)))⟩, ⟨_, _, rfl, hrd4_1 _ (fun c hc => hs.at_ c (List.mem_append_right _ (List.mem_append_right _ (List.mem_append_left _ hc))))⟩, ⟨_, _, rfl, hrd4_2 _ (fun c hc => hs.at_ c (List.mem_append_right _ (List.mem_append_right _ (List.mem_append_right _ (List.mem_append_left _ hc)))))⟩, ⟨_, _, rfl, hrd4_3 _ (fun c hc => hs.at_ c (List.mem_append_right _ (List.mem_append_right _ (List.mem_append_right _ (List.mem_append_right _ (List.mem_append_left _ hc))))))⟩, ⟨_, _, rfl, hrd4_4 _ (fun c hc => hs.at_ c (List.mem_append_right _ (List.mem_append_right _ (List.mem_append_right _ (List.mem_append_right _ (List.mem_append_right _ (List.mem_append_left _ hc)))))))⟩⟩ ⟨hz2_0, hz2_1, hz2_2, hz2_3, hz2_4, hz2_5⟩ hf hs_) <| fun v6 ch6 how6 => ?_
      obtain ⟨R6, rc6, rfl, hR6, hrd6⟩ := how6.shape eStream
      refine AS rfl rfl <| ND <| SQ <| RG <| MV rfl rfl <| CN1 rfl fun_laws_toStreamS rfl (fun w hs => laws_toStreamS (hA.s RdStream.keeps hs) hz1_0 hz1_1) <| fun v7 ch7 how7 => ?_
      obtain ⟨R7, rc7, rfl, hR7, hrd7⟩ := how7.shape eStream
      refine AS rfl rfl <| ND <| SQ <| RG <| LS (i := 0) [_, _, _, _, _, _, _, _, _, _, _, _, _, _, _, _, _, _, _, _, _, _, _, _, _, _, _, _, _, _, _, _, _, _, _, _, _, _, _] rfl tyS_laws_Stream rfl rfl rfl rfl <| CN1 rfl fun_laws_toStream rfl (fun w hs => laws_toStream ⟨_, _, _, _, _, rfl, (hAx_0.s Pl.keeps hs), (hAx_1.s Pl.keeps hs), (hAx_2.s Pl.keeps hs), (hAx_3.s Pl.keeps hs), (hAx_4.s Pl.keeps hs)⟩ ⟨hz2_0, hz2_1, hz2_2, hz2_3, hz2_4, hz2_5⟩) <| fun vv8 ch8 how8 => ?_
      obtain ⟨cs8, rfl, v8_0, v8_1, v8_2, v8_3, v8_4, c8_0, c8_1, c8_2, c8_3, c8_4, rfl, h8_0, h8_1, h8_2, h8_3, h8_4, rfl⟩ := how8
      refine rw_F (F' := c8_0 ++ (c8_1 ++ (c8_2 ++ (c8_3 ++ (c8_4 ++ (ch7 ++ (ch6 ++ (c4_0 ++ (c4_1 ++ (c4_2 ++ (c4_3 ++ (c4_4 ++ (ch3 ++ ([])))))))))))))) (by simp only [List.append_assoc]) <| ?_
      obtain ⟨R8_0, b8_0, rfl, hR8_0, hrd8_0⟩ := h8_0.shape eInt
      obtain ⟨R8_1, b8_1, rfl, hR8_1, hrd8_1⟩ := h8_1.shape eRange
      obtain ⟨R8_2, b8_2, rfl, hR8_2, hrd8_2⟩ := h8_2.shape eRange
      obtain ⟨R8_3, b8_3, rfl, hR8_3, hrd8_3⟩ := h8_3.shape eRange
      obtain ⟨R8_4, b8_4, rfl, hR8_4, hrd8_4⟩ := h8_4.shape eChunk
      refine AL rfl tyZ_impl_Stream <| fun b2 => rw_storeN (i := 0) [_, _, _, _, _, _, _, _, _, _, _, _, _, _, _, _, _, _, _, _, _, _, _, _, _, _, _, _, _, _, _, _, _, _, _, _, _, _, _] [_, _, _, _, _, _, _, _, _, _, _, _, _, _, _, _, _, _, _, _, _, _, _, _, _, _, _, _, _, _, _, _, _, _, _, _, _, _, _] [_, _] tyS_impl_Stream.sz rfl rfl rfl rfl rfl rfl rfl rfl rfl <| ND <| gw_sub (Sub.cons (i := 0) rfl (Sub.cons (i := 3) rfl (Sub.cons (i := 4) rfl (Sub.cons (i := 6) rfl (Sub.cons (i := 7) rfl (Sub.cons (i := 8) rfl (Sub.nil _))))))) <| SQ <| RG <| MV rfl rfl <| LS (i := 0) [_, _, _, _, _, _, _, _, _, _, _, _, _, _, _, _, _, _, _, _, _, _, _, _, _, _, _, _, _, _, _, _, _, _, _, _, _, _, _] rfl tyS_impl_Stream rfl rfl rfl rfl <| ?_
      refine CN1 rfl fun_impl_PutStream rfl (fun w hs => impl_PutStream_T ⟨_, _, rfl, hrd7 _ (fun c hc => hs.at_ c (List.mem_append_right _ (List.mem_append_right _ (List.mem_append_right _ (List.mem_append_right _ (List.mem_append_right _ (List.mem_append_right _ (List.mem_append_left _ hc))))))))⟩ hz1_0 hz1_1 ⟨_, _, _, _, _, rfl, ⟨_, _, rfl, hrd8_0 _ (fun c hc => hs.at_ c (List.mem_append_right _ (List.mem_append_left _ hc)))⟩, ⟨_, _, rfl, hrd8_1 _ (fun c hc => hs.at_ c (List.mem_append_right _ (List.mem_append_right _ (List.mem_append_left _ hc))))⟩, ⟨_, _, rfl, hrd8_2 _ (fun c hc => hs.at_ c (List.mem_append_right _ (List.mem_append_right _ (List.mem_append_right _ (List.mem_append_left _ hc)))))⟩, ⟨_, _, rfl, hrd8_3 _ (fun c hc => hs.at_ c (List.mem_append_right _ (List.mem_append_right _ (List.mem_append_right _ (List.mem_append_right _ (List.mem_append_left _ hc))))))⟩, ⟨_, _, rfl, hrd8_4 _ (fun c hc => hs.at_ c (List.mem_append_right _ (List.mem_append_right _ (List.mem_append_right _ (List.mem_append_right _ (List.mem_append_right _ (List.mem_append_left _ hc)))))))⟩⟩ ⟨hz2_0, hz2_1, hz2_2, hz2_3, hz2_4, hz2_5⟩ hf hs_) <| fun v9 ch9 how9 => ?_
      obtain ⟨R9, rc9, rfl, hR9, hrd9⟩ := how9.shape eStream
      refine AS rfl rfl <| ND <| SQ <| SQ <| RG <| MV rfl rfl <| MV rfl rfl <| CV1 rfl fun_laws_eqStreamS rfl (fun w hs => laws_eqStreamS_p ⟨_, _, rfl, hrd9 _ (fun c hc => hs.at_ c (List.mem_append_right _ (List.mem_append_left _ hc)))⟩ hlb hla ⟨_, _, rfl, hrd6 _ (fun c hc => hs.at_ c (List.mem_append_right _ (List.mem_append_right _ (List.mem_append_right _ (List.mem_append_right _ (List.mem_append_right _ (List.mem_append_right _ (List.mem_append_right _ (List.mem_append_right _ (List.mem_append_left _ hc))))))))))⟩) <| NT rfl rfl <| ND <| CF rfl rfl <| ?_
      refine SK <| SQ <| SQ <| RG <| MV rfl rfl <| MV rfl rfl <| CN1 rfl fun_laws_toStreamS rfl (fun w hs => laws_toStreamS (hA.s RdStream.keeps hs) hz1_0 hz1_1) <| fun v10 ch10 how10 => ?_
      obtain ⟨R10, rc10, rfl, hR10, hrd10⟩ := how10.shape eStream
      refine CV1 rfl fun_laws_eqStreamS rfl (fun w hs => laws_eqStreamS ⟨_, _, rfl, hrd7 _ (fun c hc => hs.at_ c (List.mem_append_right _ (List.mem_append_right _ (List.mem_append_right _ (List.mem_append_right _ (List.mem_append_right _ (List.mem_append_right _ (List.mem_append_right _ (List.mem_append_right _ (List.mem_append_left _ hc))))))))))⟩ hz1_0 hz1_1 ⟨_, _, rfl, hrd10 _ (fun c hc => hs.at_ c (List.mem_append_right _ (List.mem_append_left _ hc)))⟩) <| NT rfl rfl <| ND <| gw_sub (Sub.cons (i := 0) rfl (Sub.cons (i := 3) rfl (Sub.cons (i := 4) rfl (Sub.cons (i := 6) rfl (Sub.cons (i := 7) rfl (Sub.cons (i := 8) rfl (Sub.cons (i := 9) rfl (Sub.cons (i := 44) rfl (Sub.nil _))))))))) <| ?_
      refine CF rfl rfl <| SK <| SQ <| SQ <| gw_draw' [(0, .det), (1, .det), (2, .add)] [3, 4] mixed rfl (free_det (free_det (free_add free_nil))) (ts := [_, _]) rfl <| DT rfl rfl (fun K hk => LS (i := 0) [_, _, _, _, _, _, _, _, _, _, _, _, _, _, _, _, _, _, _, _, _, _, _, _, _, _, _, _, _, _, _, _, _, _, _, _, _, _, _] rfl tyS_impl_Stream rfl rfl rfl rfl hk) <| DT rfl rfl (fun K hk => LS (i := 1) [_, _, _, _, _, _, _, _, _, _, _, _, _, _, _, _, _, _, _, _, _, _, _, _, _, _, _, _, _, _, _, _, _, _, _, _, _, _, _] rfl tyS_laws_Stream rfl rfl rfl rfl hk) <| DA rfl rfl (fun K hk => CN1 rfl fun_laws_toStream rfl (fun w hs => laws_toStream ⟨_, _, _, _, _, rfl, (hAx_0.s Pl.keeps hs), (hAx_1.s Pl.keeps hs), (hAx_2.s Pl.keeps hs), (hAx_3.s Pl.keeps hs), (hAx_4.s Pl.keeps hs)⟩ ⟨hz2_0, hz2_1, hz2_2, hz2_3, hz2_4, hz2_5⟩) hk) <| fun vv11 ch11 how11 => ?_
      obtain ⟨cs11, rfl, v11_0, v11_1, v11_2, v11_3, v11_4, c11_0, c11_1, c11_2, c11_3, c11_4, rfl, h11_0, h11_1, h11_2, h11_3, h11_4, rfl⟩ := how11
      refine dw_F (F' := c11_0 ++ (c11_1 ++ (c11_2 ++ (c11_3 ++ (c11_4 ++ (ch10 ++ (ch9 ++ (c8_0 ++ (c8_1 ++ (c8_2 ++ (c8_3 ++ (c8_4 ++ (ch7 ++ (ch6 ++ (c4_0 ++ (c4_1 ++ (c4_2 ++ (c4_3 ++ (c4_4 ++ (ch3 ++ ([]))))))))))))))))))))) (by simp only [List.append_assoc]) <| ?_
      obtain ⟨R11_0, b11_0, rfl, hR11_0, hrd11_0⟩ := h11_0.shape eInt
      obtain ⟨R11_1, b11_1, rfl, hR11_1, hrd11_1⟩ := h11_1.shape eRange
      obtain ⟨R11_2, b11_2, rfl, hR11_2, hrd11_2⟩ := h11_2.shape eRange
      obtain ⟨R11_3, b11_3, rfl, hR11_3, hrd11_3⟩ := h11_3.shape eRange
      obtain ⟨R11_4, b11_4, rfl, hR11_4, hrd11_4⟩ := h11_4.shape eChunk
      refine dw_nil <| CV1 rfl fun_laws_eqStream rfl (fun w hs => laws_eqStream ⟨_, _, _, _, _, rfl, ⟨_, _, rfl, hrd8_0 _ (fun c hc => hs.at_ c (List.mem_append_right _ (List.mem_append_right _ (List.mem_append_right _ (List.mem_append_right _ (List.mem_append_right _ (List.mem_append_right _ (List.mem_append_right _ (List.mem_append_right _ (List.mem_append_left _ hc))))))))))⟩, ⟨_, _, rfl, hrd8_1 _ (fun c hc => hs.at_ c (List.mem_append_right _ (List.mem_append_right _ (List.mem_append_right _ (List.mem_append_right _ (List.mem_append_right _ (List.mem_append_right _ (List.mem_append_right _ (List.mem_append_right _ (List.mem_append_right _ (List.mem_append_left _ hc)))))))))))⟩, ⟨_, _, rfl, hrd8_2 _ (fun c hc => hs.at_ c (List.mem_append_right _ (List.mem_append_right _ (List.mem_append_right _ (List.mem_append_right _ (List.mem_append_right _ (List.mem_append_right _ (List.mem_append_right _ (List.mem_append_right _ (List.mem_append_right _ (List.mem_append_right _ (List.mem_append_left _ hc))))))))))))⟩, ⟨_, _, rfl, hrd8_3 _ (fun c hc => hs.at_ c (List.mem_append_right _ (List.mem_append_right _ (List.mem_append_right _ (List.mem_append_right _ (List.mem_append_right _ (List.mem_append_right _ (List.mem_append_right _ (List.mem_append_right _ (List.mem_append_right _ (List.mem_append_right _ (List.mem_append_right _ (List.mem_append_left _ hc)))))))))))))⟩, ⟨_, _, rfl, hrd8_4 _ (fun c hc => hs.at_ c (List.mem_append_right _ (List.mem_append_right _ (List.mem_append_right _ (List.mem_append_right _ (List.mem_append_right _ (List.mem_append_right _ (List.mem_append_right _ (List.mem_append_right _ (List.mem_append_right _ (List.mem_append_right _ (List.mem_append_right _ (List.mem_append_right _ (List.mem_append_left _ hc))))))))))))))⟩⟩ ⟨hz2_0, hz2_1, hz2_2, hz2_3, hz2_4, hz2_5⟩ ⟨_, _, _, _, _, rfl, ⟨_, _, rfl, hrd11_0 _ (fun c hc => hs.at_ c (List.mem_append_right _ (List.mem_append_left _ hc)))⟩, ⟨_, _, rfl, hrd11_1 _ (fun c hc => hs.at_ c (List.mem_append_right _ (List.mem_append_right _ (List.mem_append_left _ hc))))⟩, ⟨_, _, rfl, hrd11_2 _ (fun c hc => hs.at_ c (List.mem_append_right _ (List.mem_append_right _ (List.mem_append_right _ (List.mem_append_left _ hc)))))⟩, ⟨_, _, rfl, hrd11_3 _ (fun c hc => hs.at_ c (List.mem_append_right _ (List.mem_append_right _ (List.mem_append_right _ (List.mem_append_right _ (List.mem_append_left _ hc))))))⟩, ⟨_, _, rfl, hrd11_4 _ (fun c hc => hs.at_ c (List.mem_append_right _ (List.mem_append_right _ (List.mem_append_right _ (List.mem_append_right _ (List.mem_append_right _ (List.mem_append_left _ hc)))))))⟩⟩) <| ?_
      refine NT rfl rfl <| ND <| CF rfl rfl <| SK <| SQ <| RG <| AS rfl rfl <| ND <| SQ <| RG <| MV rfl rfl <| MV rfl rfl <| ?_
      have hk1_12 : (0 : Int) ≤ 1 ∧ (1 : Int) ≤ 1 := by decide
      refine rw_ch (G := ch7) (R := c11_0 ++ (c11_1 ++ (c11_2 ++ (c11_3 ++ (c11_4 ++ (ch10 ++ (ch9 ++ (c8_0 ++ (c8_1 ++ (c8_2 ++ (c8_3 ++ (c8_4 ++ (ch6 ++ (c4_0 ++ (c4_1 ++ (c4_2 ++ (c4_3 ++ (c4_4 ++ (ch3 ++ ([])))))))))))))))))))) rfl fun_laws_markStreamS rfl (((((((((((((((((((((((((((((((((((((((List.Perm.refl _)).append_left _).trans (pullc _ _ _))).append_left _).trans (pullc _ _ _))).append_left _).trans (pullc _ _ _))).append_left _).trans (pullc _ _ _))).append_left _).trans (pullc _ _ _))).append_left _).trans (pullc _ _ _))).append_left _).trans (pullc _ _ _))).append_left _).trans (pullc _ _ _))).append_left _).trans (pullc _ _ _))).append_left _).trans (pullc _ _ _))).append_left _).trans (pullc _ _ _))).append_left _).trans (pullc _ _ _)).trans ((List.Perm.refl _).append_left _))) (fun w hs hin hnd => laws_markStreamS how7 hz1_0 hz1_1 (kto hk1_12 (by decide) (by decide) (by decide)) hin hnd) <| fun vh13 ch13 how13 => ?_
      obtain ⟨rfl, hO13_0⟩ := how13
      obtain ⟨hn13_0, hrv13_0, hR13_0, hrd13_0⟩ := hO13_0.reshape eStream
      have hkb14 : 0 ≤ (endD kS6 1 l) ∧ (endD kS6 1 l) ≤ 9895649738787 := by
        have hkt := endD_all (nx := kS6) (l := l) 9437218 (by decide) hz1_0 (k := 1) (fun x hx k => kS6_bd (hz1_1 x hx) k)
        omega
      refine AS rfl rfl <| ND <| gw_sub (Sub.cons (i := 0) rfl (Sub.cons (i := 3) rfl (Sub.cons (i := 4) rfl (Sub.cons (i := 6) rfl (Sub.cons (i := 8) rfl (Sub.cons (i := 9) rfl (Sub.cons (i := 10) rfl (Sub.nil _)))))))) <| SQ <| RG <| LS (i := 0) [_, _, _, _, _, _, _, _, _, _, _, _, _, _, _, _, _, _, _, _, _, _, _, _, _, _, _, _, _, _, _, _, _, _, _, _, _, _, _] rfl tyS_impl_Stream rfl rfl rfl rfl <| MV rfl rfl <| rw_ch (G := c8_0 ++ (c8_1 ++ (c8_2 ++ (c8_3 ++ (c8_4))))) (R := ch13 ++ (c11_0 ++ (c11_1 ++ (c11_2 ++ (c11_3 ++ (c11_4 ++ (ch10 ++ (ch9 ++ (ch6 ++ (c4_0 ++ (c4_1 ++ (c4_2 ++ (c4_3 ++ (c4_4 ++ (ch3 ++ ([])))))))))))))))) rfl fun_laws_markStream rfl ((((((((((((((((((((((((((((List.Perm.refl _)).append_left _).trans (pullc _ _ _))).append_left _).trans (pullc _ _ _))).append_left _).trans (pullc _ _ _))).append_left _).trans (pullc _ _ _))).append_left _).trans (pullc _ _ _))).append_left _).trans (pullc _ _ _))).append_left _).trans (pullc _ _ _))).append_left _).trans (pullc _ _ _)).trans (((((((((((((((((((((((((((List.Perm.refl _)).append_left _).trans (pullc _ _ _))).append_left _).trans (pullc _ _ _))).append_left _).trans (pullc _ _ _))).append_left _).trans (pullc _ _ _))).append_left _).trans (pullc _ _ _))).append_left _).trans (pullc _ _ _))).append_left _).trans (pullc _ _ _))).append_left _).trans (pullc _ _ _)).trans (((((((((((((((((((((((((((List.Perm.refl _)).append_left _).trans (pullc _ _ _))).append_left _).trans (pullc _ _ _))).append_left _).trans (pullc _ _ _))).append_left _).trans (pullc _ _ _))).append_left _).trans (pullc _ _ _))).append_left _).trans (pullc _ _ _))).append_left _).trans (pullc _ _ _))).append_left _).trans (pullc _ _ _)).trans (((((((((((((((((((((((((((List.Perm.refl _)).append_left _).trans (pullc _ _ _))).append_left _).trans (pullc _ _ _))).append_left _).trans (pullc _ _ _))).append_left _).trans (pullc _ _ _))).append_left _).trans (pullc _ _ _))).append_left _).trans (pullc _ _ _))).append_left _).trans (pullc _ _ _))).append_left _).trans (pullc _ _ _)).trans (((((((((((((((((((((((((((List.Perm.refl _)).append_left _).trans (pullc _ _ _))).append_left _).trans (pullc _ _ _))).append_left _).trans (pullc _ _ _))).append_left _).trans (pullc _ _ _))).append_left _).trans (pullc _ _ _))).append_left _).trans (pullc _ _ _))).append_left _).trans (pullc _ _ _))).append_left _).trans (pullc _ _ _)).trans ((List.Perm.refl _).append_left _)).append_left _)).append_left _)).append_left _)).append_left _))).trans (List.Perm.of_eq (by simp only [List.append_assoc]))) (fun w hs hin hnd => laws_markStream (x := x) h8_0 h8_1 h8_2 h8_3 h8_4 hz2_0 hz2_1 hz2_2 hz2_3 hz2_4 (kto hkb14 (by decide) (by decide) (by decide)) hin hnd) <| fun vh15 ch15 how15 => ?_
      obtain ⟨rfl, ch15_0, ch15_1, ch15_2, ch15_3, ch15_4, rfl, hO15_0, hO15_1, hO15_2, hO15_3, hO15_4⟩ := how15
      refine rw_F (F' := ch15_0 ++ (ch15_1 ++ (ch15_2 ++ (ch15_3 ++ (ch15_4 ++ (ch13 ++ (c11_0 ++ (c11_1 ++ (c11_2 ++ (c11_3 ++ (c11_4 ++ (ch10 ++ (ch9 ++ (ch6 ++ (c4_0 ++ (c4_1 ++ (c4_2 ++ (c4_3 ++ (c4_4 ++ (ch3 ++ ([]))))))))))))))))))))) (by simp only [List.append_assoc]) <| ?_
      obtain ⟨hn15_0, hrv15_0, hR15_0, hrd15_0⟩ := hO15_0.reshape eInt
      obtain ⟨hn15_1, hrv15_1, hR15_1, hrd15_1⟩ := hO15_1.reshape eRange
      obtain ⟨hn15_2, hrv15_2, hR15_2, hrd15_2⟩ := hO15_2.reshape eRange
      obtain ⟨hn15_3, hrv15_3, hR15_3, hrd15_3⟩ := hO15_3.reshape eRange
      obtain ⟨hn15_4, hrv15_4, hR15_4, hrd15_4⟩ := hO15_4.reshape eChunk
      have hkb16 : 0 ≤ (endD (nx 1) (endD kS6 1 l) x.send.ring.cells) ∧ (endD (nx 1) (endD kS6 1 l) x.send.ring.cells) ≤ 9895650787364 := by
        have hkt := endD_all (nx := (nx 1)) (l := x.send.ring.cells) 1 (by decide) hz2_0 (k := (endD kS6 1 l)) (fun x _ k => nx_bd (by decide) x k)
        omega
      have hkb17 : 0 ≤ (endD (nx 2) (endD (nx 1) (endD kS6 1 l) x.send.ring.cells) x.send.pending) ∧ (endD (nx 2) (endD (nx 1) (endD kS6 1 l) x.send.ring.cells) x.send.pending) ≤ 9895652884518 := by
        have hkt := endD_all (nx := (nx 2)) (l := x.send.pending) 2 (by decide) hz2_1 (k := (endD (nx 1) (endD kS6 1 l) x.send.ring.cells)) (fun x _ k => nx_bd (by decide) x k)
        omega
      have hkb18 : 0 ≤ (endD (nx 2) (endD (nx 2) (endD (nx 1) (endD kS6 1 l) x.send.ring.cells) x.send.pending) x.send.flight) ∧ (endD (nx 2) (endD (nx 2) (endD (nx 1) (endD kS6 1 l) x.send.ring.cells) x.send.pending) x.send.flight) ≤ 9895654981672 := by
        have hkt := endD_all (nx := (nx 2)) (l := x.send.flight) 2 (by decide) hz2_2 (k := (endD (nx 2) (endD (nx 1) (endD kS6 1 l) x.send.ring.cells) x.send.pending)) (fun x _ k => nx_bd (by decide) x k)
        omega
      have hkb19 : 0 ≤ (endD (nx 2) (endD (nx 2) (endD (nx 2) (endD (nx 1) (endD kS6 1 l) x.send.ring.cells) x.send.pending) x.send.flight) x.send.acked) ∧ (endD (nx 2) (endD (nx 2) (endD (nx 2) (endD (nx 1) (endD kS6 1 l) x.send.ring.cells) x.send.pending) x.send.flight) x.send.acked) ≤ 9895657078826 := by
        have hkt := endD_all (nx := (nx 2)) (l := x.send.acked) 2 (by decide) hz2_3 (k := (endD (nx 2) (endD (nx 2) (endD (nx 1) (endD kS6 1 l) x.send.ring.cells) x.send.pending) x.send.flight)) (fun x _ k => nx_bd (by decide) x k)
        omega
      have hkb20 : 0 ≤ (endD (nx 2) (endD (nx 2) (endD (nx 2) (endD (nx 2) (endD (nx 1) (endD kS6 1 l) x.send.ring.cells) x.send.pending) x.send.flight) x.send.acked) x.recv.buffer.chunks) ∧ (endD (nx 2) (endD (nx 2) (endD (nx 2) (endD (nx 2) (endD (nx 1) (endD kS6 1 l) x.send.ring.cells) x.send.pending) x.send.flight) x.send.acked) x.recv.buffer.chunks) ≤ 9895659175980 := by
        have hkt := endD_all (nx := (nx 2)) (l := x.recv.buffer.chunks) 2 (by decide) hz2_4 (k := (endD (nx 2) (endD (nx 2) (endD (nx 2) (endD (nx 1) (endD kS6 1 l) x.send.ring.cells) x.send.pending) x.send.flight) x.send.acked)) (fun x _ k => nx_bd (by decide) x k)
        omega
      refine AS rfl rfl <| ND <| SQ <| SQ <| RG <| MV rfl rfl <| rw_lss rfl rfl rfl <| MV rfl rfl <| ON rfl rfl (knn (kup hkb20)) <| MV rfl rfl <| ON rfl rfl (knn (kup hkb20)) <| MV rfl rfl <| ON rfl rfl (knn (kup hkb20)) <| CV1 rfl fun_laws_eqStreamS rfl (fun w hs => laws_eqStreamS_p ⟨_, _, rfl, hrd9 _ (fun c hc => hs.at_ c (List.mem_append_right _ (List.mem_append_right _ (List.mem_append_right _ (List.mem_append_right _ (List.mem_append_right _ (List.mem_append_right _ (List.mem_append_right _ (List.mem_append_right _ (List.mem_append_right _ (List.mem_append_right _ (List.mem_append_right _ (List.mem_append_right _ (List.mem_append_right _ (List.mem_append_left _ hc)))))))))))))))⟩ hlb hla ⟨_, _, rfl, hrd6 _ (fun c hc => hs.at_ c (List.mem_append_right _ (List.mem_append_right _ (List.mem_append_right _ (List.mem_append_right _ (List.mem_append_right _ (List.mem_append_right _ (List.mem_append_right _ (List.mem_append_right _ (List.mem_append_right _ (List.mem_append_right _ (List.mem_append_right _ (List.mem_append_right _ (List.mem_append_right _ (List.mem_append_right _ (List.mem_append_left _ hc))))))))))))))))⟩) <| ?_
      refine ON rfl rfl (knn (kup hkb20)) <| NT rfl rfl <| PF rfl rfl (knn (kup hkb20)) rfl <| ND <| gw_sub (Sub.cons (i := 0) rfl (Sub.cons (i := 3) rfl (Sub.cons (i := 4) rfl (Sub.cons (i := 6) rfl (Sub.cons (i := 9) rfl (Sub.cons (i := 63) rfl (Sub.nil _))))))) <| CF rfl rfl <| SK <| SQ <| RG <| AS rfl rfl <| ND <| SQ <| RG <| MV rfl rfl <| MV rfl rfl <| ?_
      have hk1_21 : (0 : Int) ≤ 1 ∧ (1 : Int) ≤ 1 := by decide
      refine rw_ch (G := ch9) (R := ch15_0 ++ (ch15_1 ++ (ch15_2 ++ (ch15_3 ++ (ch15_4 ++ (ch13 ++ (c11_0 ++ (c11_1 ++ (c11_2 ++ (c11_3 ++ (c11_4 ++ (ch10 ++ (ch6 ++ (c4_0 ++ (c4_1 ++ (c4_2 ++ (c4_3 ++ (c4_4 ++ (ch3 ++ ([])))))))))))))))))))) rfl fun_laws_markStreamS rfl (((((((((((((((((((((((((((((((((((((((List.Perm.refl _)).append_left _).trans (pullc _ _ _))).append_left _).trans (pullc _ _ _))).append_left _).trans (pullc _ _ _))).append_left _).trans (pullc _ _ _))).append_left _).trans (pullc _ _ _))).append_left _).trans (pullc _ _ _))).append_left _).trans (pullc _ _ _))).append_left _).trans (pullc _ _ _))).append_left _).trans (pullc _ _ _))).append_left _).trans (pullc _ _ _))).append_left _).trans (pullc _ _ _))).append_left _).trans (pullc _ _ _)).trans ((List.Perm.refl _).append_left _))) (fun w hs hin hnd => laws_markStreamS_p how9 hlb hla (kto hk1_21 (by decide) (by decide) (by decide)) hin hnd) <| fun vh22 ch22 how22 => ?_
      obtain ⟨rfl, hO22_0⟩ := how22
      obtain ⟨hn22_0, hrv22_0, hR22_0, hrd22_0⟩ := hO22_0.reshape eStream
      have hkb23 : 0 ≤ (endD kS6 1 (l.set n x)) ∧ (endD kS6 1 (l.set n x)) ≤ 9895649738787 := by
        have hkt := endD_all (nx := kS6) (l := (l.set n x)) 9437218 (by decide) hlb (k := 1) (fun x hx k => kS6_bd (hla x hx) k)
        omega
      refine AS rfl rfl <| ND <| SQ <| RG <| AS rfl rfl <| ND <| SQ <| RG <| MV rfl rfl <| MV rfl rfl <| ?_
      have hk1_24 : (0 : Int) ≤ 1 ∧ (1 : Int) ≤ 1 := by decide
      refine CV1 rfl fun_laws_heldStreamS rfl (fun w hs => laws_heldStreamS_p (k := 1) (l := (l.set n x)) ⟨_, _, hrv22_0, hrd22_0 _ (fun c hc => hs.at_ c (List.mem_append_right _ (List.mem_append_left _ hc)))⟩ hlb hla (kto hk1_24 (by decide) (by decide) (by decide))) <| ?_
      have hkb25 : 0 ≤ (endD kS6 1 (l.set n x)) ∧ (endD kS6 1 (l.set n x)) ≤ 9895649738787 := by
        have hkt := endD_all (nx := kS6) (l := (l.set n x)) 9437218 (by decide) hlb (k := 1) (fun x hx k => kS6_bd (hla x hx) k)
        omega
      refine AS rfl rfl <| ND <| SQ <| SQ <| RG <| MV rfl rfl <| rw_lss rfl rfl rfl <| ND <| CF rfl (knn (kup hkb25)) <| SK <| SQ <| SQ <| RG <| MV rfl rfl <| MV rfl rfl <| NS rfl rfl rfl <| ND <| gw_sub (Sub.cons (i := 0) rfl (Sub.cons (i := 3) rfl (Sub.cons (i := 4) rfl (Sub.cons (i := 6) rfl (Sub.cons (i := 9) rfl (Sub.cons (i := 11) rfl (Sub.cons (i := 12) rfl (Sub.cons (i := 74) rfl (Sub.nil _))))))))) <| CF rfl rfl <| SK <| SQ <| gw_draw' [(0, .det), (2, .det), (1, .add)] [3, 4, 5] mixed rfl (free_det (free_det (free_add free_nil))) (ts := [_, _, _]) rfl <| ?_
      refine DT rfl rfl (fun K hk => MV rfl rfl hk) <| DT rfl rfl (fun K hk => LS (i := 1) [_, _, _, _, _, _, _, _, _, _, _, _, _, _, _, _, _, _, _, _, _, _, _, _, _, _, _, _, _, _, _, _, _, _, _, _, _, _, _] rfl tyS_laws_Stream rfl rfl rfl rfl hk) <| DA rfl rfl (fun K hk => CN1 rfl fun_laws_toStreamS rfl (fun w hs => laws_toStreamS (hA.s RdStream.keeps hs) hz1_0 hz1_1) hk) <| fun v26 ch26 how26 => ?_
      obtain ⟨R26, rc26, rfl, hR26, hrd26⟩ := how26.shape eStream
      refine dw_nil <| CN1 rfl fun_laws_toStream rfl (fun w hs => laws_toStream ⟨_, _, _, _, _, rfl, (hAx_0.s Pl.keeps hs), (hAx_1.s Pl.keeps hs), (hAx_2.s Pl.keeps hs), (hAx_3.s Pl.keeps hs), (hAx_4.s Pl.keeps hs)⟩ ⟨hz2_0, hz2_1, hz2_2, hz2_3, hz2_4, hz2_5⟩) <| fun vv27 ch27 how27 => ?_
      obtain ⟨cs27, rfl, v27_0, v27_1, v27_2, v27_3, v27_4, c27_0, c27_1, c27_2, c27_3, c27_4, rfl, h27_0, h27_1, h27_2, h27_3, h27_4, rfl⟩ := how27
      refine rw_F (F' := c27_0 ++ (c27_1 ++ (c27_2 ++ (c27_3 ++ (c27_4 ++ (ch26 ++ (ch22 ++ (ch15_0 ++ (ch15_1 ++ (ch15_2 ++ (ch15_3 ++ (ch15_4 ++ (ch13 ++ (c11_0 ++ (c11_1 ++ (c11_2 ++ (c11_3 ++ (c11_4 ++ (ch10 ++ (ch6 ++ (c4_0 ++ (c4_1 ++ (c4_2 ++ (c4_3 ++ (c4_4 ++ (ch3 ++ ([]))))))))))))))))))))))))))) (by simp only [List.append_assoc]) <| ?_
      obtain ⟨R27_0, b27_0, rfl, hR27_0, hrd27_0⟩ := h27_0.shape eInt
      obtain ⟨R27_1, b27_1, rfl, hR27_1, hrd27_1⟩ := h27_1.shape eRange
      obtain ⟨R27_2, b27_2, rfl, hR27_2, hrd27_2⟩ := h27_2.shape eRange
      obtain ⟨R27_3, b27_3, rfl, hR27_3, hrd27_3⟩ := h27_3.shape eRange
      obtain ⟨R27_4, b27_4, rfl, hR27_4, hrd27_4⟩ := h27_4.shape eChunk
      refine CN1 rfl fun_impl_PutStream rfl (fun w hs => impl_PutStream_T ⟨_, _, rfl, hrd26 _ (fun c hc => hs.at_ c (List.mem_append_right _ (List.mem_append_right _ (List.mem_append_right _ (List.mem_append_right _ (List.mem_append_right _ (List.mem_append_right _ (List.mem_append_left _ hc))))))))⟩ hz1_0 hz1_1 ⟨_, _, _, _, _, rfl, ⟨_, _, rfl, hrd27_0 _ (fun c hc => hs.at_ c (List.mem_append_right _ (List.mem_append_left _ hc)))⟩, ⟨_, _, rfl, hrd27_1 _ (fun c hc => hs.at_ c (List.mem_append_right _ (List.mem_append_right _ (List.mem_append_left _ hc))))⟩, ⟨_, _, rfl, hrd27_2 _ (fun c hc => hs.at_ c (List.mem_append_right _ (List.mem_append_right _ (List.mem_append_right _ (List.mem_append_left _ hc)))))⟩, ⟨_, _, rfl, hrd27_3 _ (fun c hc => hs.at_ c (List.mem_append_right _ (List.mem_append_right _ (List.mem_append_right _ (List.mem_append_right _ (List.mem_append_left _ hc))))))⟩, ⟨_, _, rfl, hrd27_4 _ (fun c hc => hs.at_ c (List.mem_append_right _ (List.mem_append_right _ (List.mem_append_right _ (List.mem_append_right _ (List.mem_append_right _ (List.mem_append_left _ hc)))))))⟩⟩ ⟨hz2_0, hz2_1, hz2_2, hz2_3, hz2_4, hz2_5⟩ hf hs_) <| fun v28 ch28 how28 => ?_
      obtain ⟨R28, rc28, rfl, hR28, hrd28⟩ := how28.shape eStream
      refine AS rfl rfl <| ND <| SQ <| SQ <| RG <| MV rfl rfl <| MV rfl rfl <| CV1 rfl fun_laws_eqStreamS rfl (fun w hs => laws_eqStreamS_p ⟨_, _, rfl, hrd28 _ (fun c hc => hs.at_ c (List.mem_append_right _ (List.mem_append_left _ hc)))⟩ hlb hla ⟨_, _, rfl, hrd6 _ (fun c hc => hs.at_ c (List.mem_append_right _ (List.mem_append_right _ (List.mem_append_right _ (List.mem_append_right _ (List.mem_append_right _ (List.mem_append_right _ (List.mem_append_right _ (List.mem_append_right _ (List.mem_append_right _ (List.mem_append_right _ (List.mem_append_right _ (List.mem_append_right _ (List.mem_append_right _ (List.mem_append_right _ (List.mem_append_right _ (List.mem_append_right _ (List.mem_append_right _ (List.mem_append_right _ (List.mem_append_right _ (List.mem_append_right _ (List.mem_append_right _ (List.mem_append_left _ hc)))))))))))))))))))))))⟩) <| ?_
      refine NT rfl rfl <| ND <| gw_sub (Sub.cons (i := 4) rfl (Sub.cons (i := 9) rfl (Sub.cons (i := 11) rfl (Sub.cons (i := 12) rfl (Sub.cons (i := 83) rfl (Sub.nil _)))))) <| CF rfl rfl <| SK <| SQ <| RG <| AS rfl rfl <| ND <| SQ <| RG <| MV rfl rfl <| MV rfl rfl <| ?_
      have hk1_29 : (0 : Int) ≤ 1 ∧ (1 : Int) ≤ 1 := by decide
      refine CV1 rfl fun_laws_heldStreamS rfl (fun w hs => laws_heldStreamS_p (k := 1) (l := (l.set n x)) ⟨_, _, hrv22_0, hrd22_0 _ (fun c hc => hs.at_ c (List.mem_append_right _ (List.mem_append_right _ (List.mem_append_right _ (List.mem_append_right _ (List.mem_append_right _ (List.mem_append_right _ (List.mem_append_right _ (List.mem_append_right _ (List.mem_append_left _ hc))))))))))⟩ hlb hla (kto hk1_29 (by decide) (by decide) (by decide))) <| ?_
      have hkb30 : 0 ≤ (endD kS6 1 (l.set n x)) ∧ (endD kS6 1 (l.set n x)) ≤ 9895649738787 := by
        have hkt := endD_all (nx := kS6) (l := (l.set n x)) 9437218 (by decide) hlb (k := 1) (fun x hx k => kS6_bd (hla x hx) k)
        omega
      refine AS rfl rfl <| ND <| SQ <| SQ <| RG <| MV rfl rfl <| rw_lss rfl rfl rfl <| ND <| CF rfl (knn (kup hkb30)) <| SK <| SQ <| SQ <| RG <| MV rfl rfl <| MV rfl rfl <| NS rfl rfl rfl <| ND <| gw_sub (Sub.cons (i := 4) rfl (Sub.cons (i := 91) rfl (Sub.nil _))) <| CF rfl rfl <| SK <| SQ <| RG <| AS rfl rfl <| ND <| ret_cv Try.func5 (res1 Try.func5 rfl (rv_tmp rfl)) <| ?_
      rfl

set_option maxHeartbeats 8000000 in
set_option maxRecDepth 20000 in
theorem law_FnExactPutStream_F {w : World} {v : Value} {l : List Stream} (hv : RdS w 39 RdStream v l) (hb : l.length ≤ 9223372036854775807) (hall : ∀ y ∈ l, y.le 9223372036854775807) {csx_ : List Value} {x : Stream} (hvx_ : RdStream w csx_ x) (hbx_ : x.le 9223372036854775807) (hf : findStream l x.id = -1) : CV Try.prog 5 [v, .agg csx_.toArray] w (.bool true) := by
  obtain ⟨A, c, rfl, hA⟩ := hv
  obtain ⟨vx_0, vx_1, vx_2, vx_3, vx_4, rfl, kx_0, kx_1, kx_2, kx_3, kx_4⟩ := hvx_
  obtain ⟨Ax_0, cx_0, rfl, hAx_0⟩ := kx_0
  obtain ⟨Ax_1, cx_1, rfl, hAx_1⟩ := kx_1
  obtain ⟨Ax_2, cx_2, rfl, hAx_2⟩ := kx_2
  obtain ⟨Ax_3, cx_3, rfl, hAx_3⟩ := kx_3
  obtain ⟨Ax_4, cx_4, rfl, hAx_4⟩ := kx_4
  obtain ⟨hbx_0, hbx_1, hbx_2, hbx_3, hbx_4, hbx_5⟩ := hbx_
  refine cv_of Try.func5 rfl rfl rfl <| SQ <| RG <| BX [_, _, _, _, _, _, _, _, _, _, _, _, _, _, _, _, _, _, _, _, _, _, _, _, _, _, _, _, _, _, _, _, _, _, _, _, _, _, _] rfl rfl rfl <| fun b1 => AS rfl rfl <| ND <| SQ <| RG <| AS rfl rfl <| ND <| SQ <| RG <| MV rfl rfl <| MV rfl rfl <| CV1 rfl fun_laws_szStreamS rfl (fun w hs => laws_szStreamS (hA.s RdStream.keeps hs) _ (by first | omega | assumption) (by first | omega | assumption) (by omega) (by omega)) <| AS rfl rfl <| ND <| SQ <| SQ <| RG <| ?_
  refine MV rfl rfl <| rw_lss rfl rfl rfl <| ND <| ?_
  refine gw_cond rfl (fun h1 => ?_) (fun h1 => ?_)
  · refine SQ <| RG <| AS rfl rfl <| ND <| ret_cv Try.func5 (res1 Try.func5 rfl (rv_tmp rfl)) <| ?_
    rfl
  · have hnn1 := nn_of h1
    obtain ⟨hle1, hz1_0, hz1_1⟩ := szStreams_ok (by first | omega | assumption) (by first | omega | assumption) (by omega) (by omega) hnn1
    refine SK <| SQ <| RG <| LS (i := 0) [_, _, _, _, _, _, _, _, _, _, _, _, _, _, _, _, _, _, _, _, _, _, _, _, _, _, _, _, _, _, _, _, _, _, _, _, _, _, _] rfl tyS_laws_Stream rfl rfl rfl rfl <| MV rfl rfl <| CV1 rfl fun_laws_szStream rfl (fun w hs => laws_szStream ⟨_, _, _, _, _, rfl, (hAx_0.s Pl.keeps hs), (hAx_1.s Pl.keeps hs), (hAx_2.s Pl.keeps hs), (hAx_3.s Pl.keeps hs), (hAx_4.s Pl.keeps hs)⟩ _ ⟨by first | omega | assumption, by first | omega | assumption, by first | omega | assumption, by first | omega | assumption, by first | omega | assumption, by first | omega | assumption⟩ (by omega) (by omega)) <| ?_
    refine AS rfl rfl <| ND <| SQ <| SQ <| RG <| MV rfl rfl <| rw_lss rfl rfl rfl <| ND <| gw_sub (Sub.cons (i := 0) rfl (Sub.cons (i := 3) rfl (Sub.cons (i := 4) rfl (Sub.cons (i := 23) rfl (Sub.nil _))))) <| ?_
    refine gw_cond rfl (fun h2 => ?_) (fun h2 => ?_)
    · refine SQ <| RG <| AS rfl rfl <| ND <| ret_cv Try.func5 (res1 Try.func5 rfl (rv_tmp rfl)) <| ?_
      rfl
    · have hnn2 := nn_of h2
      obtain ⟨hle2, hz2_0, hz2_1, hz2_2, hz2_3, hz2_4, hz2_5⟩ := szStream_ok ⟨by first | omega | assumption, by first | omega | assumption, by first | omega | assumption, by first | omega | assumption, by first | omega | assumption, by first | omega | assumption⟩ (by omega) (by omega) hnn2
      refine SK <| SQ <| gw_draw' [(0, .det), (2, .det), (1, .add)] [3, 4, 5] mixed rfl (free_det (free_det (free_add free_nil))) (ts := [_, _, _]) rfl <| DT rfl rfl (fun K hk => MV rfl rfl hk) <| DT rfl rfl (fun K hk => LS (i := 0) [_, _, _, _, _, _, _, _, _, _, _, _, _, _, _, _, _, _, _, _, _, _, _, _, _, _, _, _, _, _, _, _, _, _, _, _, _, _, _] rfl tyS_laws_Stream rfl rfl rfl rfl hk) <| DA rfl rfl (fun K hk => CN1 rfl fun_laws_toStreamS rfl (fun w hs => laws_toStreamS (hA.s RdStream.keeps hs) hz1_0 hz1_1) hk) <| fun v3 ch3 how3 => ?_
      obtain ⟨R3, rc3, rfl, hR3, hrd3⟩ := how3.shape eStream
      refine dw_nil <| CN1 rfl fun_laws_toStream rfl (fun w hs => laws_toStream ⟨_, _, _, _, _, rfl, (hAx_0.s Pl.keeps hs), (hAx_1.s Pl.keeps hs), (hAx_2.s Pl.keeps hs), (hAx_3.s Pl.keeps hs), (hAx_4.s Pl.keeps hs)⟩ ⟨hz2_0, hz2_1, hz2_2, hz2_3, hz2_4, hz2_5⟩) <| fun vv4 ch4 how4 => ?_
      obtain ⟨cs4, rfl, v4_0, v4_1, v4_2, v4_3, v4_4, c4_0, c4_1, c4_2, c4_3, c4_4, rfl, h4_0, h4_1, h4_2, h4_3, h4_4, rfl⟩ := how4
      refine rw_F (F' := c4_0 ++ (c4_1 ++ (c4_2 ++ (c4_3 ++ (c4_4 ++ (ch3 ++ ([]))))))) (by simp only [List.append_assoc]) <| ?_
      obtain ⟨R4_0, b4_0, rfl, hR4_0, hrd4_0⟩ := h4_0.shape eInt
      obtain ⟨R4_1, b4_1, rfl, hR4_1, hrd4_1⟩ := h4_1.shape eRange
      obtain ⟨R4_2, b4_2, rfl, hR4_2, hrd4_2⟩ := h4_2.shape eRange
      obtain ⟨R4_3, b4_3, rfl, hR4_3, hrd4_3⟩ := h4_3.shape eRange
      obtain ⟨R4_4, b4_4, rfl, hR4_4, hrd4_4⟩ := h4_4.shape eChunk
      have hlx : x.le 1048576 := ⟨hz2_0, hz2_1, hz2_2, hz2_3, hz2_4, hz2_5⟩
      have hlb : (insGo x false l).length ≤ 1048577 := Nat.le_trans (ins_len x false l) (Nat.succ_le_succ hz1_0)
      have hla : ∀ y ∈ insGo x false l, y.le 1048576 := ins_all hlx false l hz1_1
      refine CN1 rfl fun_spec_PutStream rfl (fun w hs => spec_PutStream_F ⟨_, _, rfl, hrd3 _ (fun c hc => hs.at_ c (List.mem_append_right _ (List.mem_append_right _ (List.mem_append_right _ (List.mem_append_right _ (List.mem_append_right _ (List.mem_append_right _ (List.mem_append_left _ hc))))))))⟩ hz1_0 hz1_1 ⟨_, _, _, _, _, rfl, ⟨_, _, rfl, hrd4_0 _ (fun c hc => hs.at_ c (List.mem_append_right _ (List.mem_append_left _ hc)))⟩, ⟨_, _, rfl, hrd4_1 _ (fun c hc => hs.at_ c (List.mem_append_right _ (List.mem_append_right _ (List.mem_append_left _ hc))))⟩, ⟨_, _, rfl, hrd4_2 _ (fun c hc => hs.at_ c (List.mem_append_right _ (List.mem_append_right _ (List.mem_append_right _ (List.mem_append_left _ hc)))))⟩, ⟨_, _, rfl, hrd4_3 _ (fun c hc => hs.at_ c (List.mem_append_right _ (List.mem_append_right _ (List.mem_append_right _ (List.mem_append_right _ (List.mem_append_left _ hc))))))⟩, ⟨_, _, rfl, hrd4_4 _ (fun c hc => hs.at_ c (List.mem_append_right _ (List.mem_append_right _ (List.mem_append_right _ (List.mem_append_right _ (List.mem_append_right _ (List.mem_append_left _ hc)))))))⟩⟩ ⟨hz2_0, hz2_1, hz2_2, hz2_3, hz2_4, hz2_5⟩ hf) <| fun v6 ch6 how6 => ?_
      obtain ⟨R6, rc6, rfl, hR6, hrd6⟩ := how6.shape eStream
      refine AS rfl rfl <| ND <| SQ <| RG <| MV rfl rfl <| CN1 rfl fun_laws_toStreamS rfl (fun w hs => laws_toStreamS (hA.s RdStream.keeps hs) hz1_0 hz1_1) <| fun v7 ch7 how7 => ?_
      obtain ⟨R7, rc7, rfl, hR7, hrd7⟩ := how7.shape eStream
      refine AS rfl rfl <| ND <| SQ <| RG <| LS (i := 0) [_, _, _, _, _, _, _, _, _, _, _, _, _, _, _, _, _, _, _, _, _, _, _, _, _, _, _, _, _, _, _, _, _, _, _, _, _, _, _] rfl tyS_laws_Stream rfl rfl rfl rfl <| CN1 rfl fun_laws_toStream rfl (fun w hs => laws_toStream ⟨_, _, _, _, _, rfl, (hAx_0.s Pl.keeps hs), (hAx_1.s Pl.keeps hs), (hAx_2.s Pl.keeps hs), (hAx_3.s Pl.keeps hs), (hAx_4.s Pl.keeps hs)⟩ ⟨hz2_0, hz2_1, hz2_2, hz2_3, hz2_4, hz2_5⟩) <| fun vv8 ch8 how8 => ?_
      obtain ⟨cs8, rfl, v8_0, v8_1, v8_2, v8_3, v8_4, c8_0, c8_1, c8_2, c8_3, c8_4, rfl, h8_0, h8_1, h8_2, h8_3, h8_4, rfl⟩ := how8
      refine rw_F (F' := c8_0 ++ (c8_1 ++ (c8_2 ++ (c8_3 ++ (c8_4 ++ (ch7 ++ (ch6 ++ (c4_0 ++ (c4_1 ++ (c4_2 ++ (c4_3 ++ (c4_4 ++ (ch3 ++ ([])))))))))))))) (by simp only [List.append_assoc]) <| ?_
      obtain ⟨R8_0, b8_0, rfl, hR8_0, hrd8_0⟩ := h8_0.shape eInt
      obtain ⟨R8_1, b8_1, rfl, hR8_1, hrd8_1⟩ := h8_1.shape eRange
      obtain ⟨R8_2, b8_2, rfl, hR8_2, hrd8_2⟩ := h8_2.shape eRange
      obtain ⟨R8_3, b8_3, rfl, hR8_3, hrd8_3⟩ := h8_3.shape eRange
      obtain ⟨R8_4, b8_4, rfl, hR8_4, hrd8_4⟩ := h8_4.shape eChunk
      refine AL rfl tyZ_impl_Stream <| fun b2 => rw_storeN (i := 0) [_, _, _, _, _, _, _, _, _, _, _, _, _, _, _, _, _, _, _, _, _, _, _, _, _, _, _, _, _, _, _, _, _, _, _, _, _, _, _] [_, _, _, _, _, _, _, _, _, _, _, _, _, _, _, _, _, _, _, _, _, _, _, _, _, _, _, _, _, _, _, _, _, _, _, _, _, _, _] [_, _] tyS_impl_Stream.sz rfl rfl rfl rfl rfl rfl rfl rfl rfl <| ND <| gw_sub (Sub.cons (i := 0) rfl (Sub.cons (i := 3) rfl (Sub.cons (i := 4) rfl (Sub.cons (i := 6) rfl (Sub.cons (i := 7) rfl (Sub.cons (i := 8) rfl (Sub.nil _))))))) <| SQ <| RG <| MV rfl rfl <| LS (i := 0) [_, _, _, _, _, _, _, _, _, _, _, _, _, _, _, _, _, _, _, _, _, _, _, _, _, _, _, _, _, _, _, _, _, _, _, _, _, _, _] rfl tyS_impl_Stream rfl rfl rfl rfl <| ?_
      refine CN1 rfl fun_impl_PutStream rfl (fun w hs => impl_PutStream_F ⟨_, _, rfl, hrd7 _ (fun c hc => hs.at_ c (List.mem_append_right _ (List.mem_append_right _ (List.mem_append_right _ (List.mem_append_right _ (List.mem_append_right _ (List.mem_append_right _ (List.mem_append_left _ hc))))))))⟩ hz1_0 hz1_1 ⟨_, _, _, _, _, rfl, ⟨_, _, rfl, hrd8_0 _ (fun c hc => hs.at_ c (List.mem_append_right _ (List.mem_append_left _ hc)))⟩, ⟨_, _, rfl, hrd8_1 _ (fun c hc => hs.at_ c (List.mem_append_right _ (List.mem_append_right _ (List.mem_append_left _ hc))))⟩, ⟨_, _, rfl, hrd8_2 _ (fun c hc => hs.at_ c (List.mem_append_right _ (List.mem_append_right _ (List.mem_append_right _ (List.mem_append_left _ hc)))))⟩, ⟨_, _, rfl, hrd8_3 _ (fun c hc => hs.at_ c (List.mem_append_right _ (List.mem_append_right _ (List.mem_append_right _ (List.mem_append_right _ (List.mem_append_left _ hc))))))⟩, ⟨_, _, rfl, hrd8_4 _ (fun c hc => hs.at_ c (List.mem_append_right _ (List.mem_append_right _ (List.mem_append_right _ (List.mem_append_right _ (List.mem_append_right _ (List.mem_append_left _ hc)))))))⟩⟩ ⟨hz2_0, hz2_1, hz2_2, hz2_3, hz2_4, hz2_5⟩ hf) <| fun v9 ch9 how9 => ?_
      obtain ⟨R9, rc9, rfl, hR9, hrd9⟩ := how9.shape eStream
      refine AS rfl rfl <| ND <| SQ <| SQ <| RG <| MV rfl rfl <| MV rfl rfl <| CV1 rfl fun_laws_eqStreamS rfl (fun w hs => laws_eqStreamS_p ⟨_, _, rfl, hrd9 _ (fun c hc => hs.at_ c (List.mem_append_right _ (List.mem_append_left _ hc)))⟩ hlb hla ⟨_, _, rfl, hrd6 _ (fun c hc => hs.at_ c (List.mem_append_right _ (List.mem_append_right _ (List.mem_append_right _ (List.mem_append_right _ (List.mem_append_right _ (List.mem_append_right _ (List.mem_append_right _ (List.mem_append_right _ (List.mem_append_left _ hc))))))))))⟩) <| NT rfl rfl <| ND <| CF rfl rfl <| ?_
      refine SK <| SQ <| SQ <| RG <| MV rfl rfl <| MV rfl rfl <| CN1 rfl fun_laws_toStreamS rfl (fun w hs => laws_toStreamS (hA.s RdStream.keeps hs) hz1_0 hz1_1) <| fun v10 ch10 how10 => ?_
      obtain ⟨R10, rc10, rfl, hR10, hrd10⟩ := how10.shape eStream
      refine CV1 rfl fun_laws_eqStreamS rfl (fun w hs => laws_eqStreamS ⟨_, _, rfl, hrd7 _ (fun c hc => hs.at_ c (List.mem_append_right _ (List.mem_append_right _ (List.mem_append_right _ (List.mem_append_right _ (List.mem_append_right _ (List.mem_append_right _ (List.mem_append_right _ (List.mem_append_right _ (List.mem_append_left _ hc))))))))))⟩ hz1_0 hz1_1 ⟨_, _, rfl, hrd10 _ (fun c hc => hs.at_ c (List.mem_append_right _ (List.mem_append_left _ hc)))⟩) <| NT rfl rfl <| ND <| gw_sub (Sub.cons (i := 0) rfl (Sub.cons (i := 3) rfl (Sub.cons (i := 4) rfl (Sub.cons (i := 6) rfl (Sub.cons (i := 7) rfl (Sub.cons (i := 8) rfl (Sub.cons (i := 9) rfl (Sub.cons (i := 44) rfl (Sub.nil _))))))))) <| ?_
      refine CF rfl rfl <| SK <| SQ <| SQ <| gw_draw' [(0, .det), (1, .det), (2, .add)] [3, 4] mixed rfl (free_det (free_det (free_add free_nil))) (ts := [_, _]) rfl <| DT rfl rfl (fun K hk => LS (i := 0) [_, _, _, _, _, _, _, _, _, _, _, _, _, _, _, _, _, _, _, _, _, _, _, _, _, _, _, _, _, _, _, _, _, _, _, _, _, _, _] rfl tyS_impl_Stream rfl rfl rfl rfl hk) <| DT rfl rfl (fun K hk => LS (i := 1) [_, _, _, _, _, _, _, _, _, _, _, _, _, _, _, _, _, _, _, _, _, _, _, _, _, _, _, _, _, _, _, _, _, _, _, _, _, _, _] rfl tyS_laws_Stream rfl rfl rfl rfl hk) <| DA rfl rfl (fun K hk => CN1 rfl fun_laws_toStream rfl (fun w hs => laws_toStream ⟨_, _, _, _, _, rfl, (hAx_0.s Pl.keeps hs), (hAx_1.s Pl.keeps hs), (hAx_2.s Pl.keeps hs), (hAx_3.s Pl.keeps hs), (hAx_4.s Pl.keeps hs)⟩ ⟨hz2_0, hz2_1, hz2_2, hz2_3, hz2_4, hz2_5⟩) hk) <| fun vv11 ch11 how11 => ?_
      obtain ⟨cs11, rfl, v11_0, v11_1, v11_2, v11_3, v11_4, c11_0, c11_1, c11_2, c11_3, c11_4, rfl, h11_0, h11_1, h11_2, h11_3, h11_4, rfl⟩ := how11
      refine dw_F (F' := c11_0 ++ (c11_1 ++ (c11_2 ++ (c11_3 ++ (c11_4 ++ (ch10 ++ (ch9 ++ (c8_0 ++ (c8_1 ++ (c8_2 ++ (c8_3 ++ (c8_4 ++ (ch7 ++ (ch6 ++ (c4_0 ++ (c4_1 ++ (c4_2 ++ (c4_3 ++ (c4_4 ++ (ch3 ++ ([]))))))))))))))))))))) (by simp only [List.append_assoc]) <| ?_
      obtain ⟨R11_0, b11_0, rfl, hR11_0, hrd11_0⟩ := h11_0.shape eInt
      obtain ⟨R11_1, b11_1, rfl, hR11_1, hrd11_1⟩ := h11_1.shape eRange
      obtain ⟨R11_2, b11_2, rfl, hR11_2, hrd11_2⟩ := h11_2.shape eRange
      obtain ⟨R11_3, b11_3, rfl, hR11_3, hrd11_3⟩ := h11_3.shape eRange
      obtain ⟨R11_4, b11_4, rfl, hR11_4, hrd11_4⟩ := h11_4.shape eChunk
      refine dw_nil <| CV1 rfl fun_laws_eqStream rfl (fun w hs => laws_eqStream ⟨_, _, _, _, _, rfl, ⟨_, _, rfl, hrd8_0 _ (fun c hc => hs.at_ c (List.mem_append_right _ (List.mem_append_right _ (List.mem_append_right _ (List.mem_append_right _ (List.mem_append_right _ (List.mem_append_right _ (List.mem_append_right _ (List.mem_append_right _ (List.mem_append_left _ hc))))))))))⟩, ⟨_, _, rfl, hrd8_1 _ (fun c hc => hs.at_ c (List.mem_append_right _ (List.mem_append_right _ (List.mem_append_right _ (List.mem_append_right _ (List.mem_append_right _ (List.mem_append_right _ (List.mem_append_right _ (List.mem_append_right _ (List.mem_append_right _ (List.mem_append_left _ hc)))))))))))⟩, ⟨_, _, rfl, hrd8_2 _ (fun c hc => hs.at_ c (List.mem_append_right _ (List.mem_append_right _ (List.mem_append_right _ (List.mem_append_right _ (List.mem_append_right _ (List.mem_append_right _ (List.mem_append_right _ (List.mem_append_right _ (List.mem_append_right _ (List.mem_append_right _ (List.mem_append_left _ hc))))))))))))⟩, ⟨_, _, rfl, hrd8_3 _ (fun c hc => hs.at_ c (List.mem_append_right _ (List.mem_append_right _ (List.mem_append_right _ (List.mem_append_right _ (List.mem_append_right _ (List.mem_append_right _ (List.mem_append_right _ (List.mem_append_right _ (List.mem_append_right _ (List.mem_append_right _ (List.mem_append_right _ (List.mem_append_left _ hc)))))))))))))⟩, ⟨_, _, rfl, hrd8_4 _ (fun c hc => hs.at_ c (List.mem_append_right _ (List.mem_append_right _ (List.mem_append_right _ (List.mem_append_right _ (List.mem_append_right _ (List.mem_append_right _ (List.mem_append_right _ (List.mem_append_right _ (List.mem_append_right _ (List.mem_append_right _ (List.mem_append_right _ (List.mem_append_right _ (List.mem_append_left _ hc))))))))))))))⟩⟩ ⟨hz2_0, hz2_1, hz2_2, hz2_3, hz2_4, hz2_5⟩ ⟨_, _, _, _, _, rfl, ⟨_, _, rfl, hrd11_0 _ (fun c hc => hs.at_ c (List.mem_append_right _ (List.mem_append_left _ hc)))⟩, ⟨_, _, rfl, hrd11_1 _ (fun c hc => hs.at_ c (List.mem_append_right _ (List.mem_append_right _ (List.mem_append_left _ hc))))⟩, ⟨_, _, rfl, hrd11_2 _ (fun c hc => hs.at_ c (List.mem_append_right _ (List.mem_append_right _ (List.mem_append_right _ (List.mem_append_left _ hc)))))⟩, ⟨_, _, rfl, hrd11_3 _ (fun c hc => hs.at_ c (List.mem_append_right _ (List.mem_append_right _ (List.mem_append_right _ (List.mem_append_right _ (List.mem_append_left _ hc))))))⟩, ⟨_, _, rfl, hrd11_4 _ (fun c hc => hs.at_ c (List.mem_append_right _ (List.mem_append_right _ (List.mem_append_right _ (List.mem_append_right _ (List.mem_append_right _ (List.mem_append_left _ hc)))))))⟩⟩) <| ?_
      refine NT rfl rfl <| ND <| CF rfl rfl <| SK <| SQ <| RG <| AS rfl rfl <| ND <| SQ <| RG <| MV rfl rfl <| MV rfl rfl <| ?_
      have hk1_12 : (0 : Int) ≤ 1 ∧ (1 : Int) ≤ 1 := by decide
      refine rw_ch (G := ch7) (R := c11_0 ++ (c11_1 ++ (c11_2 ++ (c11_3 ++ (c11_4 ++ (ch10 ++ (ch9 ++ (c8_0 ++ (c8_1 ++ (c8_2 ++ (c8_3 ++ (c8_4 ++ (ch6 ++ (c4_0 ++ (c4_1 ++ (c4_2 ++ (c4_3 ++ (c4_4 ++ (ch3 ++ ([])))))))))))))))))))) rfl fun_laws_markStreamS rfl (((((((((((((((((((((((((((((((((((((((List.Perm.refl _)).append_left _).trans (pullc _ _ _))).append_left _).trans (pullc _ _ _))).append_left _).trans (pullc _ _ _))).append_left _).trans (pullc _ _ _))).append_left _).trans (pullc _ _ _))).append_left _).trans (pullc _ _ _))).append_left _).trans (pullc _ _ _))).append_left _).trans (pullc _ _ _))).append_left _).trans (pullc _ _ _))).append_left _).trans (pullc _ _ _))).append_left _).trans (pullc _ _ _))).append_left _).trans (pullc _ _ _)).trans ((List.Perm.refl _).append_left _))) (fun w hs hin hnd => laws_markStreamS how7 hz1_0 hz1_1 (kto hk1_12 (by decide) (by decide) (by decide)) hin hnd) <| fun vh13 ch13 how13 => ?_
      obtain ⟨rfl, hO13_0⟩ := how13
      obtain ⟨hn13_0, hrv13_0, hR13_0, hrd13_0⟩ := hO13_0.reshape eStream
      have hkb14 : 0 ≤ (endD kS6 1 l) ∧ (endD kS6 1 l) ≤ 9895649738787 := by
        have hkt := endD_all (nx := kS6) (l := l) 9437218 (by decide) hz1_0 (k := 1) (fun x hx k => kS6_bd (hz1_1 x hx) k)
        omega
      refine AS rfl rfl <| ND <| gw_sub (Sub.cons (i := 0) rfl (Sub.cons (i := 3) rfl (Sub.cons (i := 4) rfl (Sub.cons (i := 6) rfl (Sub.cons (i := 8) rfl (Sub.cons (i := 9) rfl (Sub.cons (i := 10) rfl (Sub.nil _)))))))) <| SQ <| RG <| LS (i := 0) [_, _, _, _, _, _, _, _, _, _, _, _, _, _, _, _, _, _, _, _, _, _, _, _, _, _, _, _, _, _, _, _, _, _, _, _, _, _, _] rfl tyS_impl_Stream rfl rfl rfl rfl <| MV rfl rfl <| rw_ch (G := c8_0 ++ (c8_1 ++ (c8_2 ++ (c8_3 ++ (c8_4))))) (R := ch13 ++ (c11_0 ++ (c11_1 ++ (c11_2 ++ (c11_3 ++ (c11_4 ++ (ch10 ++ (ch9 ++ (ch6 ++ (c4_0 ++ (c4_1 ++ (c4_2 ++ (c4_3 ++ (c4_4 ++ (ch3 ++ ([])))))))))))))))) rfl fun_laws_markStream rfl ((((((((((((((((((((((((((((List.Perm.refl _)).append_left _).trans (pullc _ _ _))).append_left _).trans (pullc _ _ _))).append_left _).trans (pullc _ _ _))).append_left _).trans (pullc _ _ _))).append_left _).trans (pullc _ _ _))).append_left _).trans (pullc _ _ _))).append_left _).trans (pullc _ _ _))).append_left _).trans (pullc _ _ _)).trans (((((((((((((((((((((((((((List.Perm.refl _)).append_left _).trans (pullc _ _ _))).append_left _).trans (pullc _ _ _))).append_left _).trans (pullc _ _ _))).append_left _).trans (pullc _ _ _))).append_left _).trans (pullc _ _ _))).append_left _).trans (pullc _ _ _))).append_left _).trans (pullc _ _ _))).append_left _).trans (pullc _ _ _)).trans (((((((((((((((((((((((((((List.Perm.refl _)).append_left _).trans (pullc _ _ _))).append_left _).trans (pullc _ _ _))).append_left _).trans (pullc _ _ _))).append_left _).trans (pullc _ _ _))).append_left _).trans (pullc _ _ _))).append_left _).trans (pullc _ _ _))).append_left _).trans (pullc _ _ _))).append_left _).trans (pullc _ _ _)).trans (((((((((((((((((((((((((((List.Perm.refl _)).append_left _).trans (pullc _ _ _))).append_left _).trans (pullc _ _ _))).append_left _).trans (pullc _ _ _))).append_left _).trans (pullc _ _ _))).append_left _).trans (pullc _ _ _))).append_left _).trans (pullc _ _ _))).append_left _).trans (pullc _ _ _))).append_left _).trans (pullc _ _ _)).trans (((((((((((((((((((((((((((List.Perm.refl _)).append_left _).trans (pullc _ _ _))).append_left _).trans (pullc _ _ _))).append_left _).trans (pullc _ _ _))).append_left _).trans (pullc _ _ _))).append_left _).trans (pullc _ _ _))).append_left _).trans (pullc _ _ _))).append_left _).trans (pullc _ _ _))).append_left _).trans (pullc _ _ _)).trans ((List.Perm.refl _).append_left _)).append_left _)).append_left _)).append_left _)).append_left _))).trans (List.Perm.of_eq (by simp only [List.append_assoc]))) (fun w hs hin hnd => laws_markStream (x := x) h8_0 h8_1 h8_2 h8_3 h8_4 hz2_0 hz2_1 hz2_2 hz2_3 hz2_4 (kto hkb14 (by decide) (by decide) (by decide)) hin hnd) <| fun vh15 ch15 how15 => ?_
      obtain ⟨rfl, ch15_0, ch15_1, ch15_2, ch15_3, ch15_4, rfl, hO15_0, hO15_1, hO15_2, hO15_3, hO15_4⟩ := how15
      refine rw_F (F' := ch15_0 ++ (ch15_1 ++ (ch15_2 ++ (ch15_3 ++ (ch15_4 ++ (ch13 ++ (c11_0 ++ (c11_1 ++ (c11_2 ++ (c11_3 ++ (c11_4 ++ (ch10 ++ (ch9 ++ (ch6 ++ (c4_0 ++ (c4_1 ++ (c4_2 ++ (c4_3 ++ (c4_4 ++ (ch3 ++ ([]))))))))))))))))))))) (by simp only [List.append_assoc]) <| ?_
      obtain ⟨hn15_0, hrv15_0, hR15_0, hrd15_0⟩ := hO15_0.reshape eInt
      obtain ⟨hn15_1, hrv15_1, hR15_1, hrd15_1⟩ := hO15_1.reshape eRange
      obtain ⟨hn15_2, hrv15_2, hR15_2, hrd15_2⟩ := hO15_2.reshape eRange
      obtain ⟨hn15_3, hrv15_3, hR15_3, hrd15_3⟩ := hO15_3.reshape eRange
      obtain ⟨hn15_4, hrv15_4, hR15_4, hrd15_4⟩ := hO15_4.reshape eChunk
      have hkb16 : 0 ≤ (endD (nx 1) (endD kS6 1 l) x.send.ring.cells) ∧ (endD (nx 1) (endD kS6 1 l) x.send.ring.cells) ≤ 9895650787364 := by
        have hkt := endD_all (nx := (nx 1)) (l := x.send.ring.cells) 1 (by decide) hz2_0 (k := (endD kS6 1 l)) (fun x _ k => nx_bd (by decide) x k)
        omega
      have hkb17 : 0 ≤ (endD (nx 2) (endD (nx 1) (endD kS6 1 l) x.send.ring.cells) x.send.pending) ∧ (endD (nx 2) (endD (nx 1) (endD kS6 1 l) x.send.ring.cells) x.send.pending) ≤ 9895652884518 := by
        have hkt := endD_all (nx := (nx 2)) (l := x.send.pending) 2 (by decide) hz2_1 (k := (endD (nx 1) (endD kS6 1 l) x.send.ring.cells)) (fun x _ k => nx_bd (by decide) x k)
        omega
      have hkb18 : 0 ≤ (endD (nx 2) (endD (nx 2) (endD (nx 1) (endD kS6 1 l) x.send.ring.cells) x.send.pending) x.send.flight) ∧ (endD (nx 2) (endD (nx 2) (endD (nx 1) (endD kS6 1 l) x.send.ring.cells) x.send.pending) x.send.flight) ≤ 9895654981672 := by
        have hkt := endD_all (nx := (nx 2)) (l := x.send.flight) 2 (by decide) hz2_2 (k := (endD (nx 2) (endD (nx 1) (endD kS6 1 l) x.send.ring.cells) x.send.pending)) (fun x _ k => nx_bd (by decide) x k)
        omega
      have hkb19 : 0 ≤ (endD (nx 2) (endD (nx 2) (endD (nx 2) (endD (nx 1) (endD kS6 1 l) x.send.ring.cells) x.send.pending) x.send.flight) x.send.acked) ∧ (endD (nx 2) (endD (nx 2) (endD (nx 2) (endD (nx 1) (endD kS6 1 l) x.send.ring.cells) x.send.pending) x.send.flight) x.send.acked) ≤ 9895657078826 := by
        have hkt := endD_all (nx := (nx 2)) (l := x.send.acked) 2 (by decide) hz2_3 (k := (endD (nx 2) (endD (nx 2) (endD (nx 1) (endD kS6 1 l) x.send.ring.cells) x.send.pending) x.send.flight)) (fun x _ k => nx_bd (by decide) x k)
        omega
      have hkb20 : 0 ≤ (endD (nx 2) (endD (nx 2) (endD (nx 2) (endD (nx 2) (endD (nx 1) (endD kS6 1 l) x.send.ring.cells) x.send.pending) x.send.flight) x.send.acked) x.recv.buffer.chunks) ∧ (endD (nx 2) (endD (nx 2) (endD (nx 2) (endD (nx 2) (endD (nx 1) (endD kS6 1 l) x.send.ring.cells) x.send.pending) x.send.flight) x.send.acked) x.recv.buffer.chunks) ≤ 9895659175980 := by
        have hkt := endD_all (nx := (nx 2)) (l := x.recv.buffer.chunks) 2 (by decide) hz2_4 (k := (endD (nx 2) (endD (nx 2) (endD (nx 2) (endD (nx 1) (endD kS6 1 l) x.send.ring.cells) x.send.pending) x.send.flight) x.send.acked)) (fun x _ k => nx_bd (by decide) x k)
        omega
      refine AS rfl rfl <| ND <| SQ <| SQ <| RG <| MV rfl rfl <| rw_lss rfl rfl rfl <| MV rfl rfl <| ON rfl rfl (knn (kup hkb20)) <| MV rfl rfl <| ON rfl rfl (knn (kup hkb20)) <| MV rfl rfl <| ON rfl rfl (knn (kup hkb20)) <| CV1 rfl fun_laws_eqStreamS rfl (fun w hs => laws_eqStreamS_p ⟨_, _, rfl, hrd9 _ (fun c hc => hs.at_ c (List.mem_append_right _ (List.mem_append_right _ (List.mem_append_right _ (List.mem_append_right _ (List.mem_append_right _ (List.mem_append_right _ (List.mem_append_right _ (List.mem_append_right _ (List.mem_append_right _ (List.mem_append_right _ (List.mem_append_right _ (List.mem_append_right _ (List.mem_append_right _ (List.mem_append_left _ hc)))))))))))))))⟩ hlb hla ⟨_, _, rfl, hrd6 _ (fun c hc => hs.at_ c (List.mem_append_right _ (List.mem_append_right _ (List.mem_append_right _ (List.mem_append_right _ (List.mem_append_right _ (List.mem_append_right _ (List.mem_append_right _ (List.mem_append_right _ (List.mem_append_right _ (List.mem_append_right _ (List.mem_append_right _ (List.mem_append_right _ (List.mem_append_right _ (List.mem_append_right _ (List.mem_append_left _ hc))))))))))))))))⟩) <| ?_
      refine ON rfl rfl (knn (kup hkb20)) <| NT rfl rfl <| PF rfl rfl (knn (kup hkb20)) rfl <| ND <| gw_sub (Sub.cons (i := 0) rfl (Sub.cons (i := 3) rfl (Sub.cons (i := 4) rfl (Sub.cons (i := 6) rfl (Sub.cons (i := 9) rfl (Sub.cons (i := 63) rfl (Sub.nil _))))))) <| CF rfl rfl <| SK <| SQ <| RG <| AS rfl rfl <| ND <| SQ <| RG <| MV rfl rfl <| MV rfl rfl <| ?_
      have hk1_21 : (0 : Int) ≤ 1 ∧ (1 : Int) ≤ 1 := by decide
      refine rw_ch (G := ch9) (R := ch15_0 ++ (ch15_1 ++ (ch15_2 ++ (ch15_3 ++ (ch15_4 ++ (ch13 ++ (c11_0 ++ (c11_1 ++ (c11_2 ++ (c11_3 ++ (c11_4 ++ (ch10 ++ (ch6 ++ (c4_0 ++ (c4_1 ++ (c4_2 ++ (c4_3 ++ (c4_4 ++ (ch3 ++ ([])))))))))))))))))))) rfl fun_laws_markStreamS rfl (((((((((((((((((((((((((((((((((((((((List.Perm.refl _)).append_left _).trans (pullc _ _ _))).append_left _).trans (pullc _ _ _))).append_left _).trans (pullc _ _ _))).append_left _).trans (pullc _ _ _))).append_left _).trans (pullc _ _ _))).append_left _).trans (pullc _ _ _))).append_left _).trans (pullc _ _ _))).append_left _).trans (pullc _ _ _))).append_left _).trans (pullc _ _ _))).append_left _).trans (pullc _ _ _))).append_left _).trans (pullc _ _ _))).append_left _).trans (pullc _ _ _)).trans ((List.Perm.refl _).append_left _))) (fun w hs hin hnd => laws_markStreamS_p how9 hlb hla (kto hk1_21 (by decide) (by decide) (by decide)) hin hnd) <| fun vh22 ch22 how22 => ?_
      obtain ⟨rfl, hO22_0⟩ := how22
      obtain ⟨hn22_0, hrv22_0, hR22_0, hrd22_0⟩ := hO22_0.reshape eStream
      have hkb23 : 0 ≤ (endD kS6 1 (insGo x false l)) ∧ (endD kS6 1 (insGo x false l)) ≤ 9895649738787 := by
        have hkt := endD_all (nx := kS6) (l := (insGo x false l)) 9437218 (by decide) hlb (k := 1) (fun x hx k => kS6_bd (hla x hx) k)
        omega
      refine AS rfl rfl <| ND <| SQ <| RG <| AS rfl rfl <| ND <| SQ <| RG <| MV rfl rfl <| MV rfl rfl <| ?_
      have hk1_24 : (0 : Int) ≤ 1 ∧ (1 : Int) ≤ 1 := by decide
      refine CV1 rfl fun_laws_heldStreamS rfl (fun w hs => laws_heldStreamS_p (k := 1) (l := (insGo x false l)) ⟨_, _, hrv22_0, hrd22_0 _ (fun c hc => hs.at_ c (List.mem_append_right _ (List.mem_append_left _ hc)))⟩ hlb hla (kto hk1_24 (by decide) (by decide) (by decide))) <| ?_
      have hkb25 : 0 ≤ (endD kS6 1 (insGo x false l)) ∧ (endD kS6 1 (insGo x false l)) ≤ 9895649738787 := by
        have hkt := endD_all (nx := kS6) (l := (insGo x false l)) 9437218 (by decide) hlb (k := 1) (fun x hx k => kS6_bd (hla x hx) k)
        omega
      refine AS rfl rfl <| ND <| SQ <| SQ <| RG <| MV rfl rfl <| rw_lss rfl rfl rfl <| ND <| CF rfl (knn (kup hkb25)) <| SK <| SQ <| SQ <| RG <| MV rfl rfl <| MV rfl rfl <| NS rfl rfl rfl <| ND <| gw_sub (Sub.cons (i := 0) rfl (Sub.cons (i := 3) rfl (Sub.cons (i := 4) rfl (Sub.cons (i := 6) rfl (Sub.cons (i := 9) rfl (Sub.cons (i := 11) rfl (Sub.cons (i := 12) rfl (Sub.cons (i := 74) rfl (Sub.nil _))))))))) <| CF rfl rfl <| SK <| SQ <| gw_draw' [(0, .det), (2, .det), (1, .add)] [3, 4, 5] mixed rfl (free_det (free_det (free_add free_nil))) (ts := [_, _, _]) rfl <| ?_
      refine DT rfl rfl (fun K hk => MV rfl rfl hk) <| DT rfl rfl (fun K hk => LS (i := 1) [_, _, _, _, _, _, _, _, _, _, _, _, _, _, _, _, _, _, _, _, _, _, _, _, _, _, _, _, _, _, _, _, _, _, _, _, _, _, _] rfl tyS_laws_Stream rfl rfl rfl rfl hk) <| DA rfl rfl (fun K hk => CN1 rfl fun_laws_toStreamS rfl (fun w hs => laws_toStreamS (hA.s RdStream.keeps hs) hz1_0 hz1_1) hk) <| fun v26 ch26 how26 => ?_
      obtain ⟨R26, rc26, rfl, hR26, hrd26⟩ := how26.shape eStream
      refine dw_nil <| CN1 rfl fun_laws_toStream rfl (fun w hs => laws_toStream ⟨_, _, _, _, _, rfl, (hAx_0.s Pl.keeps hs), (hAx_1.s Pl.keeps hs), (hAx_2.s Pl.keeps hs), (hAx_3.s Pl.keeps hs), (hAx_4.s Pl.keeps hs)⟩ ⟨hz2_0, hz2_1, hz2_2, hz2_3, hz2_4, hz2_5⟩) <| fun vv27 ch27 how27 => ?_
      obtain ⟨cs27, rfl, v27_0, v27_1, v27_2, v27_3, v27_4, c27_0, c27_1, c27_2, c27_3, c27_4, rfl, h27_0, h27_1, h27_2, h27_3, h27_4, rfl⟩ := how27
      refine rw_F (F' := c27_0 ++ (c27_1 ++ (c27_2 ++ (c27_3 ++ (c27_4 ++ (ch26 ++ (ch22 ++ (ch15_0 ++ (ch15_1 ++ (ch15_2 ++ (ch15_3 ++ (ch15_4 ++ (ch13 ++ (c11_0 ++ (c11_1 ++ (c11_2 ++ (c11_3 ++ (c11_4 ++ (ch10 ++ (ch6 ++ (c4_0 ++ (c4_1 ++ (c4_2 ++ (c4_3 ++ (c4_4 ++ (ch3 ++ ([]))))))))))))))))))))))))))) (by simp only [List.append_assoc]) <| ?_
      obtain ⟨R27_0, b27_0, rfl, hR27_0, hrd27_0⟩ := h27_0.shape eInt
      obtain ⟨R27_1, b27_1, rfl, hR27_1, hrd27_1⟩ := h27_1.shape eRange
      obtain ⟨R27_2, b27_2, rfl, hR27_2, hrd27_2⟩ := h27_2.shape eRange
      obtain ⟨R27_3, b27_3, rfl, hR27_3, hrd27_3⟩ := h27_3.shape eRange
      obtain ⟨R27_4, b27_4, rfl, hR27_4, hrd27_4⟩ := h27_4.shape eChunk
      refine CN1 rfl fun_impl_PutStream rfl (fun w hs => impl_PutStream_F ⟨_, _, rfl, hrd26 _ (fun c hc => hs.at_ c (List.mem_append_right _ (List.mem_append_right _ (List.mem_append_right _ (List.mem_append_right _ (List.mem_append_right _ (List.mem_append_right _ (List.mem_append_left _ hc))))))))⟩ hz1_0 hz1_1 ⟨_, _, _, _, _, rfl, ⟨_, _, rfl, hrd27_0 _ (fun c hc => hs.at_ c (List.mem_append_right _ (List.mem_append_left _ hc)))⟩, ⟨_, _, rfl, hrd27_1 _ (fun c hc => hs.at_ c (List.mem_append_right _ (List.mem_append_right _ (List.mem_append_left _ hc))))⟩, ⟨_, _, rfl, hrd27_2 _ (fun c hc => hs.at_ c (List.mem_append_right _ (List.mem_append_right _ (List.mem_append_right _ (List.mem_append_left _ hc)))))⟩, ⟨_, _, rfl, hrd27_3 _ (fun c hc => hs.at_ c (List.mem_append_right _ (List.mem_append_right _ (List.mem_append_right _ (List.mem_append_right _ (List.mem_append_left _ hc))))))⟩, ⟨_, _, rfl, hrd27_4 _ (fun c hc => hs.at_ c (List.mem_append_right _ (List.mem_append_right _ (List.mem_append_right _ (List.mem_append_right _ (List.mem_append_right _ (List.mem_append_left _ hc)))))))⟩⟩ ⟨hz2_0, hz2_1, hz2_2, hz2_3, hz2_4, hz2_5⟩ hf) <| fun v28 ch28 how28 => ?_
      obtain ⟨R28, rc28, rfl, hR28, hrd28⟩ := how28.shape eStream
      refine AS rfl rfl <| ND <| SQ <| SQ <| RG <| MV rfl rfl <| MV rfl rfl <| CV1 rfl fun_laws_eqStreamS rfl (fun w hs => laws_eqStreamS_p ⟨_, _, rfl, hrd28 _ (fun c hc => hs.at_ c (List.mem_append_right _ (List.mem_append_left _ hc)))⟩ hlb hla ⟨_, _, rfl, hrd6 _ (fun c hc => hs.at_ c (List.mem_append_right _ (List.mem_append_right _ (List.mem_append_right _ (List.mem_append_right _ (List.mem_append_right _ (List.mem_append_right _ (List.mem_append_right _ (List.mem_append_right _ (List.mem_append_right _ (List.mem_append_right _ (List.mem_append_right _ (List.mem_append_right _ (List.mem_append_right _ (List.mem_append_right _ (List.mem_append_right _ (List.mem_append_right _ (List.mem_append_right _ (List.mem_append_right _ (List.mem_append_right _ (List.mem_append_right _ (List.mem_append_right _ (List.mem_append_left _ hc)))))))))))))))))))))))⟩) <| ?_
      refine NT rfl rfl <| ND <| gw_sub (Sub.cons (i := 4) rfl (Sub.cons (i := 9) rfl (Sub.cons (i := 11) rfl (Sub.cons (i := 12) rfl (Sub.cons (i := 83) rfl (Sub.nil _)))))) <| CF rfl rfl <| SK <| SQ <| RG <| AS rfl rfl <| ND <| SQ <| RG <| MV rfl rfl <| MV rfl rfl <| ?_
      have hk1_29 : (0 : Int) ≤ 1 ∧ (1 : Int) ≤ 1 := by decide
      refine CV1 rfl fun_laws_heldStreamS rfl (fun w hs => laws_heldStreamS_p (k := 1) (l := (insGo x false l)) ⟨_, _, hrv22_0, hrd22_0 _ (fun c hc => hs.at_ c (List.mem_append_right _ (List.mem_append_right _ (List.mem_append_right _ (List.mem_append_right _ (List.mem_append_right _ (List.mem_append_right _ (List.mem_append_right _ (List.mem_append_right _ (List.mem_append_left _ hc))))))))))⟩ hlb hla (kto hk1_29 (by decide) (by decide) (by decide))) <| ?_
      have hkb30 : 0 ≤ (endD kS6 1 (insGo x false l)) ∧ (endD kS6 1 (insGo x false l)) ≤ 9895649738787 := by
        have hkt := endD_all (nx := kS6) (l := (insGo x false l)) 9437218 (by decide) hlb (k := 1) (fun x hx k => kS6_bd (hla x hx) k)
        omega
      refine AS rfl rfl <| ND <| SQ <| SQ <| RG <| MV rfl rfl <| rw_lss rfl rfl rfl <| ND <| CF rfl (knn (kup hkb30)) <| SK <| SQ <| SQ <| RG <| MV rfl rfl <| MV rfl rfl <| NS rfl rfl rfl <| ND <| gw_sub (Sub.cons (i := 4) rfl (Sub.cons (i := 91) rfl (Sub.nil _))) <| CF rfl rfl <| SK <| SQ <| RG <| AS rfl rfl <| ND <| ret_cv Try.func5 (res1 Try.func5 rfl (rv_tmp rfl)) <| ?_
      rfl

theorem law_FnExactPutStream {w : World} {v : Value} {l : List Stream} (hv : RdS w 39 RdStream v l) (hb : l.length ≤ 9223372036854775807) (hall : ∀ y ∈ l, y.le 9223372036854775807) {csx_ : List Value} {x : Stream} (hvx_ : RdStream w csx_ x) (hbx_ : x.le 9223372036854775807) : CV Try.prog 5 [v, .agg csx_.toArray] w (.bool true) := by
  rcases find_cases l x.id with h | ⟨n, s, h1, h2⟩
  · exact law_FnExactPutStream_F hv hb hall hvx_ hbx_ h
  · exact law_FnExactPutStream_T hv hb hall hvx_ hbx_ h1 h2
end Go.Proofs.Ytildklpahfbnpaa
