/- Walks: priorities read from text. -/
import Derived.Test.YtmjdcdimkkabmaaDoorFactsM
import Derived.Test.YtmjdcdimkkabmaaDoorLibT
import Derived.Test.YtmjdcdimkkabmaaDoorElems
import Derived.Test.YtmjdcdimkkabmaaDoorSlq
namespace Go.Proofs.YtmjdcdimkkabmaaDoor
open SL Go.RowKit
theorem laws_toPriority (a : Priority) (w : World) : CV Tryd.prog 9 [.agg a.cells.toArray] w (.agg a.cells.toArray) := by
  refine cv_of Tryd.func9 rfl rfl rfl <| SQ <| RG <| BX [_, _] rfl rfl rfl <| fun b1 => AL rfl tyZ_impl_Priority <| fun b2 => ND <| SQ <| RG <| AL rfl tyZ_impl_Priority <| fun b3 => ND <| SQ <| RG <| FA rfl tyF_laws_Priority_0 rfl <| LD (i := 2) rfl tyP_int rfl rfl rfl <| FA rfl tyF_impl_Priority_0 rfl <| ST (i := 0) [_] [_, _] tyP_int.sz rfl rfl rfl rfl rfl rfl rfl rfl <| ND <| SQ <| RG <| FA rfl tyF_laws_Priority_1 rfl <| LD (i := 2) rfl tyP_bool rfl rfl rfl <| FA rfl tyF_impl_Priority_1 rfl <| ?_
  refine ST (i := 0) [_] [_, _] tyP_bool.sz rfl rfl rfl rfl rfl rfl rfl rfl <| ND <| SQ <| RG <| LS (i := 0) [_, _] rfl tyS_impl_Priority rfl rfl rfl rfl <| ST (i := 1) [_, _] [_, _] tyS_impl_Priority.sz rfl rfl rfl rfl rfl rfl rfl rfl <| ND <| ret_cv Tryd.func9 (res1 Tryd.func9 rfl (rv_s (i := 1) [_, _] tyS_impl_Priority rfl rfl rfl rfl)) <| ?_
  rfl

theorem spec_l1In (a b c : Int) (w : World) : CV Tryd.prog 19 [.int .i64 a, .int .i64 b, .int .i64 c] w (.bool (within a b c)) := by
  refine cv_of Tryd.func19 rfl rfl rfl <| SQ <| RG <| AS rfl rfl <| ND <| SQ <| RG <| MV rfl rfl <| MV rfl rfl <| rw_geq rfl rfl rfl <| MV rfl rfl <| ?_
  refine rw_case (j := 10) rfl (fun h1 => ?_) (fun h1 => ?_)
  · refine ON rfl rfl h1 <| MV rfl rfl <| ON rfl rfl h1 <| MV rfl rfl <| ON rfl rfl h1 <| rw_leq rfl rfl rfl <| PT rfl rfl h1 rfl <| AS rfl rfl <| ND <| ret_cv Tryd.func19 (res1 Tryd.func19 rfl (rv_tmp rfl)) <| ?_
    simp only [within, h1] <;> rfl
  · refine OF rfl rfl h1 rfl <| OF rfl rfl h1 rfl <| OF rfl rfl h1 rfl <| PF rfl rfl h1 rfl <| AS rfl rfl <| ND <| ret_cv Tryd.func19 (res1 Tryd.func19 rfl (rv_tmp rfl)) <| ?_
    simp only [within, h1] <;> rfl

theorem spec_IsPriority (p : Priority) (w : World) : CV Tryd.prog 13 [.agg p.cells.toArray] w (.bool (isPriority p)) := by
  refine cv_of Tryd.func13 rfl rfl rfl <| SQ <| RG <| BX [_, _] rfl rfl rfl <| fun b1 => AS rfl rfl <| ND <| SQ <| RG <| FA rfl tyF_impl_Priority_0 rfl <| LD (i := 0) rfl tyP_int rfl rfl rfl <| CV1 rfl fun_spec_l1In rfl (fun w hs => spec_l1In _ _ _ w) <| AS rfl rfl <| ND <| ret_cv Tryd.func13 (res1 Tryd.func13 rfl (rv_tmp rfl)) <| ?_
  simp only [isPriority] <;> rfl

theorem spec_DefaultPriority (w : World) : CV Tryd.prog 11 [] w (.agg defaultPriority.cells.toArray) := by
  refine cv_of Tryd.func11 rfl rfl rfl <| SQ <| RG <| AL rfl tyZ_impl_Priority <| fun b1 => ND <| SQ <| RG <| rw_build [_, _] rfl tyB_impl_Priority tyZ_impl_Priority rfl rfl <| ST (i := 0) [_, _] [_, _] tyS_impl_Priority.sz rfl rfl rfl rfl rfl rfl rfl rfl <| ND <| ret_cv Tryd.func11 (res1 Tryd.func11 rfl (rv_s (i := 0) [_, _] tyS_impl_Priority rfl rfl rfl rfl)) <| ?_
  rfl

theorem spec_l13Cut (l : List UInt8) (hl : l.length ≤ 1048576) (w : World) : CN Tryd.prog 14 [.string ⟨l.toArray⟩, .int .u8 44] w (fun v ch => OwS 9 1 (PlO strC) v ((pieces l).map mkS) ch) := by
  refine cn_of Tryd.func14 rfl rfl rfl <| SQ <| RG <| AS rfl rfl <| ND <| SQ <| RG <| rw_slice0 rfl tyM_S_string (PlO strC) <| fun v1 how1 => AS rfl rfl <| ND <| SQ <| RG <| AS rfl rfl <| ND <| SQ <| SQ <| RG <| AS rfl rfl <| ND <| BK <| ?_
  refine gw_loopX (α := Nat × List UInt8 × List (List UInt8) × Value × List Ck) (fun z_ => z_.1 ≤ l.length ∧ z_.2.2.1.length ≤ z_.1 ∧ z_.2.1.length ≤ z_.1 ∧ OwA 9 1 (PlO strC) z_.2.2.2.1 (z_.2.2.1.map mkS) z_.2.2.2.2 ∧ pieces l = z_.2.2.1 ++ cutFrom 44 z_.2.1 (l.drop z_.1)) (fun z_ => l.length - z_.1) (fun e z_ => (7, .int .i64 (z_.1 : Int)) :: (6, .string ⟨z_.2.1.toArray⟩) :: (5, z_.2.2.2.1) :: e) (fun B _ => B) (fun F z_ => z_.2.2.2.2 ++ F) (0, [], [], v1, []) [(0, _), (1, _), (4, _)] (Sub.consE rfl rfl (Sub.consE rfl rfl (Sub.consE rfl rfl (Sub.cons (i := 0) rfl (Sub.cons (i := 1) rfl (Sub.cons (i := 4) rfl (Sub.nil _))))))) rfl rfl ?_ ?_
  · exact ⟨Nat.zero_le _, Nat.le_refl _, Nat.le_refl _, how1, rfl⟩
  · rintro ⟨i, p, o, v, ch⟩ hI2 ih2
    dsimp only at hI2
    dsimp only
    obtain ⟨hle, ho, hp, hO, hI⟩ := hI2
    refine SQ <| SQ <| RG <| MV rfl rfl <| MV rfl rfl <| rw_lenL rfl tyStr_string rfl <| rw_lss rfl rfl rfl <| ND <| ?_
    refine gw_cond rfl (fun h1 => ?_) (fun h1 => ?_)
    · have hi3 := lt_of_dec h1
      obtain ⟨x4, hx4⟩ := get_of_lt hi3
      have hd4 := drop_cons hx4
      refine SK <| SQ <| BK <| SQ <| RG <| MV rfl rfl <| MV rfl rfl <| rw_idxL i rfl tyStr_string rfl rfl rfl hx4 <| MV rfl rfl <| EQ1 rfl rfl rfl <| ND <| ?_
      refine gw_cond rfl (fun h2 => ?_) (fun h2 => ?_)
      · have hb5 := byte_eq (c := 44) h2
        refine SQ <| RG <| MV rfl rfl <| MV rfl rfl <| rw_slice (xs := [(0, _)]) [_] rfl tyM_S_string rfl rfl rfl rfl <| fun b1 => rw_append1 (i := 0) (a := (mkS p)) rfl tyM_S_string eStr rfl rfl rfl hO ⟨rfl, rfl⟩ (.refl _) (by simp; omega) <| fun v6 ch6 how6 => AS rfl rfl <| ND <| RG <| AS rfl rfl <| ND <| IB <| RG <| MV rfl rfl <| rw_add rfl rfl rfl <| AS rfl rfl <| ND <| gw_dropN 1 <| ?_
        refine gw_sub (Sub.consE (i := 7) rfl (int_succ (by omega)) (Sub.consE (i := 6) rfl rfl (Sub.consE (i := 5) rfl rfl (Sub.cons (i := 0) rfl (Sub.cons (i := 1) rfl (Sub.cons (i := 4) rfl (Sub.nil _))))))) (ih2 (i + 1, [], o ++ [p], v6, ch6) ?_ ?_)
        · exact ⟨by omega, by simp; omega, by simp, by simpa using how6, by rw [hI, hd4]; simp [cutFrom, hb5]⟩
        · show l.length - (i + 1) < l.length - i; omega
      · have hb7 := byte_eq (c := 44) h2
        refine RG <| MV rfl rfl <| MV rfl rfl <| MV rfl rfl <| MV rfl rfl <| rw_add rfl rfl rfl <| rw_sliceL i (i + 1) [x4] rfl tyStr_string rfl rfl rfl rfl (succ_of (by omega)) (by omega) (by omega) (slice_one hx4) <| rw_catS rfl rfl rfl (by omega) (by simp) <| AS rfl rfl <| ND <| IB <| RG <| MV rfl rfl <| rw_add rfl rfl rfl <| AS rfl rfl <| ND <| ?_
        refine gw_sub (Sub.consE (i := 7) rfl (int_succ (by omega)) (Sub.consE (i := 6) rfl rfl (Sub.consE (i := 5) rfl rfl (Sub.cons (i := 0) rfl (Sub.cons (i := 1) rfl (Sub.cons (i := 4) rfl (Sub.nil _))))))) (ih2 (i + 1, p ++ [x4], o, v, ch) ?_ ?_)
        · exact ⟨by omega, show o.length ≤ i + 1 by omega, by simp; omega, hO, by rw [hI, hd4]; simp [cutFrom, hb7]⟩
        · show l.length - (i + 1) < l.length - i; omega
    · have hn8 := nil_of_dec h1
      refine EX rfl <| SQ <| RG <| MV rfl rfl <| MV rfl rfl <| rw_slice (xs := [(0, _)]) [_] rfl tyM_S_string rfl rfl rfl rfl <| fun b2 => rw_append1 (i := 0) (a := (mkS p)) rfl tyM_S_string eStr rfl rfl rfl hO ⟨rfl, rfl⟩ (.refl _) (by simp; omega) <| fun v9 ch9 how9 => AS rfl rfl <| ND <| ?_
      refine ret_cn ch9 Tryd.func14 (res1 Tryd.func14 rfl (rv_tmp rfl)) ?_ ?_
      · rw [cut_done hI hn8]; exact OwA.s (by simpa using how9)
      · simp

theorem spec_l13Trim (l : List UInt8) (hl : l.length ≤ 134217728) (w : World) : CV Tryd.prog 15 [.string ⟨l.toArray⟩] w (.string ⟨(trim l).toArray⟩) := by
  refine cv_of Tryd.func15 rfl rfl rfl <| SQ <| RG <| AS rfl rfl <| ND <| SQ <| BK <| ?_
  refine gw_loopC (α := List UInt8) (fun z_ => z_.length ≤ l.length ∧ trimL l = trimL z_) (fun z_ => z_.length) (fun e z_ => (0, .string ⟨z_.toArray⟩) :: e) l [(2, _)] (Sub.consE rfl rfl (Sub.cons (i := 2) rfl (Sub.nil _))) ?_ ?_
  · exact ⟨Nat.le_refl _, rfl⟩
  · rintro t hI1 ih1
    try dsimp only
    obtain ⟨hle, hI⟩ := hI1
    refine SQ <| SQ <| RG <| MV rfl rfl <| rw_lenL rfl tyStr_string rfl <| rw_gtr rfl rfl rfl <| MV rfl rfl <| ?_
    refine rw_case (j := 6) rfl (fun h1 => ?_) (fun h1 => ?_)
    · have hp2 := pos_of h1
      obtain ⟨x2, hx2⟩ := get_of_lt (show 0 < t.length by omega)
      refine ON rfl rfl h1 <| MV rfl rfl <| ON rfl rfl h1 <| rw_idxL 0 rfl tyStr_string rfl rfl rfl hx2 <| ON rfl rfl h1 <| EQ1 rfl rfl rfl <| PT rfl rfl h1 rfl <| ND <| ?_
      refine gw_cond rfl (fun h2 => ?_) (fun h2 => ?_)
      · have hb3 := byte_eq (c := 32) h2
        refine SK <| BK <| RG <| MV rfl rfl <| rw_sliceW 1 rfl tyStr_string rfl rfl rfl (by omega) <| AS rfl rfl <| ND <| IB <| ?_
        refine gw_sub (Sub.consE (i := 0) rfl rfl (Sub.cons (i := 2) rfl (Sub.nil _))) (ih1 (t.drop 1) ?_ ?_)
        · exact ⟨by simp; omega, by rw [hI, trimL_step hx2 hb3]⟩
        · show (t.drop 1).length < t.length; simp; omega
      · have hb4 := byte_eq (c := 32) h2
        refine EX rfl <| SQ <| BK <| ?_
        refine gw_loopC (α := List UInt8) (fun z_ => z_.length ≤ l.length ∧ trim l = trimR z_) (fun z_ => z_.length) (fun e z_ => (0, .string ⟨z_.toArray⟩) :: e) t [(2, _)] (Sub.consE rfl rfl (Sub.cons (i := 2) rfl (Sub.nil _))) ?_ ?_
        · exact ⟨by omega, by rw [trim, hI, trimL_stop hx2 hb4]⟩
        · rintro u hI5 ih5
          try dsimp only
          obtain ⟨hle2, hI2⟩ := hI5
          refine SQ <| SQ <| RG <| MV rfl rfl <| rw_lenL rfl tyStr_string rfl <| rw_gtr rfl rfl rfl <| MV rfl rfl <| ?_
          refine rw_case (j := 16) rfl (fun h3 => ?_) (fun h3 => ?_)
          · have hp6 := pos_of h3
            obtain ⟨x6, hx6⟩ := get_of_lt (show (u.length - 1) < u.length by omega)
            refine ON rfl rfl h3 <| MV rfl rfl <| ON rfl rfl h3 <| MV rfl rfl <| ON rfl rfl h3 <| rw_lenL rfl tyStr_string rfl <| ON rfl rfl h3 <| rw_sub rfl rfl rfl <| ON rfl rfl h3 <| rw_idxL (u.length - 1) rfl tyStr_string rfl rfl (lenpredS hp6 (by omega)) hx6 <| ON rfl rfl h3 <| EQ1 rfl rfl rfl <| PT rfl rfl h3 rfl <| ND <| ?_
            refine gw_cond rfl (fun h4 => ?_) (fun h4 => ?_)
            · have hb7 := byte_eq (c := 32) h4
              refine SK <| BK <| RG <| MV rfl rfl <| MV rfl rfl <| rw_lenL rfl tyStr_string rfl <| rw_sub rfl rfl rfl <| rw_sliceH (u.length - 1) (u.take (u.length - 1)) rfl tyStr_string rfl rfl (lenpredS hp6 (by omega)) (by omega) rfl <| AS rfl rfl <| ND <| IB <| ?_
              refine gw_sub (Sub.consE (i := 0) rfl rfl (Sub.cons (i := 2) rfl (Sub.nil _))) (ih5 (u.take (u.length - 1)) ?_ ?_)
              · exact ⟨by simp; omega, by rw [hI2, trimR_step hx6 hb7]⟩
              · show (u.take (u.length - 1)).length < u.length; simp; omega
            · have hb8 := byte_eq (c := 32) h4
              refine EX rfl <| SQ <| RG <| MV rfl rfl <| AS rfl rfl <| ND <| ret_cv Tryd.func15 (res1 Tryd.func15 rfl (rv_tmp rfl)) <| ?_
              rw [hI2, trimR_stop hx6 hb8]
          · have hz9 := zero_of h3
            refine OF rfl rfl h3 rfl <| OF rfl rfl h3 rfl <| OF rfl rfl h3 rfl <| OF rfl rfl h3 rfl <| OF rfl rfl h3 rfl <| OF rfl rfl h3 rfl <| PF rfl rfl h3 rfl <| ND <| CF rfl rfl <| EX rfl <| SQ <| RG <| MV rfl rfl <| AS rfl rfl <| ND <| ret_cv Tryd.func15 (res1 Tryd.func15 rfl (rv_tmp rfl)) <| ?_
            rw [hI2, trimR_none hz9]
    · have hz10 := zero_of h1
      refine OF rfl rfl h1 rfl <| OF rfl rfl h1 rfl <| OF rfl rfl h1 rfl <| PF rfl rfl h1 rfl <| ND <| CF rfl rfl <| EX rfl <| SQ <| BK <| ?_
      refine gw_loopC (α := List UInt8) (fun z_ => z_.length ≤ l.length ∧ trim l = trimR z_) (fun z_ => z_.length) (fun e z_ => (0, .string ⟨z_.toArray⟩) :: e) t [(2, _)] (Sub.consE rfl rfl (Sub.cons (i := 2) rfl (Sub.nil _))) ?_ ?_
      · exact ⟨by omega, by rw [trim, hI, trimL_none hz10]⟩
      · rintro u hI11 ih11
        try dsimp only
        obtain ⟨hle2, hI2⟩ := hI11
        refine SQ <| SQ <| RG <| MV rfl rfl <| rw_lenL rfl tyStr_string rfl <| rw_gtr rfl rfl rfl <| MV rfl rfl <| ?_
        refine rw_case (j := 16) rfl (fun h5 => ?_) (fun h5 => ?_)
        · have hp12 := pos_of h5
          obtain ⟨x12, hx12⟩ := get_of_lt (show (u.length - 1) < u.length by omega)
          refine ON rfl rfl h5 <| MV rfl rfl <| ON rfl rfl h5 <| MV rfl rfl <| ON rfl rfl h5 <| rw_lenL rfl tyStr_string rfl <| ON rfl rfl h5 <| rw_sub rfl rfl rfl <| ON rfl rfl h5 <| rw_idxL (u.length - 1) rfl tyStr_string rfl rfl (lenpredS hp12 (by omega)) hx12 <| ON rfl rfl h5 <| EQ1 rfl rfl rfl <| PT rfl rfl h5 rfl <| ND <| ?_
          refine gw_cond rfl (fun h6 => ?_) (fun h6 => ?_)
          · have hb13 := byte_eq (c := 32) h6
            refine SK <| BK <| RG <| MV rfl rfl <| MV rfl rfl <| rw_lenL rfl tyStr_string rfl <| rw_sub rfl rfl rfl <| rw_sliceH (u.length - 1) (u.take (u.length - 1)) rfl tyStr_string rfl rfl (lenpredS hp12 (by omega)) (by omega) rfl <| AS rfl rfl <| ND <| IB <| ?_
            refine gw_sub (Sub.consE (i := 0) rfl rfl (Sub.cons (i := 2) rfl (Sub.nil _))) (ih11 (u.take (u.length - 1)) ?_ ?_)
            · exact ⟨by simp; omega, by rw [hI2, trimR_step hx12 hb13]⟩
            · show (u.take (u.length - 1)).length < u.length; simp; omega
          · have hb14 := byte_eq (c := 32) h6
            refine EX rfl <| SQ <| RG <| MV rfl rfl <| AS rfl rfl <| ND <| ret_cv Tryd.func15 (res1 Tryd.func15 rfl (rv_tmp rfl)) <| ?_
            rw [hI2, trimR_stop hx12 hb14]
        · have hz15 := zero_of h5
          refine OF rfl rfl h5 rfl <| OF rfl rfl h5 rfl <| OF rfl rfl h5 rfl <| OF rfl rfl h5 rfl <| OF rfl rfl h5 rfl <| OF rfl rfl h5 rfl <| PF rfl rfl h5 rfl <| ND <| CF rfl rfl <| EX rfl <| SQ <| RG <| MV rfl rfl <| AS rfl rfl <| ND <| ret_cv Tryd.func15 (res1 Tryd.func15 rfl (rv_tmp rfl)) <| ?_
          rw [hI2, trimR_none hz15]

theorem spec_MergePriority (base : Priority) (l : List UInt8) (hl : l.length ≤ 1048576) (w : World) : CV Tryd.prog 8 [.agg base.cells.toArray, .string ⟨l.toArray⟩] w (.agg (mergePriority base l).cells.toArray) := by
  have hpl := pieces_len l
  have hml : ((pieces l).map mkS).length = (pieces l).length := List.length_map ..
  refine cv_of Tryd.func8 rfl rfl rfl <| SQ <| RG <| BX [_, _] rfl rfl rfl <| fun b1 => AL rfl tyZ_impl_Priority <| fun b2 => ND <| SQ <| SQ <| RG <| LS (i := 1) [_, _] rfl tyS_impl_Priority rfl rfl rfl rfl <| CV1 rfl fun_spec_IsPriority rfl (fun w hs => spec_IsPriority _ w) <| NT rfl rfl <| ND <| ?_
  refine gw_cond rfl (fun h1 => ?_) (fun h1 => ?_)
  · replace h1 := of_not_T h1
    refine RG <| CV1 rfl fun_spec_DefaultPriority rfl (fun w hs => spec_DefaultPriority w) <| ST (i := 1) [_, _] [_, _] tyS_impl_Priority.sz rfl rfl rfl rfl rfl rfl rfl rfl <| ND <| SQ <| RG <| MV rfl rfl <| CN1 rfl fun_spec_l13Cut rfl (fun w hs => spec_l13Cut l hl w) <| fun v1 ch1 how1 => ?_
    obtain ⟨R1, rc1, rfl, hR1, hrd1⟩ := how1.shape eStr
    refine AS rfl rfl <| ND <| SQ <| SQ <| RG <| AS rfl rfl <| ND <| BK <| ?_
    refine gw_loopX (α := Nat × Priority) (fun z_ => z_.1 ≤ (pieces l).length ∧ mergeFrom defaultPriority (pieces l) = mergeFrom z_.2 ((pieces l).drop z_.1)) (fun z_ => (pieces l).length - z_.1) (fun e z_ => (6, .int .i64 (z_.1 : Int)) :: e) (fun B z_ => B.set 1 ⟨b1, 23, z_.2.cells⟩) (fun F _ => F) (0, defaultPriority) [(2, _), (4, _), (5, _)] (Sub.consE rfl rfl (Sub.cons (i := 2) rfl (Sub.cons (i := 4) rfl (Sub.cons (i := 5) rfl (Sub.nil _))))) rfl rfl ?_ ?_
    · exact ⟨Nat.zero_le _, rfl⟩
    · rintro ⟨i, p⟩ hI2 ih2
      dsimp only at hI2
      dsimp only [List.set]
      obtain ⟨hle, hI⟩ := hI2
      refine SQ <| SQ <| RG <| MV rfl rfl <| MV rfl rfl <| rw_len rfl tyE_S_string rfl <| rw_lss rfl rfl rfl <| ND <| ?_
      refine gw_cond rfl (fun h2 => ?_) (fun h2 => ?_)
      · have hi3 := lt_of_dec h2
        obtain ⟨x4, hx4⟩ := get_of_lt hi3
        obtain ⟨t, ht, rfl⟩ := str_get hx4
        refine SK <| SQ <| BK <| SQ <| RG <| MV rfl rfl <| MV rfl rfl <| rw_indexAddr (i) rfl tyE_S_string rfl rfl rfl (hR1 (Nat.zero_lt_of_lt hi3)) hi3 <| rw_loadX _ rfl tyP_string rfl (fun w hs => ((hrd1 _ (fun c hc => hs.at_ c (List.mem_append_right _ (List.mem_append_left _ hc)))).plain hx4).cell0 rfl) <| CV1 rfl fun_spec_l13Trim rfl (fun w hs => spec_l13Trim _ (Nat.le_trans (pieces_mem ht) (by omega)) w) <| AS rfl rfl <| ND <| BK <| SQ <| RG <| MV rfl rfl <| rw_eqlL rfl rfl rfl <| MV rfl rfl <| ?_
        refine rw_case (j := 28) rfl (fun h3 => ?_) (fun h3 => ?_)
        · refine OF rfl rfl h3 rfl <| OF rfl rfl h3 rfl <| PT rfl rfl h3 rfl <| AS rfl rfl <| ND <| CT rfl rfl <| RG <| FA rfl tyF_impl_Priority_1 rfl <| ST (i := 1) [_] [_, _] tyP_bool.sz rfl rfl rfl rfl rfl rfl rfl rfl <| ND <| IB <| IB <| RG <| MV rfl rfl <| rw_add rfl rfl rfl <| AS rfl rfl <| ND <| ?_
          refine gw_sub (Sub.consE (i := 6) rfl (int_succ (by omega)) (Sub.cons (i := 2) rfl (Sub.cons (i := 4) rfl (Sub.cons (i := 5) rfl (Sub.nil _))))) (ih2 (i + 1, { p with incremental := true }) ?_ ?_)
          · exact ⟨by omega, by rw [hI, merge_step ht (step_on h3)]⟩
          · show (pieces l).length - (i + 1) < (pieces l).length - i; omega
        · refine ON rfl rfl h3 <| MV rfl rfl <| ON rfl rfl h3 <| rw_eqlL rfl rfl rfl <| PF rfl rfl h3 rfl <| AS rfl rfl <| ND <| ?_
          refine gw_cond rfl (fun h4 => ?_) (fun h4 => ?_)
          · refine RG <| FA rfl tyF_impl_Priority_1 rfl <| ST (i := 1) [_] [_, _] tyP_bool.sz rfl rfl rfl rfl rfl rfl rfl rfl <| ND <| IB <| IB <| RG <| MV rfl rfl <| rw_add rfl rfl rfl <| AS rfl rfl <| ND <| ?_
            refine gw_sub (Sub.consE (i := 6) rfl (int_succ (by omega)) (Sub.cons (i := 2) rfl (Sub.cons (i := 4) rfl (Sub.cons (i := 5) rfl (Sub.nil _))))) (ih2 (i + 1, { p with incremental := true }) ?_ ?_)
            · exact ⟨by omega, by rw [hI, merge_step ht (step_on2 h3 h4)]⟩
            · show (pieces l).length - (i + 1) < (pieces l).length - i; omega
          · refine SQ <| RG <| MV rfl rfl <| rw_eqlL rfl rfl rfl <| AS rfl rfl <| ND <| ?_
            refine gw_cond rfl (fun h5 => ?_) (fun h5 => ?_)
            · refine RG <| FA rfl tyF_impl_Priority_1 rfl <| ST (i := 1) [_] [_, _] tyP_bool.sz rfl rfl rfl rfl rfl rfl rfl rfl <| ND <| IB <| IB <| RG <| MV rfl rfl <| rw_add rfl rfl rfl <| AS rfl rfl <| ND <| ?_
              refine gw_sub (Sub.consE (i := 6) rfl (int_succ (by omega)) (Sub.cons (i := 2) rfl (Sub.cons (i := 4) rfl (Sub.cons (i := 5) rfl (Sub.nil _))))) (ih2 (i + 1, { p with incremental := false }) ?_ ?_)
              · exact ⟨by omega, by rw [hI, merge_step ht (step_off h3 h4 h5)]⟩
              · show (pieces l).length - (i + 1) < (pieces l).length - i; omega
            · refine SQ <| RG <| MV rfl rfl <| rw_lenL rfl tyStr_string rfl <| EQ1 rfl rfl rfl <| MV rfl rfl <| ?_
              refine rw_case (j := 41) rfl (fun h6 => ?_) (fun h6 => ?_)
              · obtain ⟨ba5, bb5, bc5, he5⟩ := three_of h6
                refine ON rfl rfl h6 <| MV rfl rfl <| ON rfl rfl h6 <| rw_sliceH 2 [ba5, bb5] rfl tyStr_string rfl rfl rfl (by rw [he5]; simp) (by rw [he5]; rfl) <| ON rfl rfl h6 <| rw_eqlL rfl rfl rfl <| PT rfl rfl h6 rfl <| MV rfl rfl <| ?_
                refine rw_case (j := 46) rfl (fun h7 => ?_) (fun h7 => ?_)
                · refine ON rfl rfl h7 <| MV rfl rfl <| ON rfl rfl h7 <| rw_idxL 2 rfl tyStr_string rfl rfl rfl (by rw [he5]; rfl) <| ON rfl rfl h7 <| rw_geq rfl rfl rfl <| PT rfl rfl h7 rfl <| MV rfl rfl <| ?_
                  refine rw_case (j := 51) rfl (fun h8 => ?_) (fun h8 => ?_)
                  · refine ON rfl rfl h8 <| MV rfl rfl <| ON rfl rfl h8 <| rw_idxL 2 rfl tyStr_string rfl rfl rfl (by rw [he5]; rfl) <| ON rfl rfl h8 <| rw_leq rfl rfl rfl <| PT rfl rfl h8 rfl <| AS rfl rfl <| ND <| ?_
                    refine gw_cond rfl (fun h9 => ?_) (fun h9 => ?_)
                    · refine RG <| MV rfl rfl <| rw_idxL 2 rfl tyStr_string rfl rfl rfl (by rw [he5]; rfl) <| rw_sub rfl rfl rfl <| rw_convI rfl tyCI_uint8_int rfl <| FA rfl tyF_impl_Priority_0 rfl <| ST (i := 1) [_] [_, _] tyP_int.sz rfl rfl rfl rfl rfl rfl rfl rfl <| ND <| IB <| IB <| RG <| MV rfl rfl <| rw_add rfl rfl rfl <| AS rfl rfl <| ND <| ?_
                      refine gw_sub (Sub.consE (i := 6) rfl (int_succ (by omega)) (Sub.cons (i := 2) rfl (Sub.cons (i := 4) rfl (Sub.cons (i := 5) rfl (Sub.nil _))))) (ih2 (i + 1, { p with urgency := IntKind.i64.wrap (IntKind.u8.wrap ((bc5.toNat : Int) - 48)) }) ?_ ?_)
                      · exact ⟨by omega, by rw [hI, merge_step ht (step_set h3 h4 h5 he5 h7 h8 h9)]⟩
                      · show (pieces l).length - (i + 1) < (pieces l).length - i; omega
                    · refine SK <| IB <| IB <| RG <| MV rfl rfl <| rw_add rfl rfl rfl <| AS rfl rfl <| ND <| ?_
                      refine gw_sub (Sub.consE (i := 6) rfl (int_succ (by omega)) (Sub.cons (i := 2) rfl (Sub.cons (i := 4) rfl (Sub.cons (i := 5) rfl (Sub.nil _))))) (ih2 (i + 1, p) ?_ ?_)
                      · exact ⟨by omega, by rw [hI, merge_step ht (step_hi h3 h4 h5 he5 h9)]⟩
                      · show (pieces l).length - (i + 1) < (pieces l).length - i; omega
                  · refine OF rfl rfl h8 rfl <| OF rfl rfl h8 rfl <| OF rfl rfl h8 rfl <| PF rfl rfl h8 rfl <| AS rfl rfl <| ND <| CF rfl rfl <| SK <| IB <| IB <| RG <| MV rfl rfl <| rw_add rfl rfl rfl <| AS rfl rfl <| ND <| ?_
                    refine gw_sub (Sub.consE (i := 6) rfl (int_succ (by omega)) (Sub.cons (i := 2) rfl (Sub.cons (i := 4) rfl (Sub.cons (i := 5) rfl (Sub.nil _))))) (ih2 (i + 1, p) ?_ ?_)
                    · exact ⟨by omega, by rw [hI, merge_step ht (step_lo h3 h4 h5 he5 h8)]⟩
                    · show (pieces l).length - (i + 1) < (pieces l).length - i; omega
                · refine OF rfl rfl h7 rfl <| OF rfl rfl h7 rfl <| OF rfl rfl h7 rfl <| PF rfl rfl h7 rfl <| MV rfl rfl <| OF rfl rfl rfl rfl <| OF rfl rfl rfl rfl <| OF rfl rfl rfl rfl <| PF rfl rfl rfl rfl <| AS rfl rfl <| ND <| CF rfl rfl <| SK <| IB <| IB <| RG <| MV rfl rfl <| rw_add rfl rfl rfl <| AS rfl rfl <| ND <| ?_
                  refine gw_sub (Sub.consE (i := 6) rfl (int_succ (by omega)) (Sub.cons (i := 2) rfl (Sub.cons (i := 4) rfl (Sub.cons (i := 5) rfl (Sub.nil _))))) (ih2 (i + 1, p) ?_ ?_)
                  · exact ⟨by omega, by rw [hI, merge_step ht (step_u h3 h4 h5 he5 h7)]⟩
                  · show (pieces l).length - (i + 1) < (pieces l).length - i; omega
              · refine OF rfl rfl h6 rfl <| OF rfl rfl h6 rfl <| OF rfl rfl h6 rfl <| PF rfl rfl h6 rfl <| MV rfl rfl <| OF rfl rfl rfl rfl <| OF rfl rfl rfl rfl <| OF rfl rfl rfl rfl <| PF rfl rfl rfl rfl <| MV rfl rfl <| OF rfl rfl rfl rfl <| OF rfl rfl rfl rfl <| OF rfl rfl rfl rfl <| PF rfl rfl rfl rfl <| AS rfl rfl <| ND <| CF rfl rfl <| SK <| IB <| IB <| RG <| MV rfl rfl <| rw_add rfl rfl rfl <| AS rfl rfl <| ND <| ?_
                refine gw_sub (Sub.consE (i := 6) rfl (int_succ (by omega)) (Sub.cons (i := 2) rfl (Sub.cons (i := 4) rfl (Sub.cons (i := 5) rfl (Sub.nil _))))) (ih2 (i + 1, p) ?_ ?_)
                · exact ⟨by omega, by rw [hI, merge_step ht (step_len h3 h4 h5 h6)]⟩
                · show (pieces l).length - (i + 1) < (pieces l).length - i; omega
      · have hn6 := nil_of_dec h2
        refine EX rfl <| SQ <| RG <| LS (i := 1) [_, _] rfl tyS_impl_Priority rfl rfl rfl rfl <| ST (i := 0) [_, _] [_, _] tyS_impl_Priority.sz rfl rfl rfl rfl rfl rfl rfl rfl <| ND <| ret_cv Tryd.func8 (res1 Tryd.func8 rfl (rv_s (i := 0) [_, _] tyS_impl_Priority rfl rfl rfl rfl)) <| ?_
        have e : mergePriority base l = p := by rw [mergePriority, h1]; exact hI.trans (merge_done hn6)
        rw [e]; rfl
  · replace h1 := of_not_F h1
    refine SK <| SQ <| RG <| MV rfl rfl <| CN1 rfl fun_spec_l13Cut rfl (fun w hs => spec_l13Cut l hl w) <| fun v7 ch7 how7 => ?_
    obtain ⟨R7, rc7, rfl, hR7, hrd7⟩ := how7.shape eStr
    refine AS rfl rfl <| ND <| SQ <| SQ <| RG <| AS rfl rfl <| ND <| BK <| ?_
    refine gw_loopX (α := Nat × Priority) (fun z_ => z_.1 ≤ (pieces l).length ∧ mergeFrom base (pieces l) = mergeFrom z_.2 ((pieces l).drop z_.1)) (fun z_ => (pieces l).length - z_.1) (fun e z_ => (6, .int .i64 (z_.1 : Int)) :: e) (fun B z_ => B.set 1 ⟨b1, 23, z_.2.cells⟩) (fun F _ => F) (0, base) [(2, _), (4, _), (5, _)] (Sub.consE rfl rfl (Sub.cons (i := 2) rfl (Sub.cons (i := 4) rfl (Sub.cons (i := 5) rfl (Sub.nil _))))) rfl rfl ?_ ?_
    · exact ⟨Nat.zero_le _, rfl⟩
    · rintro ⟨i, p⟩ hI8 ih8
      dsimp only at hI8
      dsimp only [List.set]
      obtain ⟨hle, hI⟩ := hI8
      refine SQ <| SQ <| RG <| MV rfl rfl <| MV rfl rfl <| rw_len rfl tyE_S_string rfl <| rw_lss rfl rfl rfl <| ND <| ?_
      refine gw_cond rfl (fun h10 => ?_) (fun h10 => ?_)
      · have hi9 := lt_of_dec h10
        obtain ⟨x10, hx10⟩ := get_of_lt hi9
        obtain ⟨t, ht, rfl⟩ := str_get hx10
        refine SK <| SQ <| BK <| SQ <| RG <| MV rfl rfl <| MV rfl rfl <| rw_indexAddr (i) rfl tyE_S_string rfl rfl rfl (hR7 (Nat.zero_lt_of_lt hi9)) hi9 <| rw_loadX _ rfl tyP_string rfl (fun w hs => ((hrd7 _ (fun c hc => hs.at_ c (List.mem_append_right _ (List.mem_append_left _ hc)))).plain hx10).cell0 rfl) <| CV1 rfl fun_spec_l13Trim rfl (fun w hs => spec_l13Trim _ (Nat.le_trans (pieces_mem ht) (by omega)) w) <| AS rfl rfl <| ND <| BK <| SQ <| RG <| MV rfl rfl <| rw_eqlL rfl rfl rfl <| MV rfl rfl <| ?_
        refine rw_case (j := 28) rfl (fun h11 => ?_) (fun h11 => ?_)
        · refine OF rfl rfl h11 rfl <| OF rfl rfl h11 rfl <| PT rfl rfl h11 rfl <| AS rfl rfl <| ND <| CT rfl rfl <| RG <| FA rfl tyF_impl_Priority_1 rfl <| ST (i := 1) [_] [_, _] tyP_bool.sz rfl rfl rfl rfl rfl rfl rfl rfl <| ND <| IB <| IB <| RG <| MV rfl rfl <| rw_add rfl rfl rfl <| AS rfl rfl <| ND <| ?_
          refine gw_sub (Sub.consE (i := 6) rfl (int_succ (by omega)) (Sub.cons (i := 2) rfl (Sub.cons (i := 4) rfl (Sub.cons (i := 5) rfl (Sub.nil _))))) (ih8 (i + 1, { p with incremental := true }) ?_ ?_)
          · exact ⟨by omega, by rw [hI, merge_step ht (step_on h11)]⟩
          · show (pieces l).length - (i + 1) < (pieces l).length - i; omega
        · refine ON rfl rfl h11 <| MV rfl rfl <| ON rfl rfl h11 <| rw_eqlL rfl rfl rfl <| PF rfl rfl h11 rfl <| AS rfl rfl <| ND <| ?_
          refine gw_cond rfl (fun h12 => ?_) (fun h12 => ?_)
          · refine RG <| FA rfl tyF_impl_Priority_1 rfl <| ST (i := 1) [_] [_, _] tyP_bool.sz rfl rfl rfl rfl rfl rfl rfl rfl <| ND <| IB <| IB <| RG <| MV rfl rfl <| rw_add rfl rfl rfl <| AS rfl rfl <| ND <| ?_
            refine gw_sub (Sub.consE (i := 6) rfl (int_succ (by omega)) (Sub.cons (i := 2) rfl (Sub.cons (i := 4) rfl (Sub.cons (i := 5) rfl (Sub.nil _))))) (ih8 (i + 1, { p with incremental := true }) ?_ ?_)
            · exact ⟨by omega, by rw [hI, merge_step ht (step_on2 h11 h12)]⟩
            · show (pieces l).length - (i + 1) < (pieces l).length - i; omega
          · refine SQ <| RG <| MV rfl rfl <| rw_eqlL rfl rfl rfl <| AS rfl rfl <| ND <| ?_
            refine gw_cond rfl (fun h13 => ?_) (fun h13 => ?_)
            · refine RG <| FA rfl tyF_impl_Priority_1 rfl <| ST (i := 1) [_] [_, _] tyP_bool.sz rfl rfl rfl rfl rfl rfl rfl rfl <| ND <| IB <| IB <| RG <| MV rfl rfl <| rw_add rfl rfl rfl <| AS rfl rfl <| ND <| ?_
              refine gw_sub (Sub.consE (i := 6) rfl (int_succ (by omega)) (Sub.cons (i := 2) rfl (Sub.cons (i := 4) rfl (Sub.cons (i := 5) rfl (Sub.nil _))))) (ih8 (i + 1, { p with incremental := false }) ?_ ?_)
              · exact ⟨by omega, by rw [hI, merge_step ht (step_off h11 h12 h13)]⟩
              · show (pieces l).length - (i + 1) < (pieces l).length - i; omega
            · refine SQ <| RG <| MV rfl rfl <| rw_lenL rfl tyStr_string rfl <| EQ1 rfl rfl rfl <| MV rfl rfl <| ?_
              refine rw_case (j := 41) rfl (fun h14 => ?_) (fun h14 => ?_)
              · obtain ⟨ba11, bb11, bc11, he11⟩ := three_of h14
                refine ON rfl rfl h14 <| MV rfl rfl <| ON rfl rfl h14 <| rw_sliceH 2 [ba11, bb11] rfl tyStr_string rfl rfl rfl (by rw [he11]; simp) (by rw [he11]; rfl) <| ON rfl rfl h14 <| rw_eqlL rfl rfl rfl <| PT rfl rfl h14 rfl <| MV rfl rfl <| ?_
                refine rw_case (j := 46) rfl (fun h15 => ?_) (fun h15 => ?_)
                · refine ON rfl rfl h15 <| MV rfl rfl <| ON rfl rfl h15 <| rw_idxL 2 rfl tyStr_string rfl rfl rfl (by rw [he11]; rfl) <| ON rfl rfl h15 <| rw_geq rfl rfl rfl <| PT rfl rfl h15 rfl <| MV rfl rfl <| ?_
                  refine rw_case (j := 51) rfl (fun h16 => ?_) (fun h16 => ?_)
                  · refine ON rfl rfl h16 <| MV rfl rfl <| ON rfl rfl h16 <| rw_idxL 2 rfl tyStr_string rfl rfl rfl (by rw [he11]; rfl) <| ON rfl rfl h16 <| rw_leq rfl rfl rfl <| PT rfl rfl h16 rfl <| AS rfl rfl <| ND <| ?_
                    refine gw_cond rfl (fun h17 => ?_) (fun h17 => ?_)
                    · refine RG <| MV rfl rfl <| rw_idxL 2 rfl tyStr_string rfl rfl rfl (by rw [he11]; rfl) <| rw_sub rfl rfl rfl <| rw_convI rfl tyCI_uint8_int rfl <| FA rfl tyF_impl_Priority_0 rfl <| ST (i := 1) [_] [_, _] tyP_int.sz rfl rfl rfl rfl rfl rfl rfl rfl <| ND <| IB <| IB <| RG <| MV rfl rfl <| rw_add rfl rfl rfl <| AS rfl rfl <| ND <| ?_
                      refine gw_sub (Sub.consE (i := 6) rfl (int_succ (by omega)) (Sub.cons (i := 2) rfl (Sub.cons (i := 4) rfl (Sub.cons (i := 5) rfl (Sub.nil _))))) (ih8 (i + 1, { p with urgency := IntKind.i64.wrap (IntKind.u8.wrap ((bc11.toNat : Int) - 48)) }) ?_ ?_)
                      · exact ⟨by omega, by rw [hI, merge_step ht (step_set h11 h12 h13 he11 h15 h16 h17)]⟩
                      · show (pieces l).length - (i + 1) < (pieces l).length - i; omega
                    · refine SK <| IB <| IB <| RG <| MV rfl rfl <| rw_add rfl rfl rfl <| AS rfl rfl <| ND <| ?_
                      refine gw_sub (Sub.consE (i := 6) rfl (int_succ (by omega)) (Sub.cons (i := 2) rfl (Sub.cons (i := 4) rfl (Sub.cons (i := 5) rfl (Sub.nil _))))) (ih8 (i + 1, p) ?_ ?_)
                      · exact ⟨by omega, by rw [hI, merge_step ht (step_hi h11 h12 h13 he11 h17)]⟩
                      · show (pieces l).length - (i + 1) < (pieces l).length - i; omega
                  · refine OF rfl rfl h16 rfl <| OF rfl rfl h16 rfl <| OF rfl rfl h16 rfl <| PF rfl rfl h16 rfl <| AS rfl rfl <| ND <| CF rfl rfl <| SK <| IB <| IB <| RG <| MV rfl rfl <| rw_add rfl rfl rfl <| AS rfl rfl <| ND <| ?_
                    refine gw_sub (Sub.consE (i := 6) rfl (int_succ (by omega)) (Sub.cons (i := 2) rfl (Sub.cons (i := 4) rfl (Sub.cons (i := 5) rfl (Sub.nil _))))) (ih8 (i + 1, p) ?_ ?_)
                    · exact ⟨by omega, by rw [hI, merge_step ht (step_lo h11 h12 h13 he11 h16)]⟩
                    · show (pieces l).length - (i + 1) < (pieces l).length - i; omega
                · refine OF rfl rfl h15 rfl <| OF rfl rfl h15 rfl <| OF rfl rfl h15 rfl <| PF rfl rfl h15 rfl <| MV rfl rfl <| OF rfl rfl rfl rfl <| OF rfl rfl rfl rfl <| OF rfl rfl rfl rfl <| PF rfl rfl rfl rfl <| AS rfl rfl <| ND <| CF rfl rfl <| SK <| IB <| IB <| RG <| MV rfl rfl <| rw_add rfl rfl rfl <| AS rfl rfl <| ND <| ?_
                  refine gw_sub (Sub.consE (i := 6) rfl (int_succ (by omega)) (Sub.cons (i := 2) rfl (Sub.cons (i := 4) rfl (Sub.cons (i := 5) rfl (Sub.nil _))))) (ih8 (i + 1, p) ?_ ?_)
                  · exact ⟨by omega, by rw [hI, merge_step ht (step_u h11 h12 h13 he11 h15)]⟩
                  · show (pieces l).length - (i + 1) < (pieces l).length - i; omega
              · refine OF rfl rfl h14 rfl <| OF rfl rfl h14 rfl <| OF rfl rfl h14 rfl <| PF rfl rfl h14 rfl <| MV rfl rfl <| OF rfl rfl rfl rfl <| OF rfl rfl rfl rfl <| OF rfl rfl rfl rfl <| PF rfl rfl rfl rfl <| MV rfl rfl <| OF rfl rfl rfl rfl <| OF rfl rfl rfl rfl <| OF rfl rfl rfl rfl <| PF rfl rfl rfl rfl <| AS rfl rfl <| ND <| CF rfl rfl <| SK <| IB <| IB <| RG <| MV rfl rfl <| rw_add rfl rfl rfl <| AS rfl rfl <| ND <| ?_
                refine gw_sub (Sub.consE (i := 6) rfl (int_succ (by omega)) (Sub.cons (i := 2) rfl (Sub.cons (i := 4) rfl (Sub.cons (i := 5) rfl (Sub.nil _))))) (ih8 (i + 1, p) ?_ ?_)
                · exact ⟨by omega, by rw [hI, merge_step ht (step_len h11 h12 h13 h14)]⟩
                · show (pieces l).length - (i + 1) < (pieces l).length - i; omega
      · have hn12 := nil_of_dec h10
        refine EX rfl <| SQ <| RG <| LS (i := 1) [_, _] rfl tyS_impl_Priority rfl rfl rfl rfl <| ST (i := 0) [_, _] [_, _] tyS_impl_Priority.sz rfl rfl rfl rfl rfl rfl rfl rfl <| ND <| ret_cv Tryd.func8 (res1 Tryd.func8 rfl (rv_s (i := 0) [_, _] tyS_impl_Priority rfl rfl rfl rfl)) <| ?_
        have e : mergePriority base l = p := by rw [mergePriority, h1]; exact hI.trans (merge_done hn12)
        rw [e]; rfl

theorem impl_within (a b c : Int) (w : World) : CV Tryd.prog 20 [.int .i64 a, .int .i64 b, .int .i64 c] w (.bool (within a b c)) := by
  refine cv_of Tryd.func20 rfl rfl rfl <| SQ <| RG <| AS rfl rfl <| ND <| SQ <| RG <| MV rfl rfl <| MV rfl rfl <| rw_leq rfl rfl rfl <| MV rfl rfl <| ?_
  refine rw_case (j := 10) rfl (fun h1 => ?_) (fun h1 => ?_)
  · refine ON rfl rfl h1 <| MV rfl rfl <| ON rfl rfl h1 <| MV rfl rfl <| ON rfl rfl h1 <| rw_leq rfl rfl rfl <| PT rfl rfl h1 rfl <| AS rfl rfl <| ND <| ret_cv Tryd.func20 (res1 Tryd.func20 rfl (rv_tmp rfl)) <| ?_
    simp only [within, h1] <;> rfl
  · refine OF rfl rfl h1 rfl <| OF rfl rfl h1 rfl <| OF rfl rfl h1 rfl <| PF rfl rfl h1 rfl <| AS rfl rfl <| ND <| ret_cv Tryd.func20 (res1 Tryd.func20 rfl (rv_tmp rfl)) <| ?_
    simp only [within, h1] <;> rfl

theorem impl_IsPriority (p : Priority) (w : World) : CV Tryd.prog 16 [.agg p.cells.toArray] w (.bool (isPriority p)) := by
  refine cv_of Tryd.func16 rfl rfl rfl <| SQ <| RG <| BX [_, _] rfl rfl rfl <| fun b1 => AS rfl rfl <| ND <| SQ <| RG <| FA rfl tyF_impl_Priority_0 rfl <| LD (i := 0) rfl tyP_int rfl rfl rfl <| CV1 rfl fun_impl_within rfl (fun w hs => impl_within _ _ _ w) <| AS rfl rfl <| ND <| ret_cv Tryd.func16 (res1 Tryd.func16 rfl (rv_tmp rfl)) <| ?_
  simp only [isPriority] <;> rfl

theorem impl_DefaultPriority (w : World) : CV Tryd.prog 12 [] w (.agg defaultPriority.cells.toArray) := by
  refine cv_of Tryd.func12 rfl rfl rfl <| SQ <| RG <| AL rfl tyZ_impl_Priority <| fun b1 => ND <| SQ <| RG <| rw_build [_, _] rfl tyB_impl_Priority tyZ_impl_Priority rfl rfl <| ST (i := 0) [_, _] [_, _] tyS_impl_Priority.sz rfl rfl rfl rfl rfl rfl rfl rfl <| ND <| ret_cv Tryd.func12 (res1 Tryd.func12 rfl (rv_s (i := 0) [_, _] tyS_impl_Priority rfl rfl rfl rfl)) <| ?_
  rfl





theorem impl_MergePriority {w : World} (hm : MaxOk w) (base : Priority) (l : List UInt8) (hl : l.length ≤ 1048576) : CV Tryd.prog 10 [.agg base.cells.toArray, .string ⟨l.toArray⟩] w (.agg (mergePriority base l).cells.toArray) := by
  have hpl := pieces_len l
  have hml : ((pieces l).map mkS).length = (pieces l).length := List.length_map ..
  refine cv_of Tryd.func10 rfl rfl rfl <| SQ <| RG <| BX [_, _] rfl rfl rfl <| fun b1 => AL rfl tyZ_impl_Priority <| fun b2 => ND <| SQ <| SQ <| RG <| LS (i := 1) [_, _] rfl tyS_impl_Priority rfl rfl rfl rfl <| CV1 rfl fun_impl_IsPriority rfl (fun w hs => impl_IsPriority _ w) <| NT rfl rfl <| ND <| ?_
  refine gw_cond rfl (fun h1 => ?_) (fun h1 => ?_)
  · replace h1 := of_not_T h1
    refine RG <| CV1 rfl fun_impl_DefaultPriority rfl (fun w hs => impl_DefaultPriority w) <| ST (i := 1) [_, _] [_, _] tyS_impl_Priority.sz rfl rfl rfl rfl rfl rfl rfl rfl <| ND <| SQ <| SQ <| RG <| MV rfl rfl <| CN1 rfl fun_strings_Split rfl (fun w hs => lib_Split (hm.sat hs) l hl) <| fun v1 ch1 how1 => ?_
    obtain ⟨R1, rc1, rfl, hR1, hrd1⟩ := how1.shape eStr
    refine rw_len rfl tyE_S_string rfl <| MV rfl rfl <| ND <| BK <| ?_
    refine gw_loopX (α := Nat × Priority) (fun z_ => z_.1 ≤ (pieces l).length ∧ mergeFrom defaultPriority (pieces l) = mergeFrom z_.2 ((pieces l).drop z_.1)) (fun z_ => (pieces l).length - z_.1) (fun e z_ => (14, .int .i64 (z_.1 : Int)) :: e) (fun B z_ => B.set 1 ⟨b1, 23, z_.2.cells⟩) (fun F _ => F) (0, defaultPriority) [(2, _), (4, _), (12, _), (13, _)] (Sub.consE rfl rfl (Sub.cons (i := 2) rfl (Sub.cons (i := 4) rfl (Sub.cons (i := 12) rfl (Sub.cons (i := 13) rfl (Sub.nil _)))))) rfl rfl ?_ ?_
    · exact ⟨Nat.zero_le _, rfl⟩
    · rintro ⟨i, p⟩ hI2 ih2
      dsimp only at hI2
      dsimp only [List.set]
      obtain ⟨hle, hI⟩ := hI2
      refine SQ <| RG <| rw_lss rfl rfl rfl <| ND <| SQ <| ?_
      refine gw_cond rfl (fun h2 => ?_) (fun h2 => ?_)
      · have hi3 := lt_of_dec h2
        obtain ⟨x4, hx4⟩ := get_of_lt hi3
        obtain ⟨t, ht, rfl⟩ := str_get hx4
        refine SK <| SQ <| BK <| SQ <| RG <| rw_indexAddr (i) rfl tyE_S_string rfl rfl rfl (hR1 (Nat.zero_lt_of_lt hi3)) hi3 <| rw_loadX _ rfl tyP_string rfl (fun w hs => ((hrd1 _ (fun c hc => hs.at_ c (List.mem_append_right _ (List.mem_append_left _ hc)))).plain hx4).cell0 rfl) <| AS rfl rfl <| ND <| SQ <| RG <| MV rfl rfl <| CV1 rfl fun_strings_Trim rfl (fun w hs => lib_Trim _ (Nat.le_trans (pieces_mem ht) (by omega)) w) <| AS rfl rfl <| ND <| BK <| SQ <| RG <| MV rfl rfl <| rw_eqlL rfl rfl rfl <| MV rfl rfl <| ?_
        refine rw_case (j := 23) rfl (fun h3 => ?_) (fun h3 => ?_)
        · refine OF rfl rfl h3 rfl <| OF rfl rfl h3 rfl <| PT rfl rfl h3 rfl <| AS rfl rfl <| ND <| CT rfl rfl <| RG <| FA rfl tyF_impl_Priority_1 rfl <| ST (i := 1) [_] [_, _] tyP_bool.sz rfl rfl rfl rfl rfl rfl rfl rfl <| ND <| IB <| IB <| RG <| rw_add rfl rfl rfl <| MV rfl rfl <| ND <| ?_
          refine gw_sub (Sub.consE (i := 14) rfl (int_succ (by omega)) (Sub.cons (i := 2) rfl (Sub.cons (i := 4) rfl (Sub.cons (i := 12) rfl (Sub.cons (i := 13) rfl (Sub.nil _)))))) (ih2 (i + 1, { p with incremental := true }) ?_ ?_)
          · exact ⟨by omega, by rw [hI, merge_step ht (step_on h3)]⟩
          · show (pieces l).length - (i + 1) < (pieces l).length - i; omega
        · refine ON rfl rfl h3 <| MV rfl rfl <| ON rfl rfl h3 <| rw_eqlL rfl rfl rfl <| PF rfl rfl h3 rfl <| AS rfl rfl <| ND <| ?_
          refine gw_cond rfl (fun h4 => ?_) (fun h4 => ?_)
          · refine RG <| FA rfl tyF_impl_Priority_1 rfl <| ST (i := 1) [_] [_, _] tyP_bool.sz rfl rfl rfl rfl rfl rfl rfl rfl <| ND <| IB <| IB <| RG <| rw_add rfl rfl rfl <| MV rfl rfl <| ND <| ?_
            refine gw_sub (Sub.consE (i := 14) rfl (int_succ (by omega)) (Sub.cons (i := 2) rfl (Sub.cons (i := 4) rfl (Sub.cons (i := 12) rfl (Sub.cons (i := 13) rfl (Sub.nil _)))))) (ih2 (i + 1, { p with incremental := true }) ?_ ?_)
            · exact ⟨by omega, by rw [hI, merge_step ht (step_on2 h3 h4)]⟩
            · show (pieces l).length - (i + 1) < (pieces l).length - i; omega
          · refine SQ <| RG <| MV rfl rfl <| rw_eqlL rfl rfl rfl <| AS rfl rfl <| ND <| ?_
            refine gw_cond rfl (fun h5 => ?_) (fun h5 => ?_)
            · refine RG <| FA rfl tyF_impl_Priority_1 rfl <| ST (i := 1) [_] [_, _] tyP_bool.sz rfl rfl rfl rfl rfl rfl rfl rfl <| ND <| IB <| IB <| RG <| rw_add rfl rfl rfl <| MV rfl rfl <| ND <| ?_
              refine gw_sub (Sub.consE (i := 14) rfl (int_succ (by omega)) (Sub.cons (i := 2) rfl (Sub.cons (i := 4) rfl (Sub.cons (i := 12) rfl (Sub.cons (i := 13) rfl (Sub.nil _)))))) (ih2 (i + 1, { p with incremental := false }) ?_ ?_)
              · exact ⟨by omega, by rw [hI, merge_step ht (step_off h3 h4 h5)]⟩
              · show (pieces l).length - (i + 1) < (pieces l).length - i; omega
            · refine SQ <| RG <| MV rfl rfl <| rw_lenL rfl tyStr_string rfl <| EQ1 rfl rfl rfl <| MV rfl rfl <| ?_
              refine rw_case (j := 36) rfl (fun h6 => ?_) (fun h6 => ?_)
              · obtain ⟨ba5, bb5, bc5, he5⟩ := three_of h6
                refine ON rfl rfl h6 <| MV rfl rfl <| ON rfl rfl h6 <| rw_sliceH 2 [ba5, bb5] rfl tyStr_string rfl rfl rfl (by rw [he5]; simp) (by rw [he5]; rfl) <| ON rfl rfl h6 <| rw_eqlL rfl rfl rfl <| PT rfl rfl h6 rfl <| MV rfl rfl <| ?_
                refine rw_case (j := 41) rfl (fun h7 => ?_) (fun h7 => ?_)
                · refine ON rfl rfl h7 <| MV rfl rfl <| ON rfl rfl h7 <| rw_idxL 2 rfl tyStr_string rfl rfl rfl (by rw [he5]; rfl) <| ON rfl rfl h7 <| rw_geq rfl rfl rfl <| PT rfl rfl h7 rfl <| MV rfl rfl <| ?_
                  refine rw_case (j := 46) rfl (fun h8 => ?_) (fun h8 => ?_)
                  · refine ON rfl rfl h8 <| MV rfl rfl <| ON rfl rfl h8 <| rw_idxL 2 rfl tyStr_string rfl rfl rfl (by rw [he5]; rfl) <| ON rfl rfl h8 <| rw_leq rfl rfl rfl <| PT rfl rfl h8 rfl <| AS rfl rfl <| ND <| ?_
                    refine gw_cond rfl (fun h9 => ?_) (fun h9 => ?_)
                    · refine RG <| MV rfl rfl <| rw_idxL 2 rfl tyStr_string rfl rfl rfl (by rw [he5]; rfl) <| rw_sub rfl rfl rfl <| rw_convI rfl tyCI_uint8_int rfl <| FA rfl tyF_impl_Priority_0 rfl <| ST (i := 1) [_] [_, _] tyP_int.sz rfl rfl rfl rfl rfl rfl rfl rfl <| ND <| IB <| IB <| RG <| rw_add rfl rfl rfl <| MV rfl rfl <| ND <| ?_
                      refine gw_sub (Sub.consE (i := 14) rfl (int_succ (by omega)) (Sub.cons (i := 2) rfl (Sub.cons (i := 4) rfl (Sub.cons (i := 12) rfl (Sub.cons (i := 13) rfl (Sub.nil _)))))) (ih2 (i + 1, { p with urgency := IntKind.i64.wrap (IntKind.u8.wrap ((bc5.toNat : Int) - 48)) }) ?_ ?_)
                      · exact ⟨by omega, by rw [hI, merge_step ht (step_set h3 h4 h5 he5 h7 h8 h9)]⟩
                      · show (pieces l).length - (i + 1) < (pieces l).length - i; omega
                    · refine SK <| IB <| IB <| RG <| rw_add rfl rfl rfl <| MV rfl rfl <| ND <| ?_
                      refine gw_sub (Sub.consE (i := 14) rfl (int_succ (by omega)) (Sub.cons (i := 2) rfl (Sub.cons (i := 4) rfl (Sub.cons (i := 12) rfl (Sub.cons (i := 13) rfl (Sub.nil _)))))) (ih2 (i + 1, p) ?_ ?_)
                      · exact ⟨by omega, by rw [hI, merge_step ht (step_hi h3 h4 h5 he5 h9)]⟩
                      · show (pieces l).length - (i + 1) < (pieces l).length - i; omega
                  · refine OF rfl rfl h8 rfl <| OF rfl rfl h8 rfl <| OF rfl rfl h8 rfl <| PF rfl rfl h8 rfl <| AS rfl rfl <| ND <| CF rfl rfl <| SK <| IB <| IB <| RG <| rw_add rfl rfl rfl <| MV rfl rfl <| ND <| ?_
                    refine gw_sub (Sub.consE (i := 14) rfl (int_succ (by omega)) (Sub.cons (i := 2) rfl (Sub.cons (i := 4) rfl (Sub.cons (i := 12) rfl (Sub.cons (i := 13) rfl (Sub.nil _)))))) (ih2 (i + 1, p) ?_ ?_)
                    · exact ⟨by omega, by rw [hI, merge_step ht (step_lo h3 h4 h5 he5 h8)]⟩
                    · show (pieces l).length - (i + 1) < (pieces l).length - i; omega
                · refine OF rfl rfl h7 rfl <| OF rfl rfl h7 rfl <| OF rfl rfl h7 rfl <| PF rfl rfl h7 rfl <| MV rfl rfl <| OF rfl rfl rfl rfl <| OF rfl rfl rfl rfl <| OF rfl rfl rfl rfl <| PF rfl rfl rfl rfl <| AS rfl rfl <| ND <| CF rfl rfl <| SK <| IB <| IB <| RG <| rw_add rfl rfl rfl <| MV rfl rfl <| ND <| ?_
                  refine gw_sub (Sub.consE (i := 14) rfl (int_succ (by omega)) (Sub.cons (i := 2) rfl (Sub.cons (i := 4) rfl (Sub.cons (i := 12) rfl (Sub.cons (i := 13) rfl (Sub.nil _)))))) (ih2 (i + 1, p) ?_ ?_)
                  · exact ⟨by omega, by rw [hI, merge_step ht (step_u h3 h4 h5 he5 h7)]⟩
                  · show (pieces l).length - (i + 1) < (pieces l).length - i; omega
              · refine OF rfl rfl h6 rfl <| OF rfl rfl h6 rfl <| OF rfl rfl h6 rfl <| PF rfl rfl h6 rfl <| MV rfl rfl <| OF rfl rfl rfl rfl <| OF rfl rfl rfl rfl <| OF rfl rfl rfl rfl <| PF rfl rfl rfl rfl <| MV rfl rfl <| OF rfl rfl rfl rfl <| OF rfl rfl rfl rfl <| OF rfl rfl rfl rfl <| PF rfl rfl rfl rfl <| AS rfl rfl <| ND <| CF rfl rfl <| SK <| IB <| IB <| RG <| rw_add rfl rfl rfl <| MV rfl rfl <| ND <| ?_
                refine gw_sub (Sub.consE (i := 14) rfl (int_succ (by omega)) (Sub.cons (i := 2) rfl (Sub.cons (i := 4) rfl (Sub.cons (i := 12) rfl (Sub.cons (i := 13) rfl (Sub.nil _)))))) (ih2 (i + 1, p) ?_ ?_)
                · exact ⟨by omega, by rw [hI, merge_step ht (step_len h3 h4 h5 h6)]⟩
                · show (pieces l).length - (i + 1) < (pieces l).length - i; omega
      · have hn6 := nil_of_dec h2
        refine EX rfl <| SQ <| RG <| LS (i := 1) [_, _] rfl tyS_impl_Priority rfl rfl rfl rfl <| ST (i := 0) [_, _] [_, _] tyS_impl_Priority.sz rfl rfl rfl rfl rfl rfl rfl rfl <| ND <| ret_cv Tryd.func10 (res1 Tryd.func10 rfl (rv_s (i := 0) [_, _] tyS_impl_Priority rfl rfl rfl rfl)) <| ?_
        have e : mergePriority base l = p := by rw [mergePriority, h1]; exact hI.trans (merge_done hn6)
        rw [e]; rfl
  · replace h1 := of_not_F h1
    refine SK <| SQ <| SQ <| RG <| MV rfl rfl <| CN1 rfl fun_strings_Split rfl (fun w hs => lib_Split (hm.sat hs) l hl) <| fun v7 ch7 how7 => ?_
    obtain ⟨R7, rc7, rfl, hR7, hrd7⟩ := how7.shape eStr
    refine rw_len rfl tyE_S_string rfl <| MV rfl rfl <| ND <| BK <| ?_
    refine gw_loopX (α := Nat × Priority) (fun z_ => z_.1 ≤ (pieces l).length ∧ mergeFrom base (pieces l) = mergeFrom z_.2 ((pieces l).drop z_.1)) (fun z_ => (pieces l).length - z_.1) (fun e z_ => (14, .int .i64 (z_.1 : Int)) :: e) (fun B z_ => B.set 1 ⟨b1, 23, z_.2.cells⟩) (fun F _ => F) (0, base) [(2, _), (4, _), (12, _), (13, _)] (Sub.consE rfl rfl (Sub.cons (i := 2) rfl (Sub.cons (i := 4) rfl (Sub.cons (i := 12) rfl (Sub.cons (i := 13) rfl (Sub.nil _)))))) rfl rfl ?_ ?_
    · exact ⟨Nat.zero_le _, rfl⟩
    · rintro ⟨i, p⟩ hI8 ih8
      dsimp only at hI8
      dsimp only [List.set]
      obtain ⟨hle, hI⟩ := hI8
      refine SQ <| RG <| rw_lss rfl rfl rfl <| ND <| SQ <| ?_
      refine gw_cond rfl (fun h10 => ?_) (fun h10 => ?_)
      · have hi9 := lt_of_dec h10
        obtain ⟨x10, hx10⟩ := get_of_lt hi9
        obtain ⟨t, ht, rfl⟩ := str_get hx10
        refine SK <| SQ <| BK <| SQ <| RG <| rw_indexAddr (i) rfl tyE_S_string rfl rfl rfl (hR7 (Nat.zero_lt_of_lt hi9)) hi9 <| rw_loadX _ rfl tyP_string rfl (fun w hs => ((hrd7 _ (fun c hc => hs.at_ c (List.mem_append_right _ (List.mem_append_left _ hc)))).plain hx10).cell0 rfl) <| AS rfl rfl <| ND <| SQ <| RG <| MV rfl rfl <| CV1 rfl fun_strings_Trim rfl (fun w hs => lib_Trim _ (Nat.le_trans (pieces_mem ht) (by omega)) w) <| AS rfl rfl <| ND <| BK <| SQ <| RG <| MV rfl rfl <| rw_eqlL rfl rfl rfl <| MV rfl rfl <| ?_
        refine rw_case (j := 23) rfl (fun h11 => ?_) (fun h11 => ?_)
        · refine OF rfl rfl h11 rfl <| OF rfl rfl h11 rfl <| PT rfl rfl h11 rfl <| AS rfl rfl <| ND <| CT rfl rfl <| RG <| FA rfl tyF_impl_Priority_1 rfl <| ST (i := 1) [_] [_, _] tyP_bool.sz rfl rfl rfl rfl rfl rfl rfl rfl <| ND <| IB <| IB <| RG <| rw_add rfl rfl rfl <| MV rfl rfl <| ND <| ?_
          refine gw_sub (Sub.consE (i := 14) rfl (int_succ (by omega)) (Sub.cons (i := 2) rfl (Sub.cons (i := 4) rfl (Sub.cons (i := 12) rfl (Sub.cons (i := 13) rfl (Sub.nil _)))))) (ih8 (i + 1, { p with incremental := true }) ?_ ?_)
          · exact ⟨by omega, by rw [hI, merge_step ht (step_on h11)]⟩
          · show (pieces l).length - (i + 1) < (pieces l).length - i; omega
        · refine ON rfl rfl h11 <| MV rfl rfl <| ON rfl rfl h11 <| rw_eqlL rfl rfl rfl <| PF rfl rfl h11 rfl <| AS rfl rfl <| ND <| ?_
          refine gw_cond rfl (fun h12 => ?_) (fun h12 => ?_)
          · refine RG <| FA rfl tyF_impl_Priority_1 rfl <| ST (i := 1) [_] [_, _] tyP_bool.sz rfl rfl rfl rfl rfl rfl rfl rfl <| ND <| IB <| IB <| RG <| rw_add rfl rfl rfl <| MV rfl rfl <| ND <| ?_
            refine gw_sub (Sub.consE (i := 14) rfl (int_succ (by omega)) (Sub.cons (i := 2) rfl (Sub.cons (i := 4) rfl (Sub.cons (i := 12) rfl (Sub.cons (i := 13) rfl (Sub.nil _)))))) (ih8 (i + 1, { p with incremental := true }) ?_ ?_)
            · exact ⟨by omega, by rw [hI, merge_step ht (step_on2 h11 h12)]⟩
            · show (pieces l).length - (i + 1) < (pieces l).length - i; omega
          · refine SQ <| RG <| MV rfl rfl <| rw_eqlL rfl rfl rfl <| AS rfl rfl <| ND <| ?_
            refine gw_cond rfl (fun h13 => ?_) (fun h13 => ?_)
            · refine RG <| FA rfl tyF_impl_Priority_1 rfl <| ST (i := 1) [_] [_, _] tyP_bool.sz rfl rfl rfl rfl rfl rfl rfl rfl <| ND <| IB <| IB <| RG <| rw_add rfl rfl rfl <| MV rfl rfl <| ND <| ?_
              refine gw_sub (Sub.consE (i := 14) rfl (int_succ (by omega)) (Sub.cons (i := 2) rfl (Sub.cons (i := 4) rfl (Sub.cons (i := 12) rfl (Sub.cons (i := 13) rfl (Sub.nil _)))))) (ih8 (i + 1, { p with incremental := false }) ?_ ?_)
              · exact ⟨by omega, by rw [hI, merge_step ht (step_off h11 h12 h13)]⟩
              · show (pieces l).length - (i + 1) < (pieces l).length - i; omega
            · refine SQ <| RG <| MV rfl rfl <| rw_lenL rfl tyStr_string rfl <| EQ1 rfl rfl rfl <| MV rfl rfl <| ?_
              refine rw_case (j := 36) rfl (fun h14 => ?_) (fun h14 => ?_)
              · obtain ⟨ba11, bb11, bc11, he11⟩ := three_of h14
                refine ON rfl rfl h14 <| MV rfl rfl <| ON rfl rfl h14 <| rw_sliceH 2 [ba11, bb11] rfl tyStr_string rfl rfl rfl (by rw [he11]; simp) (by rw [he11]; rfl) <| ON rfl rfl h14 <| rw_eqlL rfl rfl rfl <| PT rfl rfl h14 rfl <| MV rfl rfl <| ?_
                refine rw_case (j := 41) rfl (fun h15 => ?_) (fun h15 => ?_)
                · refine ON rfl rfl h15 <| MV rfl rfl <| ON rfl rfl h15 <| rw_idxL 2 rfl tyStr_string rfl rfl rfl (by rw [he11]; rfl) <| ON rfl rfl h15 <| rw_geq rfl rfl rfl <| PT rfl rfl h15 rfl <| MV rfl rfl <| ?_
                  refine rw_case (j := 46) rfl (fun h16 => ?_) (fun h16 => ?_)
                  · refine ON rfl rfl h16 <| MV rfl rfl <| ON rfl rfl h16 <| rw_idxL 2 rfl tyStr_string rfl rfl rfl (by rw [he11]; rfl) <| ON rfl rfl h16 <| rw_leq rfl rfl rfl <| PT rfl rfl h16 rfl <| AS rfl rfl <| ND <| ?_
                    refine gw_cond rfl (fun h17 => ?_) (fun h17 => ?_)
                    · refine RG <| MV rfl rfl <| rw_idxL 2 rfl tyStr_string rfl rfl rfl (by rw [he11]; rfl) <| rw_sub rfl rfl rfl <| rw_convI rfl tyCI_uint8_int rfl <| FA rfl tyF_impl_Priority_0 rfl <| ST (i := 1) [_] [_, _] tyP_int.sz rfl rfl rfl rfl rfl rfl rfl rfl <| ND <| IB <| IB <| RG <| rw_add rfl rfl rfl <| MV rfl rfl <| ND <| ?_
                      refine gw_sub (Sub.consE (i := 14) rfl (int_succ (by omega)) (Sub.cons (i := 2) rfl (Sub.cons (i := 4) rfl (Sub.cons (i := 12) rfl (Sub.cons (i := 13) rfl (Sub.nil _)))))) (ih8 (i + 1, { p with urgency := IntKind.i64.wrap (IntKind.u8.wrap ((bc11.toNat : Int) - 48)) }) ?_ ?_)
                      · exact ⟨by omega, by rw [hI, merge_step ht (step_set h11 h12 h13 he11 h15 h16 h17)]⟩
                      · show (pieces l).length - (i + 1) < (pieces l).length - i; omega
                    · refine SK <| IB <| IB <| RG <| rw_add rfl rfl rfl <| MV rfl rfl <| ND <| ?_
                      refine gw_sub (Sub.consE (i := 14) rfl (int_succ (by omega)) (Sub.cons (i := 2) rfl (Sub.cons (i := 4) rfl (Sub.cons (i := 12) rfl (Sub.cons (i := 13) rfl (Sub.nil _)))))) (ih8 (i + 1, p) ?_ ?_)
                      · exact ⟨by omega, by rw [hI, merge_step ht (step_hi h11 h12 h13 he11 h17)]⟩
                      · show (pieces l).length - (i + 1) < (pieces l).length - i; omega
                  · refine OF rfl rfl h16 rfl <| OF rfl rfl h16 rfl <| OF rfl rfl h16 rfl <| PF rfl rfl h16 rfl <| AS rfl rfl <| ND <| CF rfl rfl <| SK <| IB <| IB <| RG <| rw_add rfl rfl rfl <| MV rfl rfl <| ND <| ?_
                    refine gw_sub (Sub.consE (i := 14) rfl (int_succ (by omega)) (Sub.cons (i := 2) rfl (Sub.cons (i := 4) rfl (Sub.cons (i := 12) rfl (Sub.cons (i := 13) rfl (Sub.nil _)))))) (ih8 (i + 1, p) ?_ ?_)
                    · exact ⟨by omega, by rw [hI, merge_step ht (step_lo h11 h12 h13 he11 h16)]⟩
                    · show (pieces l).length - (i + 1) < (pieces l).length - i; omega
                · refine OF rfl rfl h15 rfl <| OF rfl rfl h15 rfl <| OF rfl rfl h15 rfl <| PF rfl rfl h15 rfl <| MV rfl rfl <| OF rfl rfl rfl rfl <| OF rfl rfl rfl rfl <| OF rfl rfl rfl rfl <| PF rfl rfl rfl rfl <| AS rfl rfl <| ND <| CF rfl rfl <| SK <| IB <| IB <| RG <| rw_add rfl rfl rfl <| MV rfl rfl <| ND <| ?_
                  refine gw_sub (Sub.consE (i := 14) rfl (int_succ (by omega)) (Sub.cons (i := 2) rfl (Sub.cons (i := 4) rfl (Sub.cons (i := 12) rfl (Sub.cons (i := 13) rfl (Sub.nil _)))))) (ih8 (i + 1, p) ?_ ?_)
                  · exact ⟨by omega, by rw [hI, merge_step ht (step_u h11 h12 h13 he11 h15)]⟩
                  · show (pieces l).length - (i + 1) < (pieces l).length - i; omega
              · refine OF rfl rfl h14 rfl <| OF rfl rfl h14 rfl <| OF rfl rfl h14 rfl <| PF rfl rfl h14 rfl <| MV rfl rfl <| OF rfl rfl rfl rfl <| OF rfl rfl rfl rfl <| OF rfl rfl rfl rfl <| PF rfl rfl rfl rfl <| MV rfl rfl <| OF rfl rfl rfl rfl <| OF rfl rfl rfl rfl <| OF rfl rfl rfl rfl <| PF rfl rfl rfl rfl <| AS rfl rfl <| ND <| CF rfl rfl <| SK <| IB <| IB <| RG <| rw_add rfl rfl rfl <| MV rfl rfl <| ND <| ?_
                refine gw_sub (Sub.consE (i := 14) rfl (int_succ (by omega)) (Sub.cons (i := 2) rfl (Sub.cons (i := 4) rfl (Sub.cons (i := 12) rfl (Sub.cons (i := 13) rfl (Sub.nil _)))))) (ih8 (i + 1, p) ?_ ?_)
                · exact ⟨by omega, by rw [hI, merge_step ht (step_len h11 h12 h13 h14)]⟩
                · show (pieces l).length - (i + 1) < (pieces l).length - i; omega
      · have hn12 := nil_of_dec h10
        refine EX rfl <| SQ <| RG <| LS (i := 1) [_, _] rfl tyS_impl_Priority rfl rfl rfl rfl <| ST (i := 0) [_, _] [_, _] tyS_impl_Priority.sz rfl rfl rfl rfl rfl rfl rfl rfl <| ND <| ret_cv Tryd.func10 (res1 Tryd.func10 rfl (rv_s (i := 0) [_, _] tyS_impl_Priority rfl rfl rfl rfl)) <| ?_
        have e : mergePriority base l = p := by rw [mergePriority, h1]; exact hI.trans (merge_done hn12)
        rw [e]; rfl

theorem laws_eqPriority (a : Priority) (w : World) : CV Tryd.prog 7 [.agg a.cells.toArray, .agg a.cells.toArray] w (.bool true) := by
  refine cv_of Tryd.func7 rfl rfl rfl <| SQ <| RG <| BX [_, _] rfl rfl rfl <| fun b1 => BX [_, _] rfl rfl rfl <| fun b2 => AS rfl rfl <| ND <| SQ <| SQ <| RG <| FA rfl tyF_impl_Priority_0 rfl <| LD (i := 1) rfl tyP_int rfl rfl rfl <| FA rfl tyF_impl_Priority_0 rfl <| LD (i := 0) rfl tyP_int rfl rfl rfl <| NS rfl rfl rfl <| ND <| CF rfl rfl <| SK <| SQ <| SQ <| RG <| FA rfl tyF_impl_Priority_1 rfl <| LD (i := 1) rfl tyP_bool rfl rfl rfl <| FA rfl tyF_impl_Priority_1 rfl <| ?_
  refine LD (i := 0) rfl tyP_bool rfl rfl rfl <| rw_neqSelfB (by kernel_rfl) rfl rfl rfl <| ND <| CF rfl rfl <| SK <| SQ <| RG <| AS rfl rfl <| ND <| ret_cv Tryd.func7 (res1 Tryd.func7 rfl (rv_tmp rfl)) <| ?_
  rfl

theorem law_FnExactMergePriority {w : World} (hm : MaxOk w) (a : Priority) (l : List UInt8) : CV Tryd.prog 4 [.agg a.cells.toArray, .string ⟨l.toArray⟩] w (.bool true) := by
  refine cv_of Tryd.func4 rfl rfl rfl <| SQ <| RG <| BX [_, _] rfl rfl rfl <| fun b1 => AS rfl rfl <| ND <| SQ <| SQ <| RG <| MV rfl rfl <| rw_lenL rfl tyStr_string rfl <| rw_gtr rfl rfl rfl <| ND <| ?_
  refine gw_cond rfl (fun h1 => ?_) (fun h1 => ?_)
  · refine SQ <| RG <| AS rfl rfl <| ND <| ret_cv Tryd.func4 (res1 Tryd.func4 rfl (rv_tmp rfl)) <| ?_
    rfl
  · have hle1 : l.length ≤ 1048576 := le_of_dec h1
    refine SK <| SQ <| RG <| LS (i := 0) [_, _] rfl tyS_laws_Priority rfl rfl rfl rfl <| CV1 rfl fun_laws_toPriority rfl (fun w hs => laws_toPriority _ w) <| MV rfl rfl <| CV1 rfl fun_spec_MergePriority rfl (fun w hs => spec_MergePriority _ _ hle1 w) <| AL rfl tyZ_impl_Priority <| fun b2 => ST (i := 0) [_, _] [_, _] tyS_impl_Priority.sz rfl rfl rfl rfl rfl rfl rfl rfl <| ND <| SQ <| RG <| LS (i := 1) [_, _] rfl tyS_laws_Priority rfl rfl rfl rfl <| CV1 rfl fun_laws_toPriority rfl (fun w hs => laws_toPriority _ w) <| MV rfl rfl <| ?_
    refine CV1 rfl fun_impl_MergePriority rfl (fun w hs => impl_MergePriority (hm.sat hs) _ _ hle1) <| AL rfl tyZ_impl_Priority <| fun b3 => ST (i := 0) [_, _] [_, _] tyS_impl_Priority.sz rfl rfl rfl rfl rfl rfl rfl rfl <| ND <| SQ <| SQ <| RG <| LS (i := 0) [_, _] rfl tyS_impl_Priority rfl rfl rfl rfl <| LS (i := 1) [_, _] rfl tyS_impl_Priority rfl rfl rfl rfl <| CV1 rfl fun_laws_eqPriority rfl (fun w hs => laws_eqPriority _ w) <| NT rfl rfl <| ND <| CF rfl rfl <| SK <| SQ <| RG <| AS rfl rfl <| ND <| ret_cv Tryd.func4 (res1 Tryd.func4 rfl (rv_tmp rfl)) <| ?_
    rfl

theorem spec_ParsePriority (l : List UInt8) (hl : l.length ≤ 1048576) (w : World) : CV Tryd.prog 5 [.string ⟨l.toArray⟩] w (.agg (mergePriority defaultPriority l).cells.toArray) := by
  refine cv_of Tryd.func5 rfl rfl rfl <| SQ <| RG <| AL rfl tyZ_impl_Priority <| fun b1 => ND <| SQ <| RG <| CV1 rfl fun_spec_DefaultPriority rfl (fun w hs => spec_DefaultPriority w) <| MV rfl rfl <| CV1 rfl fun_spec_MergePriority rfl (fun w hs => spec_MergePriority _ _ hl w) <| ST (i := 0) [_, _] [_, _] tyS_impl_Priority.sz rfl rfl rfl rfl rfl rfl rfl rfl <| ND <| ret_cv Tryd.func5 (res1 Tryd.func5 rfl (rv_s (i := 0) [_, _] tyS_impl_Priority rfl rfl rfl rfl)) <| ?_
  rfl

theorem impl_ParsePriority {w : World} (hm : MaxOk w) (l : List UInt8) (hl : l.length ≤ 1048576) : CV Tryd.prog 6 [.string ⟨l.toArray⟩] w (.agg (mergePriority defaultPriority l).cells.toArray) := by
  refine cv_of Tryd.func6 rfl rfl rfl <| SQ <| RG <| AL rfl tyZ_impl_Priority <| fun b1 => ND <| SQ <| RG <| CV1 rfl fun_impl_DefaultPriority rfl (fun w hs => impl_DefaultPriority w) <| MV rfl rfl <| CV1 rfl fun_impl_MergePriority rfl (fun w hs => impl_MergePriority (hm.sat hs) _ _ hl) <| ST (i := 0) [_, _] [_, _] tyS_impl_Priority.sz rfl rfl rfl rfl rfl rfl rfl rfl <| ND <| ret_cv Tryd.func6 (res1 Tryd.func6 rfl (rv_s (i := 0) [_, _] tyS_impl_Priority rfl rfl rfl rfl)) <| ?_
  rfl

theorem law_FnExactParsePriority {w : World} (hm : MaxOk w) (l : List UInt8) : CV Tryd.prog 3 [.string ⟨l.toArray⟩] w (.bool true) := by
  refine cv_of Tryd.func3 rfl rfl rfl <| SQ <| RG <| AS rfl rfl <| ND <| SQ <| SQ <| RG <| MV rfl rfl <| rw_lenL rfl tyStr_string rfl <| rw_gtr rfl rfl rfl <| ND <| ?_
  refine gw_cond rfl (fun h1 => ?_) (fun h1 => ?_)
  · refine SQ <| RG <| AS rfl rfl <| ND <| ret_cv Tryd.func3 (res1 Tryd.func3 rfl (rv_tmp rfl)) <| ?_
    rfl
  · have hle1 : l.length ≤ 1048576 := le_of_dec h1
    refine SK <| SQ <| RG <| MV rfl rfl <| CV1 rfl fun_spec_ParsePriority rfl (fun w hs => spec_ParsePriority _ hle1 w) <| AL rfl tyZ_impl_Priority <| fun b1 => ST (i := 0) [_, _] [_, _] tyS_impl_Priority.sz rfl rfl rfl rfl rfl rfl rfl rfl <| ND <| SQ <| RG <| MV rfl rfl <| CV1 rfl fun_impl_ParsePriority rfl (fun w hs => impl_ParsePriority (hm.sat hs) _ hle1) <| AL rfl tyZ_impl_Priority <| fun b2 => ST (i := 0) [_, _] [_, _] tyS_impl_Priority.sz rfl rfl rfl rfl rfl rfl rfl rfl <| ND <| SQ <| SQ <| RG <| LS (i := 0) [_, _] rfl tyS_impl_Priority rfl rfl rfl rfl <| ?_
    refine LS (i := 1) [_, _] rfl tyS_impl_Priority rfl rfl rfl rfl <| CV1 rfl fun_laws_eqPriority rfl (fun w hs => laws_eqPriority _ w) <| NT rfl rfl <| ND <| CF rfl rfl <| SK <| SQ <| RG <| AS rfl rfl <| ND <| ret_cv Tryd.func3 (res1 Tryd.func3 rfl (rv_tmp rfl)) <| ?_
    rfl
end Go.Proofs.YtmjdcdimkkabmaaDoor
