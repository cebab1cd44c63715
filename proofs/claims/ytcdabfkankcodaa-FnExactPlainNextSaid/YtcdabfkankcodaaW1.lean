/- Walks of the small functions. -/
import Derived.Test.YtcdabfkankcodaaFacts
import Derived.Test.YtcdabfkankcodaaElems
namespace Go.Proofs.Ytcdabfkankcodaa
open SL Go.RowKit
theorem ring_power (n : Int) : isRingSize n = (decide (0 < n) && decide (n ≤ 64) && (bits .and .i64 n (w64 (n - 1)) == 0)) := by
  unfold isRingSize within
  by_cases h1 : (1 : Int) ≤ n <;> by_cases h2 : n ≤ 64 <;> simp [h1, h2, show ((0 : Int) < n) = (1 ≤ n) from rfl]
theorem seeIndex_spec (a : Allow) (i : Int) : seeIndex a i = seeIndexS a i := by
  unfold seeIndex seeIndexS
  cases h : isAllow a with
  | false => simp
  | true =>
    have h' : 0 ≤ a.limit ∧ a.limit ≤ 1152921504606846976 := by
      simp only [isAllow, within, Bool.and_eq_true, decide_eq_true_eq] at h; omega
    have hw : w64 (a.limit - 1) = a.limit - 1 := by rw [w64_id (by omega) (by omega)]
    have : within i 0 (w64 (a.limit - 1)) = (!decide (i < 0) && !decide (a.limit ≤ i)) := by
      rw [hw, within, Bool.eq_iff_iff]; simp; omega
    simp only [this, Bool.true_and, Int.max_comm]
theorem openNext_spec (c : Count) : openNext c = openNextS c := by
  unfold openNext openNextS
  cases h : isCount c with
  | false => rfl
  | true =>
    have h' : 0 ≤ c.opened ∧ c.opened ≤ 1152921504606846976 := by
      simp only [isCount, within, Bool.and_eq_true, decide_eq_true_eq] at h; omega
    have : w64 (w64 (c.opened + 1) - 1) = c.opened := by rw [w64_id (n := c.opened + 1) (by omega) (by omega), w64_id (by omega) (by omega)]; omega
    rw [this]
theorem laws_toPriority (a : Priority) (w : World) : CV Try.prog 16 [.agg a.cells.toArray] w (.agg a.cells.toArray) := by
  refine cv_of Try.func16 rfl rfl rfl <| SQ <| RG <| BX [_, _] rfl rfl rfl <| fun b1 => AL rfl tyZ_impl_Priority <| fun b2 => ND <| SQ <| RG <| AL rfl tyZ_impl_Priority <| fun b3 => ND <| SQ <| RG <| FA rfl tyF_laws_Priority_0 rfl <| LD (i := 2) rfl tyP_int rfl rfl rfl <| FA rfl tyF_impl_Priority_0 rfl <| ST (i := 0) [_] [_, _] tyP_int.sz rfl rfl rfl rfl rfl rfl rfl rfl <| ND <| SQ <| RG <| FA rfl tyF_laws_Priority_1 rfl <| LD (i := 2) rfl tyP_bool rfl rfl rfl <| FA rfl tyF_impl_Priority_1 rfl <| ?_
  refine ST (i := 0) [_] [_, _] tyP_bool.sz rfl rfl rfl rfl rfl rfl rfl rfl <| ND <| SQ <| RG <| LS (i := 0) [_, _] rfl tyS_impl_Priority rfl rfl rfl rfl <| ST (i := 1) [_, _] [_, _] tyS_impl_Priority.sz rfl rfl rfl rfl rfl rfl rfl rfl <| ND <| ret_cv Try.func16 (res1 Try.func16 rfl (rv_s (i := 1) [_, _] tyS_impl_Priority rfl rfl rfl rfl)) <| ?_
  rfl

theorem spec_l1In (a b c : Int) (w : World) : CV Try.prog 55 [.int .i64 a, .int .i64 b, .int .i64 c] w (.bool (within a b c)) := by
  refine cv_of Try.func55 rfl rfl rfl <| SQ <| RG <| AS rfl rfl <| ND <| SQ <| RG <| MV rfl rfl <| MV rfl rfl <| rw_geq rfl rfl rfl <| MV rfl rfl <| ?_
  refine rw_case (j := 10) rfl (fun h1 => ?_) (fun h1 => ?_)
  · refine ON rfl rfl h1 <| MV rfl rfl <| ON rfl rfl h1 <| MV rfl rfl <| ON rfl rfl h1 <| rw_leq rfl rfl rfl <| PT rfl rfl h1 rfl <| AS rfl rfl <| ND <| ret_cv Try.func55 (res1 Try.func55 rfl (rv_tmp rfl)) <| ?_
    simp only [within, h1] <;> rfl
  · refine OF rfl rfl h1 rfl <| OF rfl rfl h1 rfl <| OF rfl rfl h1 rfl <| PF rfl rfl h1 rfl <| AS rfl rfl <| ND <| ret_cv Try.func55 (res1 Try.func55 rfl (rv_tmp rfl)) <| ?_
    simp only [within, h1] <;> rfl

theorem spec_IsPriority (p : Priority) (w : World) : CV Try.prog 15 [.agg p.cells.toArray] w (.bool (isPriority p)) := by
  refine cv_of Try.func15 rfl rfl rfl <| SQ <| RG <| BX [_, _] rfl rfl rfl <| fun b1 => AS rfl rfl <| ND <| SQ <| RG <| FA rfl tyF_impl_Priority_0 rfl <| LD (i := 0) rfl tyP_int rfl rfl rfl <| CV1 rfl fun_spec_l1In rfl (fun w hs => spec_l1In _ _ _ w) <| AS rfl rfl <| ND <| ret_cv Try.func15 (res1 Try.func15 rfl (rv_tmp rfl)) <| ?_
  simp only [isPriority] <;> rfl

theorem impl_within (a b c : Int) (w : World) : CV Try.prog 56 [.int .i64 a, .int .i64 b, .int .i64 c] w (.bool (within a b c)) := by
  refine cv_of Try.func56 rfl rfl rfl <| SQ <| RG <| AS rfl rfl <| ND <| SQ <| RG <| MV rfl rfl <| MV rfl rfl <| rw_leq rfl rfl rfl <| MV rfl rfl <| ?_
  refine rw_case (j := 10) rfl (fun h1 => ?_) (fun h1 => ?_)
  · refine ON rfl rfl h1 <| MV rfl rfl <| ON rfl rfl h1 <| MV rfl rfl <| ON rfl rfl h1 <| rw_leq rfl rfl rfl <| PT rfl rfl h1 rfl <| AS rfl rfl <| ND <| ret_cv Try.func56 (res1 Try.func56 rfl (rv_tmp rfl)) <| ?_
    simp only [within, h1] <;> rfl
  · refine OF rfl rfl h1 rfl <| OF rfl rfl h1 rfl <| OF rfl rfl h1 rfl <| PF rfl rfl h1 rfl <| AS rfl rfl <| ND <| ret_cv Try.func56 (res1 Try.func56 rfl (rv_tmp rfl)) <| ?_
    simp only [within, h1] <;> rfl

theorem impl_IsPriority (p : Priority) (w : World) : CV Try.prog 17 [.agg p.cells.toArray] w (.bool (isPriority p)) := by
  refine cv_of Try.func17 rfl rfl rfl <| SQ <| RG <| BX [_, _] rfl rfl rfl <| fun b1 => AS rfl rfl <| ND <| SQ <| RG <| FA rfl tyF_impl_Priority_0 rfl <| LD (i := 0) rfl tyP_int rfl rfl rfl <| CV1 rfl fun_impl_within rfl (fun w hs => impl_within _ _ _ w) <| AS rfl rfl <| ND <| ret_cv Try.func17 (res1 Try.func17 rfl (rv_tmp rfl)) <| ?_
  simp only [isPriority] <;> rfl

theorem law_FnExactIsPriority (p : Priority) (w : World) : CV Try.prog 3 [.agg p.cells.toArray] w (.bool true) := by
  refine cv_of Try.func3 rfl rfl rfl <| SQ <| RG <| BX [_, _] rfl rfl rfl <| fun b1 => AS rfl rfl <| ND <| SQ <| RG <| LS (i := 0) [_, _] rfl tyS_laws_Priority rfl rfl rfl rfl <| CV1 rfl fun_laws_toPriority rfl (fun w hs => laws_toPriority _ w) <| CV1 rfl fun_spec_IsPriority rfl (fun w hs => spec_IsPriority _ w) <| AS rfl rfl <| ND <| SQ <| RG <| LS (i := 0) [_, _] rfl tyS_laws_Priority rfl rfl rfl rfl <| CV1 rfl fun_laws_toPriority rfl (fun w hs => laws_toPriority _ w) <| CV1 rfl fun_impl_IsPriority rfl (fun w hs => impl_IsPriority _ w) <| ?_
  refine AS rfl rfl <| ND <| SQ <| SQ <| RG <| MV rfl rfl <| MV rfl rfl <| rw_neqSelfB (by kernel_rfl) rfl rfl rfl <| ND <| CF rfl rfl <| SK <| SQ <| RG <| AS rfl rfl <| ND <| ret_cv Try.func3 (res1 Try.func3 rfl (rv_tmp rfl)) <| ?_
  rfl

theorem spec_DefaultPriority (w : World) : CV Try.prog 18 [] w (.agg defaultPriority.cells.toArray) := by
  refine cv_of Try.func18 rfl rfl rfl <| SQ <| RG <| AL rfl tyZ_impl_Priority <| fun b1 => ND <| SQ <| RG <| rw_build [_, _] rfl tyB_impl_Priority tyZ_impl_Priority rfl rfl <| ST (i := 0) [_, _] [_, _] tyS_impl_Priority.sz rfl rfl rfl rfl rfl rfl rfl rfl <| ND <| ret_cv Try.func18 (res1 Try.func18 rfl (rv_s (i := 0) [_, _] tyS_impl_Priority rfl rfl rfl rfl)) <| ?_
  rfl

theorem impl_DefaultPriority (w : World) : CV Try.prog 19 [] w (.agg defaultPriority.cells.toArray) := by
  refine cv_of Try.func19 rfl rfl rfl <| SQ <| RG <| AL rfl tyZ_impl_Priority <| fun b1 => ND <| SQ <| RG <| rw_build [_, _] rfl tyB_impl_Priority tyZ_impl_Priority rfl rfl <| ST (i := 0) [_, _] [_, _] tyS_impl_Priority.sz rfl rfl rfl rfl rfl rfl rfl rfl <| ND <| ret_cv Try.func19 (res1 Try.func19 rfl (rv_s (i := 0) [_, _] tyS_impl_Priority rfl rfl rfl rfl)) <| ?_
  rfl

theorem laws_eqPriority (a : Priority) (w : World) : CV Try.prog 20 [.agg a.cells.toArray, .agg a.cells.toArray] w (.bool true) := by
  refine cv_of Try.func20 rfl rfl rfl <| SQ <| RG <| BX [_, _] rfl rfl rfl <| fun b1 => BX [_, _] rfl rfl rfl <| fun b2 => AS rfl rfl <| ND <| SQ <| SQ <| RG <| FA rfl tyF_impl_Priority_0 rfl <| LD (i := 1) rfl tyP_int rfl rfl rfl <| FA rfl tyF_impl_Priority_0 rfl <| LD (i := 0) rfl tyP_int rfl rfl rfl <| NS rfl rfl rfl <| ND <| CF rfl rfl <| SK <| SQ <| SQ <| RG <| FA rfl tyF_impl_Priority_1 rfl <| LD (i := 1) rfl tyP_bool rfl rfl rfl <| FA rfl tyF_impl_Priority_1 rfl <| ?_
  refine LD (i := 0) rfl tyP_bool rfl rfl rfl <| rw_neqSelfB (by kernel_rfl) rfl rfl rfl <| ND <| CF rfl rfl <| SK <| SQ <| RG <| AS rfl rfl <| ND <| ret_cv Try.func20 (res1 Try.func20 rfl (rv_tmp rfl)) <| ?_
  rfl

theorem law_FnExactDefaultPriority  (w : World) : CV Try.prog 4 [] w (.bool true) := by
  refine cv_of Try.func4 rfl rfl rfl <| SQ <| RG <| AS rfl rfl <| ND <| SQ <| RG <| CV1 rfl fun_spec_DefaultPriority rfl (fun w hs => spec_DefaultPriority w) <| AL rfl tyZ_impl_Priority <| fun b1 => ST (i := 0) [_, _] [_, _] tyS_impl_Priority.sz rfl rfl rfl rfl rfl rfl rfl rfl <| ND <| SQ <| RG <| CV1 rfl fun_impl_DefaultPriority rfl (fun w hs => impl_DefaultPriority w) <| AL rfl tyZ_impl_Priority <| fun b2 => ST (i := 0) [_, _] [_, _] tyS_impl_Priority.sz rfl rfl rfl rfl rfl rfl rfl rfl <| ND <| SQ <| ?_
  refine SQ <| RG <| LS (i := 0) [_, _] rfl tyS_impl_Priority rfl rfl rfl rfl <| LS (i := 1) [_, _] rfl tyS_impl_Priority rfl rfl rfl rfl <| CV1 rfl fun_laws_eqPriority rfl (fun w hs => laws_eqPriority _ w) <| NT rfl rfl <| ND <| CF rfl rfl <| SK <| SQ <| RG <| AS rfl rfl <| ND <| ret_cv Try.func4 (res1 Try.func4 rfl (rv_tmp rfl)) <| ?_
  rfl

theorem laws_toConf (a : Conf) (w : World) : CV Try.prog 22 [.agg a.cells.toArray] w (.agg a.cells.toArray) := by
  refine cv_of Try.func22 rfl rfl rfl <| SQ <| RG <| BX [_, _, _, _, _, _, _, _] rfl rfl rfl <| fun b1 => AL rfl tyZ_impl_Conf <| fun b2 => ND <| SQ <| RG <| AL rfl tyZ_impl_Conf <| fun b3 => ND <| SQ <| RG <| FA rfl tyF_laws_Conf_0 rfl <| LD (i := 2) rfl tyP_int rfl rfl rfl <| FA rfl tyF_impl_Conf_0 rfl <| ST (i := 0) [_] [_, _, _, _, _, _, _, _] tyP_int.sz rfl rfl rfl rfl rfl rfl rfl rfl <| ND <| SQ <| RG <| FA rfl tyF_laws_Conf_1 rfl <| LD (i := 2) rfl tyP_int rfl rfl rfl <| FA rfl tyF_impl_Conf_1 rfl <| ?_
  refine ST (i := 0) [_] [_, _, _, _, _, _, _, _] tyP_int.sz rfl rfl rfl rfl rfl rfl rfl rfl <| ND <| SQ <| RG <| FA rfl tyF_laws_Conf_2 rfl <| LD (i := 2) rfl tyP_int rfl rfl rfl <| FA rfl tyF_impl_Conf_2 rfl <| ST (i := 0) [_] [_, _, _, _, _, _, _, _] tyP_int.sz rfl rfl rfl rfl rfl rfl rfl rfl <| ND <| SQ <| RG <| FA rfl tyF_laws_Conf_3 rfl <| LD (i := 2) rfl tyP_int rfl rfl rfl <| FA rfl tyF_impl_Conf_3 rfl <| ST (i := 0) [_] [_, _, _, _, _, _, _, _] tyP_int.sz rfl rfl rfl rfl rfl rfl rfl rfl <| ?_
  refine ND <| SQ <| RG <| FA rfl tyF_laws_Conf_4 rfl <| LD (i := 2) rfl tyP_int rfl rfl rfl <| FA rfl tyF_impl_Conf_4 rfl <| ST (i := 0) [_] [_, _, _, _, _, _, _, _] tyP_int.sz rfl rfl rfl rfl rfl rfl rfl rfl <| ND <| SQ <| RG <| FA rfl tyF_laws_Conf_5 rfl <| LD (i := 2) rfl tyP_int rfl rfl rfl <| FA rfl tyF_impl_Conf_5 rfl <| ST (i := 0) [_] [_, _, _, _, _, _, _, _] tyP_int.sz rfl rfl rfl rfl rfl rfl rfl rfl <| ND <| SQ <| RG <| FA rfl tyF_laws_Conf_6 rfl <| LD (i := 2) rfl tyP_int rfl rfl rfl <| ?_
  refine FA rfl tyF_impl_Conf_6 rfl <| ST (i := 0) [_] [_, _, _, _, _, _, _, _] tyP_int.sz rfl rfl rfl rfl rfl rfl rfl rfl <| ND <| SQ <| RG <| FA rfl tyF_laws_Conf_7 rfl <| LD (i := 2) rfl tyP_int rfl rfl rfl <| FA rfl tyF_impl_Conf_7 rfl <| ST (i := 0) [_] [_, _, _, _, _, _, _, _] tyP_int.sz rfl rfl rfl rfl rfl rfl rfl rfl <| ND <| SQ <| RG <| LS (i := 0) [_, _, _, _, _, _, _, _] rfl tyS_impl_Conf rfl rfl rfl rfl <| ST (i := 1) [_, _, _, _, _, _, _, _] [_, _, _, _, _, _, _, _] tyS_impl_Conf.sz rfl rfl rfl rfl rfl rfl rfl rfl <| ?_
  refine ND <| ret_cv Try.func22 (res1 Try.func22 rfl (rv_s (i := 1) [_, _, _, _, _, _, _, _] tyS_impl_Conf rfl rfl rfl rfl)) <| ?_
  rfl

theorem spec_l8Power (a : Int) (w : World) : CV Try.prog 57 [.int .i64 a] w (.bool (isRingSize a)) := by
  refine cv_of Try.func57 rfl rfl rfl <| SQ <| RG <| AS rfl rfl <| ND <| SQ <| RG <| MV rfl rfl <| rw_gtr rfl rfl rfl <| MV rfl rfl <| ?_
  refine rw_case (j := 5) rfl (fun h1 => ?_) (fun h1 => ?_)
  · refine ON rfl rfl h1 <| MV rfl rfl <| ON rfl rfl h1 <| rw_leq rfl rfl rfl <| PT rfl rfl h1 rfl <| MV rfl rfl <| ?_
    refine rw_case (j := 9) rfl (fun h2 => ?_) (fun h2 => ?_)
    · refine ON rfl rfl h2 <| MV rfl rfl <| ON rfl rfl h2 <| MV rfl rfl <| ON rfl rfl h2 <| rw_sub rfl rfl rfl <| ON rfl rfl h2 <| rw_and rfl rfl rfl <| ON rfl rfl h2 <| EQ1 rfl rfl rfl <| PT rfl rfl h2 rfl <| AS rfl rfl <| ND <| ret_cv Try.func57 (res1 Try.func57 rfl (rv_tmp rfl)) <| ?_
      rw [ring_power]; simp only [h1, h2] <;> rfl
    · refine OF rfl rfl h2 rfl <| OF rfl rfl h2 rfl <| OF rfl rfl h2 rfl <| OF rfl rfl h2 rfl <| OF rfl rfl h2 rfl <| PF rfl rfl h2 rfl <| AS rfl rfl <| ND <| ret_cv Try.func57 (res1 Try.func57 rfl (rv_tmp rfl)) <| ?_
      rw [ring_power]; simp only [h1, h2] <;> rfl
  · refine OF rfl rfl h1 rfl <| OF rfl rfl h1 rfl <| PF rfl rfl h1 rfl <| MV rfl rfl <| OF rfl rfl rfl rfl <| OF rfl rfl rfl rfl <| OF rfl rfl rfl rfl <| OF rfl rfl rfl rfl <| OF rfl rfl rfl rfl <| PF rfl rfl rfl rfl <| AS rfl rfl <| ND <| ret_cv Try.func57 (res1 Try.func57 rfl (rv_tmp rfl)) <| ?_
    rw [ring_power]; simp only [h1] <;> rfl

theorem spec_IsConf (c : Conf) (w : World) : CV Try.prog 21 [.agg c.cells.toArray] w (.bool (isConf c)) := by
  refine cv_of Try.func21 rfl rfl rfl <| SQ <| RG <| BX [_, _, _, _, _, _, _, _] rfl rfl rfl <| fun b1 => AS rfl rfl <| ND <| SQ <| RG <| FA rfl tyF_impl_Conf_0 rfl <| LD (i := 0) rfl tyP_int rfl rfl rfl <| CV1 rfl fun_spec_l8Power rfl (fun w hs => spec_l8Power _ w) <| MV rfl rfl <| ?_
  refine rw_case (j := 6) rfl (fun h1 => ?_) (fun h1 => ?_)
  · refine ON rfl rfl h1 <| FA rfl tyF_impl_Conf_2 rfl <| ON rfl rfl h1 <| LD (i := 0) rfl tyP_int rfl rfl rfl <| ON rfl rfl h1 <| CV1 rfl fun_spec_l1In rfl (fun w hs => spec_l1In _ _ _ w) <| PT rfl rfl h1 rfl <| MV rfl rfl <| ?_
    refine rw_case (j := 11) rfl (fun h2 => ?_) (fun h2 => ?_)
    · refine ON rfl rfl h2 <| FA rfl tyF_impl_Conf_1 rfl <| ON rfl rfl h2 <| LD (i := 0) rfl tyP_int rfl rfl rfl <| ON rfl rfl h2 <| FA rfl tyF_impl_Conf_2 rfl <| ON rfl rfl h2 <| LD (i := 0) rfl tyP_int rfl rfl rfl <| ON rfl rfl h2 <| CV1 rfl fun_spec_l1In rfl (fun w hs => spec_l1In _ _ _ w) <| PT rfl rfl h2 rfl <| MV rfl rfl <| ?_
      refine rw_case (j := 18) rfl (fun h3 => ?_) (fun h3 => ?_)
      · refine ON rfl rfl h3 <| FA rfl tyF_impl_Conf_4 rfl <| ON rfl rfl h3 <| LD (i := 0) rfl tyP_int rfl rfl rfl <| ON rfl rfl h3 <| CV1 rfl fun_spec_l1In rfl (fun w hs => spec_l1In _ _ _ w) <| PT rfl rfl h3 rfl <| MV rfl rfl <| ?_
        refine rw_case (j := 23) rfl (fun h4 => ?_) (fun h4 => ?_)
        · refine ON rfl rfl h4 <| FA rfl tyF_impl_Conf_3 rfl <| ON rfl rfl h4 <| LD (i := 0) rfl tyP_int rfl rfl rfl <| ON rfl rfl h4 <| FA rfl tyF_impl_Conf_4 rfl <| ON rfl rfl h4 <| LD (i := 0) rfl tyP_int rfl rfl rfl <| ON rfl rfl h4 <| CV1 rfl fun_spec_l1In rfl (fun w hs => spec_l1In _ _ _ w) <| PT rfl rfl h4 rfl <| MV rfl rfl <| ?_
          refine rw_case (j := 30) rfl (fun h5 => ?_) (fun h5 => ?_)
          · refine ON rfl rfl h5 <| FA rfl tyF_impl_Conf_5 rfl <| ON rfl rfl h5 <| LD (i := 0) rfl tyP_int rfl rfl rfl <| ON rfl rfl h5 <| CV1 rfl fun_spec_l1In rfl (fun w hs => spec_l1In _ _ _ w) <| PT rfl rfl h5 rfl <| MV rfl rfl <| ?_
            refine rw_case (j := 35) rfl (fun h6 => ?_) (fun h6 => ?_)
            · refine ON rfl rfl h6 <| FA rfl tyF_impl_Conf_6 rfl <| ON rfl rfl h6 <| LD (i := 0) rfl tyP_int rfl rfl rfl <| ON rfl rfl h6 <| CV1 rfl fun_spec_l1In rfl (fun w hs => spec_l1In _ _ _ w) <| PT rfl rfl h6 rfl <| MV rfl rfl <| ?_
              refine rw_case (j := 40) rfl (fun h7 => ?_) (fun h7 => ?_)
              · refine ON rfl rfl h7 <| FA rfl tyF_impl_Conf_7 rfl <| ON rfl rfl h7 <| LD (i := 0) rfl tyP_int rfl rfl rfl <| ON rfl rfl h7 <| CV1 rfl fun_spec_l1In rfl (fun w hs => spec_l1In _ _ _ w) <| PT rfl rfl h7 rfl <| AS rfl rfl <| ND <| ret_cv Try.func21 (res1 Try.func21 rfl (rv_tmp rfl)) <| ?_
                simp [isConf, h1, h2, h3, h4, h5, h6, h7]
              · refine OF rfl rfl h7 rfl <| OF rfl rfl h7 rfl <| OF rfl rfl h7 rfl <| PF rfl rfl h7 rfl <| AS rfl rfl <| ND <| ret_cv Try.func21 (res1 Try.func21 rfl (rv_tmp rfl)) <| ?_
                simp [isConf, h1, h2, h3, h4, h5, h6, h7]
            · refine OF rfl rfl h6 rfl <| OF rfl rfl h6 rfl <| OF rfl rfl h6 rfl <| PF rfl rfl h6 rfl <| MV rfl rfl <| OF rfl rfl rfl rfl <| OF rfl rfl rfl rfl <| OF rfl rfl rfl rfl <| PF rfl rfl rfl rfl <| AS rfl rfl <| ND <| ret_cv Try.func21 (res1 Try.func21 rfl (rv_tmp rfl)) <| ?_
              simp [isConf, h1, h2, h3, h4, h5, h6]
          · refine OF rfl rfl h5 rfl <| OF rfl rfl h5 rfl <| OF rfl rfl h5 rfl <| PF rfl rfl h5 rfl <| MV rfl rfl <| OF rfl rfl rfl rfl <| OF rfl rfl rfl rfl <| OF rfl rfl rfl rfl <| PF rfl rfl rfl rfl <| MV rfl rfl <| OF rfl rfl rfl rfl <| OF rfl rfl rfl rfl <| OF rfl rfl rfl rfl <| PF rfl rfl rfl rfl <| AS rfl rfl <| ND <| ret_cv Try.func21 (res1 Try.func21 rfl (rv_tmp rfl)) <| ?_
            simp [isConf, h1, h2, h3, h4, h5]
        · refine OF rfl rfl h4 rfl <| OF rfl rfl h4 rfl <| OF rfl rfl h4 rfl <| OF rfl rfl h4 rfl <| OF rfl rfl h4 rfl <| PF rfl rfl h4 rfl <| MV rfl rfl <| OF rfl rfl rfl rfl <| OF rfl rfl rfl rfl <| OF rfl rfl rfl rfl <| PF rfl rfl rfl rfl <| MV rfl rfl <| OF rfl rfl rfl rfl <| OF rfl rfl rfl rfl <| OF rfl rfl rfl rfl <| PF rfl rfl rfl rfl <| MV rfl rfl <| OF rfl rfl rfl rfl <| OF rfl rfl rfl rfl <| OF rfl rfl rfl rfl <| PF rfl rfl rfl rfl <| ?_
          refine AS rfl rfl <| ND <| ret_cv Try.func21 (res1 Try.func21 rfl (rv_tmp rfl)) <| ?_
          simp [isConf, h1, h2, h3, h4]
      · refine OF rfl rfl h3 rfl <| OF rfl rfl h3 rfl <| OF rfl rfl h3 rfl <| PF rfl rfl h3 rfl <| MV rfl rfl <| OF rfl rfl rfl rfl <| OF rfl rfl rfl rfl <| OF rfl rfl rfl rfl <| OF rfl rfl rfl rfl <| OF rfl rfl rfl rfl <| PF rfl rfl rfl rfl <| MV rfl rfl <| OF rfl rfl rfl rfl <| OF rfl rfl rfl rfl <| OF rfl rfl rfl rfl <| PF rfl rfl rfl rfl <| MV rfl rfl <| OF rfl rfl rfl rfl <| OF rfl rfl rfl rfl <| OF rfl rfl rfl rfl <| PF rfl rfl rfl rfl <| ?_
        refine MV rfl rfl <| OF rfl rfl rfl rfl <| OF rfl rfl rfl rfl <| OF rfl rfl rfl rfl <| PF rfl rfl rfl rfl <| AS rfl rfl <| ND <| ret_cv Try.func21 (res1 Try.func21 rfl (rv_tmp rfl)) <| ?_
        simp [isConf, h1, h2, h3]
    · refine OF rfl rfl h2 rfl <| OF rfl rfl h2 rfl <| OF rfl rfl h2 rfl <| OF rfl rfl h2 rfl <| OF rfl rfl h2 rfl <| PF rfl rfl h2 rfl <| MV rfl rfl <| OF rfl rfl rfl rfl <| OF rfl rfl rfl rfl <| OF rfl rfl rfl rfl <| PF rfl rfl rfl rfl <| MV rfl rfl <| OF rfl rfl rfl rfl <| OF rfl rfl rfl rfl <| OF rfl rfl rfl rfl <| OF rfl rfl rfl rfl <| OF rfl rfl rfl rfl <| PF rfl rfl rfl rfl <| MV rfl rfl <| OF rfl rfl rfl rfl <| OF rfl rfl rfl rfl <| ?_
      refine OF rfl rfl rfl rfl <| PF rfl rfl rfl rfl <| MV rfl rfl <| OF rfl rfl rfl rfl <| OF rfl rfl rfl rfl <| OF rfl rfl rfl rfl <| PF rfl rfl rfl rfl <| MV rfl rfl <| OF rfl rfl rfl rfl <| OF rfl rfl rfl rfl <| OF rfl rfl rfl rfl <| PF rfl rfl rfl rfl <| AS rfl rfl <| ND <| ret_cv Try.func21 (res1 Try.func21 rfl (rv_tmp rfl)) <| ?_
      simp [isConf, h1, h2]
  · refine OF rfl rfl h1 rfl <| OF rfl rfl h1 rfl <| OF rfl rfl h1 rfl <| PF rfl rfl h1 rfl <| MV rfl rfl <| OF rfl rfl rfl rfl <| OF rfl rfl rfl rfl <| OF rfl rfl rfl rfl <| OF rfl rfl rfl rfl <| OF rfl rfl rfl rfl <| PF rfl rfl rfl rfl <| MV rfl rfl <| OF rfl rfl rfl rfl <| OF rfl rfl rfl rfl <| OF rfl rfl rfl rfl <| PF rfl rfl rfl rfl <| MV rfl rfl <| OF rfl rfl rfl rfl <| OF rfl rfl rfl rfl <| OF rfl rfl rfl rfl <| OF rfl rfl rfl rfl <| ?_
    refine OF rfl rfl rfl rfl <| PF rfl rfl rfl rfl <| MV rfl rfl <| OF rfl rfl rfl rfl <| OF rfl rfl rfl rfl <| OF rfl rfl rfl rfl <| PF rfl rfl rfl rfl <| MV rfl rfl <| OF rfl rfl rfl rfl <| OF rfl rfl rfl rfl <| OF rfl rfl rfl rfl <| PF rfl rfl rfl rfl <| MV rfl rfl <| OF rfl rfl rfl rfl <| OF rfl rfl rfl rfl <| OF rfl rfl rfl rfl <| PF rfl rfl rfl rfl <| AS rfl rfl <| ND <| ret_cv Try.func21 (res1 Try.func21 rfl (rv_tmp rfl)) <| ?_
    simp [isConf, h1]

theorem impl_isRingSize (a : Int) (w : World) : CV Try.prog 58 [.int .i64 a] w (.bool (isRingSize a)) := by
  refine cv_of Try.func58 rfl rfl rfl <| SQ <| RG <| AS rfl rfl <| ND <| SQ <| RG <| MV rfl rfl <| CV1 rfl fun_impl_within rfl (fun w hs => impl_within _ _ _ w) <| MV rfl rfl <| ?_
  refine rw_case (j := 5) rfl (fun h1 => ?_) (fun h1 => ?_)
  · refine ON rfl rfl h1 <| MV rfl rfl <| ON rfl rfl h1 <| MV rfl rfl <| ON rfl rfl h1 <| rw_sub rfl rfl rfl <| ON rfl rfl h1 <| rw_and rfl rfl rfl <| ON rfl rfl h1 <| EQ1 rfl rfl rfl <| PT rfl rfl h1 rfl <| AS rfl rfl <| ND <| ret_cv Try.func58 (res1 Try.func58 rfl (rv_tmp rfl)) <| ?_
    simp only [isRingSize, h1] <;> rfl
  · refine OF rfl rfl h1 rfl <| OF rfl rfl h1 rfl <| OF rfl rfl h1 rfl <| OF rfl rfl h1 rfl <| OF rfl rfl h1 rfl <| PF rfl rfl h1 rfl <| AS rfl rfl <| ND <| ret_cv Try.func58 (res1 Try.func58 rfl (rv_tmp rfl)) <| ?_
    simp only [isRingSize, h1] <;> rfl

theorem impl_IsConf (c : Conf) (w : World) : CV Try.prog 23 [.agg c.cells.toArray] w (.bool (isConf c)) := by
  refine cv_of Try.func23 rfl rfl rfl <| SQ <| RG <| BX [_, _, _, _, _, _, _, _] rfl rfl rfl <| fun b1 => AS rfl rfl <| ND <| SQ <| RG <| FA rfl tyF_impl_Conf_0 rfl <| LD (i := 0) rfl tyP_int rfl rfl rfl <| CV1 rfl fun_impl_isRingSize rfl (fun w hs => impl_isRingSize _ w) <| MV rfl rfl <| ?_
  refine rw_case (j := 6) rfl (fun h1 => ?_) (fun h1 => ?_)
  · refine ON rfl rfl h1 <| FA rfl tyF_impl_Conf_2 rfl <| ON rfl rfl h1 <| LD (i := 0) rfl tyP_int rfl rfl rfl <| ON rfl rfl h1 <| CV1 rfl fun_impl_within rfl (fun w hs => impl_within _ _ _ w) <| PT rfl rfl h1 rfl <| MV rfl rfl <| ?_
    refine rw_case (j := 11) rfl (fun h2 => ?_) (fun h2 => ?_)
    · refine ON rfl rfl h2 <| FA rfl tyF_impl_Conf_4 rfl <| ON rfl rfl h2 <| LD (i := 0) rfl tyP_int rfl rfl rfl <| ON rfl rfl h2 <| CV1 rfl fun_impl_within rfl (fun w hs => impl_within _ _ _ w) <| PT rfl rfl h2 rfl <| MV rfl rfl <| ?_
      refine rw_case (j := 16) rfl (fun h3 => ?_) (fun h3 => ?_)
      · refine ON rfl rfl h3 <| FA rfl tyF_impl_Conf_1 rfl <| ON rfl rfl h3 <| LD (i := 0) rfl tyP_int rfl rfl rfl <| ON rfl rfl h3 <| FA rfl tyF_impl_Conf_2 rfl <| ON rfl rfl h3 <| LD (i := 0) rfl tyP_int rfl rfl rfl <| ON rfl rfl h3 <| CV1 rfl fun_impl_within rfl (fun w hs => impl_within _ _ _ w) <| PT rfl rfl h3 rfl <| MV rfl rfl <| ?_
        refine rw_case (j := 23) rfl (fun h4 => ?_) (fun h4 => ?_)
        · refine ON rfl rfl h4 <| FA rfl tyF_impl_Conf_3 rfl <| ON rfl rfl h4 <| LD (i := 0) rfl tyP_int rfl rfl rfl <| ON rfl rfl h4 <| FA rfl tyF_impl_Conf_4 rfl <| ON rfl rfl h4 <| LD (i := 0) rfl tyP_int rfl rfl rfl <| ON rfl rfl h4 <| CV1 rfl fun_impl_within rfl (fun w hs => impl_within _ _ _ w) <| PT rfl rfl h4 rfl <| MV rfl rfl <| ?_
          refine rw_case (j := 30) rfl (fun h5 => ?_) (fun h5 => ?_)
          · refine ON rfl rfl h5 <| FA rfl tyF_impl_Conf_5 rfl <| ON rfl rfl h5 <| LD (i := 0) rfl tyP_int rfl rfl rfl <| ON rfl rfl h5 <| CV1 rfl fun_impl_within rfl (fun w hs => impl_within _ _ _ w) <| PT rfl rfl h5 rfl <| MV rfl rfl <| ?_
            refine rw_case (j := 35) rfl (fun h6 => ?_) (fun h6 => ?_)
            · refine ON rfl rfl h6 <| FA rfl tyF_impl_Conf_6 rfl <| ON rfl rfl h6 <| LD (i := 0) rfl tyP_int rfl rfl rfl <| ON rfl rfl h6 <| CV1 rfl fun_impl_within rfl (fun w hs => impl_within _ _ _ w) <| PT rfl rfl h6 rfl <| MV rfl rfl <| ?_
              refine rw_case (j := 40) rfl (fun h7 => ?_) (fun h7 => ?_)
              · refine ON rfl rfl h7 <| FA rfl tyF_impl_Conf_7 rfl <| ON rfl rfl h7 <| LD (i := 0) rfl tyP_int rfl rfl rfl <| ON rfl rfl h7 <| CV1 rfl fun_impl_within rfl (fun w hs => impl_within _ _ _ w) <| PT rfl rfl h7 rfl <| AS rfl rfl <| ND <| ret_cv Try.func23 (res1 Try.func23 rfl (rv_tmp rfl)) <| ?_
                simp only [isConf, h1, h2, h3, h4, h5, h6, h7] <;> rfl
              · refine OF rfl rfl h7 rfl <| OF rfl rfl h7 rfl <| OF rfl rfl h7 rfl <| PF rfl rfl h7 rfl <| AS rfl rfl <| ND <| ret_cv Try.func23 (res1 Try.func23 rfl (rv_tmp rfl)) <| ?_
                simp only [isConf, h1, h2, h3, h4, h5, h6, h7] <;> rfl
            · refine OF rfl rfl h6 rfl <| OF rfl rfl h6 rfl <| OF rfl rfl h6 rfl <| PF rfl rfl h6 rfl <| MV rfl rfl <| OF rfl rfl rfl rfl <| OF rfl rfl rfl rfl <| OF rfl rfl rfl rfl <| PF rfl rfl rfl rfl <| AS rfl rfl <| ND <| ret_cv Try.func23 (res1 Try.func23 rfl (rv_tmp rfl)) <| ?_
              simp only [isConf, h1, h2, h3, h4, h5, h6] <;> rfl
          · refine OF rfl rfl h5 rfl <| OF rfl rfl h5 rfl <| OF rfl rfl h5 rfl <| PF rfl rfl h5 rfl <| MV rfl rfl <| OF rfl rfl rfl rfl <| OF rfl rfl rfl rfl <| OF rfl rfl rfl rfl <| PF rfl rfl rfl rfl <| MV rfl rfl <| OF rfl rfl rfl rfl <| OF rfl rfl rfl rfl <| OF rfl rfl rfl rfl <| PF rfl rfl rfl rfl <| AS rfl rfl <| ND <| ret_cv Try.func23 (res1 Try.func23 rfl (rv_tmp rfl)) <| ?_
            simp only [isConf, h1, h2, h3, h4, h5] <;> rfl
        · refine OF rfl rfl h4 rfl <| OF rfl rfl h4 rfl <| OF rfl rfl h4 rfl <| OF rfl rfl h4 rfl <| OF rfl rfl h4 rfl <| PF rfl rfl h4 rfl <| MV rfl rfl <| OF rfl rfl rfl rfl <| OF rfl rfl rfl rfl <| OF rfl rfl rfl rfl <| PF rfl rfl rfl rfl <| MV rfl rfl <| OF rfl rfl rfl rfl <| OF rfl rfl rfl rfl <| OF rfl rfl rfl rfl <| PF rfl rfl rfl rfl <| MV rfl rfl <| OF rfl rfl rfl rfl <| OF rfl rfl rfl rfl <| OF rfl rfl rfl rfl <| PF rfl rfl rfl rfl <| ?_
          refine AS rfl rfl <| ND <| ret_cv Try.func23 (res1 Try.func23 rfl (rv_tmp rfl)) <| ?_
          simp only [isConf, h1, h2, h3, h4] <;> rfl
      · refine OF rfl rfl h3 rfl <| OF rfl rfl h3 rfl <| OF rfl rfl h3 rfl <| OF rfl rfl h3 rfl <| OF rfl rfl h3 rfl <| PF rfl rfl h3 rfl <| MV rfl rfl <| OF rfl rfl rfl rfl <| OF rfl rfl rfl rfl <| OF rfl rfl rfl rfl <| OF rfl rfl rfl rfl <| OF rfl rfl rfl rfl <| PF rfl rfl rfl rfl <| MV rfl rfl <| OF rfl rfl rfl rfl <| OF rfl rfl rfl rfl <| OF rfl rfl rfl rfl <| PF rfl rfl rfl rfl <| MV rfl rfl <| OF rfl rfl rfl rfl <| OF rfl rfl rfl rfl <| ?_
        refine OF rfl rfl rfl rfl <| PF rfl rfl rfl rfl <| MV rfl rfl <| OF rfl rfl rfl rfl <| OF rfl rfl rfl rfl <| OF rfl rfl rfl rfl <| PF rfl rfl rfl rfl <| AS rfl rfl <| ND <| ret_cv Try.func23 (res1 Try.func23 rfl (rv_tmp rfl)) <| ?_
        simp only [isConf, h1, h2, h3] <;> rfl
    · refine OF rfl rfl h2 rfl <| OF rfl rfl h2 rfl <| OF rfl rfl h2 rfl <| PF rfl rfl h2 rfl <| MV rfl rfl <| OF rfl rfl rfl rfl <| OF rfl rfl rfl rfl <| OF rfl rfl rfl rfl <| OF rfl rfl rfl rfl <| OF rfl rfl rfl rfl <| PF rfl rfl rfl rfl <| MV rfl rfl <| OF rfl rfl rfl rfl <| OF rfl rfl rfl rfl <| OF rfl rfl rfl rfl <| OF rfl rfl rfl rfl <| OF rfl rfl rfl rfl <| PF rfl rfl rfl rfl <| MV rfl rfl <| OF rfl rfl rfl rfl <| OF rfl rfl rfl rfl <| ?_
      refine OF rfl rfl rfl rfl <| PF rfl rfl rfl rfl <| MV rfl rfl <| OF rfl rfl rfl rfl <| OF rfl rfl rfl rfl <| OF rfl rfl rfl rfl <| PF rfl rfl rfl rfl <| MV rfl rfl <| OF rfl rfl rfl rfl <| OF rfl rfl rfl rfl <| OF rfl rfl rfl rfl <| PF rfl rfl rfl rfl <| AS rfl rfl <| ND <| ret_cv Try.func23 (res1 Try.func23 rfl (rv_tmp rfl)) <| ?_
      simp only [isConf, h1, h2] <;> rfl
  · refine OF rfl rfl h1 rfl <| OF rfl rfl h1 rfl <| OF rfl rfl h1 rfl <| PF rfl rfl h1 rfl <| MV rfl rfl <| OF rfl rfl rfl rfl <| OF rfl rfl rfl rfl <| OF rfl rfl rfl rfl <| PF rfl rfl rfl rfl <| MV rfl rfl <| OF rfl rfl rfl rfl <| OF rfl rfl rfl rfl <| OF rfl rfl rfl rfl <| OF rfl rfl rfl rfl <| OF rfl rfl rfl rfl <| PF rfl rfl rfl rfl <| MV rfl rfl <| OF rfl rfl rfl rfl <| OF rfl rfl rfl rfl <| OF rfl rfl rfl rfl <| OF rfl rfl rfl rfl <| ?_
    refine OF rfl rfl rfl rfl <| PF rfl rfl rfl rfl <| MV rfl rfl <| OF rfl rfl rfl rfl <| OF rfl rfl rfl rfl <| OF rfl rfl rfl rfl <| PF rfl rfl rfl rfl <| MV rfl rfl <| OF rfl rfl rfl rfl <| OF rfl rfl rfl rfl <| OF rfl rfl rfl rfl <| PF rfl rfl rfl rfl <| MV rfl rfl <| OF rfl rfl rfl rfl <| OF rfl rfl rfl rfl <| OF rfl rfl rfl rfl <| PF rfl rfl rfl rfl <| AS rfl rfl <| ND <| ret_cv Try.func23 (res1 Try.func23 rfl (rv_tmp rfl)) <| ?_
    simp only [isConf, h1] <;> rfl

theorem law_FnExactIsConf (c : Conf) (w : World) : CV Try.prog 5 [.agg c.cells.toArray] w (.bool true) := by
  refine cv_of Try.func5 rfl rfl rfl <| SQ <| RG <| BX [_, _, _, _, _, _, _, _] rfl rfl rfl <| fun b1 => AS rfl rfl <| ND <| SQ <| RG <| LS (i := 0) [_, _, _, _, _, _, _, _] rfl tyS_laws_Conf rfl rfl rfl rfl <| CV1 rfl fun_laws_toConf rfl (fun w hs => laws_toConf _ w) <| CV1 rfl fun_spec_IsConf rfl (fun w hs => spec_IsConf _ w) <| AS rfl rfl <| ND <| SQ <| RG <| LS (i := 0) [_, _, _, _, _, _, _, _] rfl tyS_laws_Conf rfl rfl rfl rfl <| CV1 rfl fun_laws_toConf rfl (fun w hs => laws_toConf _ w) <| ?_
  refine CV1 rfl fun_impl_IsConf rfl (fun w hs => impl_IsConf _ w) <| AS rfl rfl <| ND <| SQ <| SQ <| RG <| MV rfl rfl <| MV rfl rfl <| rw_neqSelfB (by kernel_rfl) rfl rfl rfl <| ND <| CF rfl rfl <| SK <| SQ <| RG <| AS rfl rfl <| ND <| ret_cv Try.func5 (res1 Try.func5 rfl (rv_tmp rfl)) <| ?_
  rfl

theorem spec_DefaultConf (w : World) : CV Try.prog 24 [] w (.agg defaultConf.cells.toArray) := by
  refine cv_of Try.func24 rfl rfl rfl <| SQ <| RG <| AL rfl tyZ_impl_Conf <| fun b1 => ND <| SQ <| RG <| rw_build [_, _, _, _, _, _, _, _] rfl tyB_impl_Conf tyZ_impl_Conf rfl rfl <| ST (i := 0) [_, _, _, _, _, _, _, _] [_, _, _, _, _, _, _, _] tyS_impl_Conf.sz rfl rfl rfl rfl rfl rfl rfl rfl <| ND <| ret_cv Try.func24 (res1 Try.func24 rfl (rv_s (i := 0) [_, _, _, _, _, _, _, _] tyS_impl_Conf rfl rfl rfl rfl)) <| ?_
  rfl

theorem impl_DefaultConf (w : World) : CV Try.prog 25 [] w (.agg defaultConf.cells.toArray) := by
  refine cv_of Try.func25 rfl rfl rfl <| SQ <| RG <| AL rfl tyZ_impl_Conf <| fun b1 => ND <| SQ <| RG <| rw_build [_, _, _, _, _, _, _, _] rfl tyB_impl_Conf tyZ_impl_Conf rfl rfl <| ST (i := 0) [_, _, _, _, _, _, _, _] [_, _, _, _, _, _, _, _] tyS_impl_Conf.sz rfl rfl rfl rfl rfl rfl rfl rfl <| ND <| ret_cv Try.func25 (res1 Try.func25 rfl (rv_s (i := 0) [_, _, _, _, _, _, _, _] tyS_impl_Conf rfl rfl rfl rfl)) <| ?_
  rfl

theorem laws_eqConf (a : Conf) (w : World) : CV Try.prog 26 [.agg a.cells.toArray, .agg a.cells.toArray] w (.bool true) := by
  refine cv_of Try.func26 rfl rfl rfl <| SQ <| RG <| BX [_, _, _, _, _, _, _, _] rfl rfl rfl <| fun b1 => BX [_, _, _, _, _, _, _, _] rfl rfl rfl <| fun b2 => AS rfl rfl <| ND <| SQ <| SQ <| RG <| FA rfl tyF_impl_Conf_0 rfl <| LD (i := 1) rfl tyP_int rfl rfl rfl <| FA rfl tyF_impl_Conf_0 rfl <| LD (i := 0) rfl tyP_int rfl rfl rfl <| NS rfl rfl rfl <| ND <| CF rfl rfl <| SK <| SQ <| SQ <| RG <| FA rfl tyF_impl_Conf_1 rfl <| LD (i := 1) rfl tyP_int rfl rfl rfl <| FA rfl tyF_impl_Conf_1 rfl <| ?_
  refine LD (i := 0) rfl tyP_int rfl rfl rfl <| NS rfl rfl rfl <| ND <| CF rfl rfl <| SK <| SQ <| SQ <| RG <| FA rfl tyF_impl_Conf_2 rfl <| LD (i := 1) rfl tyP_int rfl rfl rfl <| FA rfl tyF_impl_Conf_2 rfl <| LD (i := 0) rfl tyP_int rfl rfl rfl <| NS rfl rfl rfl <| ND <| CF rfl rfl <| SK <| SQ <| SQ <| RG <| FA rfl tyF_impl_Conf_3 rfl <| LD (i := 1) rfl tyP_int rfl rfl rfl <| FA rfl tyF_impl_Conf_3 rfl <| LD (i := 0) rfl tyP_int rfl rfl rfl <| NS rfl rfl rfl <| ?_
  refine ND <| CF rfl rfl <| SK <| SQ <| SQ <| RG <| FA rfl tyF_impl_Conf_4 rfl <| LD (i := 1) rfl tyP_int rfl rfl rfl <| FA rfl tyF_impl_Conf_4 rfl <| LD (i := 0) rfl tyP_int rfl rfl rfl <| NS rfl rfl rfl <| ND <| CF rfl rfl <| SK <| SQ <| SQ <| RG <| FA rfl tyF_impl_Conf_5 rfl <| LD (i := 1) rfl tyP_int rfl rfl rfl <| FA rfl tyF_impl_Conf_5 rfl <| LD (i := 0) rfl tyP_int rfl rfl rfl <| NS rfl rfl rfl <| ND <| CF rfl rfl <| SK <| SQ <| SQ <| RG <| FA rfl tyF_impl_Conf_6 rfl <| ?_
  refine LD (i := 1) rfl tyP_int rfl rfl rfl <| FA rfl tyF_impl_Conf_6 rfl <| LD (i := 0) rfl tyP_int rfl rfl rfl <| NS rfl rfl rfl <| ND <| CF rfl rfl <| SK <| SQ <| SQ <| RG <| FA rfl tyF_impl_Conf_7 rfl <| LD (i := 1) rfl tyP_int rfl rfl rfl <| FA rfl tyF_impl_Conf_7 rfl <| LD (i := 0) rfl tyP_int rfl rfl rfl <| NS rfl rfl rfl <| ND <| CF rfl rfl <| SK <| SQ <| RG <| AS rfl rfl <| ND <| ret_cv Try.func26 (res1 Try.func26 rfl (rv_tmp rfl)) <| ?_
  rfl

theorem law_FnExactDefaultConf  (w : World) : CV Try.prog 6 [] w (.bool true) := by
  refine cv_of Try.func6 rfl rfl rfl <| SQ <| RG <| AS rfl rfl <| ND <| SQ <| RG <| CV1 rfl fun_spec_DefaultConf rfl (fun w hs => spec_DefaultConf w) <| AL rfl tyZ_impl_Conf <| fun b1 => ST (i := 0) [_, _, _, _, _, _, _, _] [_, _, _, _, _, _, _, _] tyS_impl_Conf.sz rfl rfl rfl rfl rfl rfl rfl rfl <| ND <| SQ <| RG <| CV1 rfl fun_impl_DefaultConf rfl (fun w hs => impl_DefaultConf w) <| AL rfl tyZ_impl_Conf <| fun b2 => ST (i := 0) [_, _, _, _, _, _, _, _] [_, _, _, _, _, _, _, _] tyS_impl_Conf.sz rfl rfl rfl rfl rfl rfl rfl rfl <| ?_
  refine ND <| SQ <| SQ <| RG <| LS (i := 0) [_, _, _, _, _, _, _, _] rfl tyS_impl_Conf rfl rfl rfl rfl <| LS (i := 1) [_, _, _, _, _, _, _, _] rfl tyS_impl_Conf rfl rfl rfl rfl <| CV1 rfl fun_laws_eqConf rfl (fun w hs => laws_eqConf _ w) <| NT rfl rfl <| ND <| CF rfl rfl <| SK <| SQ <| RG <| AS rfl rfl <| ND <| ret_cv Try.func6 (res1 Try.func6 rfl (rv_tmp rfl)) <| ?_
  rfl

theorem laws_toIntS {w : World} {v : Value} {l : List Int} (hv : RdS w 1 (Pl intC) v l) (hb : l.length ≤ 134217728) : CN Try.prog 28 [v] w (fun v ch => OwS 3 1 (PlO intC) v l ch) := by
  obtain ⟨A, c, rfl, hA⟩ := hv
  refine cn_of Try.func28 rfl rfl rfl <| SQ <| RG <| AS rfl rfl <| ND <| SQ <| RG <| MV rfl rfl <| rw_len rfl tyE_S_int rfl <| rw_make rfl tyM_S_int rfl rfl hb <| fun b1 => AS rfl rfl <| ND <| SQ <| SQ <| RG <| AS rfl rfl <| ND <| BK <| ?_
  refine gw_loopX (α := Nat × List Value × List Ck) (fun x => x.1 ≤ l.length ∧ Ows (PlO intC) (l.take x.1) x.2.1 x.2.2) (fun x => l.length - x.1) (fun e x => (4, .int .i64 (x.1 : Int)) :: e) (fun B x => B.set 0 ⟨b1, 3, x.2.1 ++ (List.replicate (l.length - x.1) [.int .i64 0]).flatten⟩) (fun F x => x.2.2 ++ F) (0, [], []) [(0, _), (2, _), (3, _)] (Sub.consE rfl rfl (Sub.cons (i := 0) rfl (Sub.cons (i := 2) rfl (Sub.cons (i := 3) rfl (Sub.nil _))))) rfl rfl ?_ ?_
  · exact ⟨Nat.zero_le _, .nil⟩
  · rintro ⟨i, cs, chs⟩ hI1 ih1
    dsimp only at hI1
    dsimp only [List.set]
    obtain ⟨hle, hO⟩ := hI1
    refine SQ <| SQ <| RG <| MV rfl rfl <| MV rfl rfl <| rw_len rfl tyE_S_int rfl <| rw_lss rfl rfl rfl <| ND <| ?_
    refine gw_cond rfl (fun h1 => ?_) (fun h1 => ?_)
    · have hi2 := lt_of_dec h1
      obtain ⟨x3, hx3⟩ := get_of_lt hi2
      have hd3 := drop_cons hx3
      refine SK <| SQ <| BK <| RG <| MV rfl rfl <| MV rfl rfl <| MV rfl rfl <| MV rfl rfl <| ?_
      have hq4 := hA.plain hx3
      refine rw_indexAddr (i) rfl tyE_S_int rfl rfl rfl (hA.some hi2) hi2 <| rw_loadX _ rfl tyP_int rfl (fun w hs => hq4.ld0 hs rfl) <| rw_indexAddrO (i) rfl tyE_S_int rfl rfl rfl hi2 <| rw_storeMade (j := 0) [_] tyP_int.sz rfl rfl rfl rfl rfl rfl (by rw [hO.length eInt, List.length_take]; congr 1; omega) hi2 (eInt.one ⟨rfl, rfl⟩) <| ND <| IB <| RG <| MV rfl rfl <| rw_add rfl rfl rfl <| AS rfl rfl <| ND <| ?_
      refine gw_sub (Sub.consE (i := 4) rfl (int_succ (by omega)) (Sub.cons (i := 0) rfl (Sub.cons (i := 2) rfl (Sub.cons (i := 3) rfl (Sub.nil _))))) (ih1 (i + 1, cs ++ (intC x3), chs) ?_ ?_)
      · exact ⟨by omega, by simpa using ows_step hO hx3 (ch := []) ⟨rfl, rfl⟩⟩
      · show l.length - (i + 1) < l.length - i; omega
    · have hn5 := nil_of_dec h1
      refine EX rfl <| SQ <| RG <| MV rfl rfl <| AS rfl rfl <| ND <| ?_
      refine ret_cn (⟨b1, 3, cs ++ (List.replicate (l.length - i) [.int .i64 0]).flatten⟩ :: chs) Try.func28 (res1 Try.func28 rfl (rv_tmp rfl)) ?_ ?_
      · exact ows_made eInt hO hle hn5 hb
      · simp

theorem spec_TurnsOf {w : World} {v : Value} {l : List Int} (hv : RdS w 1 (Pl intC) v l) (hb : l.length ≤ 134217728) (id : Int) : CV Try.prog 27 [v, .int .i64 id] w (.int .i64 (turnsOf l id)) := by
  obtain ⟨A, c, rfl, hA⟩ := hv
  refine cv_of Try.func27 rfl rfl rfl <| SQ <| RG <| AS rfl rfl <| ND <| SQ <| RG <| AS rfl rfl <| ND <| SQ <| SQ <| RG <| AS rfl rfl <| ND <| BK <| ?_
  refine gw_loopC (α := Nat × Int) (fun x => x.1 ≤ l.length ∧ (0 ≤ x.2 ∧ x.2 ≤ x.1) ∧ turnsOf l id = turnsFrom id x.2 (l.drop x.1)) (fun x => l.length - x.1) (fun e x => (6, .int .i64 (x.1 : Int)) :: (5, .int .i64 x.2) :: e) (0, 0) [(0, _), (1, _), (4, _)] (Sub.consE rfl rfl (Sub.consE rfl rfl (Sub.cons (i := 0) rfl (Sub.cons (i := 1) rfl (Sub.cons (i := 4) rfl (Sub.nil _)))))) ?_ ?_
  · exact ⟨Nat.zero_le _, by omega, rfl⟩
  · rintro ⟨i, n⟩ hI1 ih1
    dsimp only at hI1
    dsimp only
    obtain ⟨hle, hn, hI⟩ := hI1
    refine SQ <| SQ <| RG <| MV rfl rfl <| MV rfl rfl <| rw_len rfl tyE_S_int rfl <| rw_lss rfl rfl rfl <| ND <| ?_
    refine gw_cond rfl (fun h1 => ?_) (fun h1 => ?_)
    · have hi2 := lt_of_dec h1
      obtain ⟨x3, hx3⟩ := get_of_lt hi2
      have hd3 := drop_cons hx3
      refine SK <| SQ <| BK <| SQ <| RG <| MV rfl rfl <| MV rfl rfl <| ?_
      have hq4 := hA.plain hx3
      refine rw_indexAddr (i) rfl tyE_S_int rfl rfl rfl (hA.some hi2) hi2 <| rw_loadX _ rfl tyP_int rfl (fun w hs => hq4.ld0 hs rfl) <| MV rfl rfl <| EQ1 rfl rfl rfl <| ND <| ?_
      refine gw_cond rfl (fun h2 => ?_) (fun h2 => ?_)
      · refine RG <| MV rfl rfl <| rw_add rfl rfl rfl <| AS rfl rfl <| ND <| IB <| RG <| MV rfl rfl <| rw_add rfl rfl rfl <| AS rfl rfl <| ND <| ?_
        refine gw_sub (Sub.consE (i := 6) rfl (int_succ (by omega)) (Sub.consE (i := 5) rfl rfl (Sub.cons (i := 0) rfl (Sub.cons (i := 1) rfl (Sub.cons (i := 4) rfl (Sub.nil _)))))) (ih1 (i + 1, w64 (n + 1)) ?_ ?_)
        · exact ⟨by omega, turns_bounds hn (by omega) true, by rw [hI, hd3]; simp [turnsFrom, h2]⟩
        · show l.length - (i + 1) < l.length - i; omega
      · refine SK <| IB <| RG <| MV rfl rfl <| rw_add rfl rfl rfl <| AS rfl rfl <| ND <| ?_
        refine gw_sub (Sub.consE (i := 6) rfl (int_succ (by omega)) (Sub.consE (i := 5) rfl rfl (Sub.cons (i := 0) rfl (Sub.cons (i := 1) rfl (Sub.cons (i := 4) rfl (Sub.nil _)))))) (ih1 (i + 1, n) ?_ ?_)
        · exact ⟨by omega, by omega, by rw [hI, hd3]; simp [turnsFrom, h2]⟩
        · show l.length - (i + 1) < l.length - i; omega
    · have hn5 := nil_of_dec h1
      refine EX rfl <| SQ <| RG <| MV rfl rfl <| AS rfl rfl <| ND <| ret_cv Try.func27 (res1 Try.func27 rfl (rv_tmp rfl)) <| ?_
      rw [hI, hn5]; rfl

theorem impl_one (b : Bool) (w : World) : CV Try.prog 59 [.bool b] w (.int .i64 (one b)) := by
  refine cv_of Try.func59 rfl rfl rfl <| SQ <| RG <| AS rfl rfl <| ND <| SQ <| SQ <| RG <| MV rfl rfl <| ND <| ?_
  refine gw_cond rfl (fun h1 => ?_) (fun h1 => ?_)
  · refine SQ <| RG <| AS rfl rfl <| ND <| ret_cv Try.func59 (res1 Try.func59 rfl (rv_tmp rfl)) <| ?_
    simp only [one, h1] <;> rfl
  · refine SK <| SQ <| RG <| AS rfl rfl <| ND <| ret_cv Try.func59 (res1 Try.func59 rfl (rv_tmp rfl)) <| ?_
    simp only [one, h1] <;> rfl

theorem impl_TurnsOf {w : World} {v : Value} {l : List Int} (hv : RdS w 1 (Pl intC) v l) (hb : l.length ≤ 134217728) (id : Int) : CV Try.prog 29 [v, .int .i64 id] w (.int .i64 (turnsOf l id)) := by
  obtain ⟨A, c, rfl, hA⟩ := hv
  refine cv_of Try.func29 rfl rfl rfl <| SQ <| RG <| AS rfl rfl <| ND <| SQ <| RG <| AS rfl rfl <| ND <| SQ <| SQ <| RG <| MV rfl rfl <| rw_len rfl tyE_S_int rfl <| MV rfl rfl <| ND <| BK <| ?_
  refine gw_loopC (α := Nat × Int) (fun x => x.1 ≤ l.length ∧ (0 ≤ x.2 ∧ x.2 ≤ x.1) ∧ turnsOf l id = turnsFrom id x.2 (l.drop x.1)) (fun x => l.length - x.1) (fun e x => (10, .int .i64 (x.1 : Int)) :: (5, .int .i64 x.2) :: e) (0, 0) [(1, _), (4, _), (8, _), (9, _)] (Sub.consE rfl rfl (Sub.consE rfl rfl (Sub.cons (i := 1) rfl (Sub.cons (i := 4) rfl (Sub.cons (i := 8) rfl (Sub.cons (i := 9) rfl (Sub.nil _))))))) ?_ ?_
  · exact ⟨Nat.zero_le _, by omega, rfl⟩
  · rintro ⟨i, n⟩ hI1 ih1
    dsimp only at hI1
    dsimp only
    obtain ⟨hle, hn, hI⟩ := hI1
    refine SQ <| RG <| rw_lss rfl rfl rfl <| ND <| SQ <| ?_
    refine gw_cond rfl (fun h1 => ?_) (fun h1 => ?_)
    · have hi2 := lt_of_dec h1
      obtain ⟨x3, hx3⟩ := get_of_lt hi2
      have hd3 := drop_cons hx3
      refine SK <| SQ <| BK <| SQ <| RG <| ?_
      have hq4 := hA.plain hx3
      refine rw_indexAddr (i) rfl tyE_S_int rfl rfl rfl (hA.some hi2) hi2 <| rw_loadX _ rfl tyP_int rfl (fun w hs => hq4.ld0 hs rfl) <| AS rfl rfl <| ND <| RG <| MV rfl rfl <| MV rfl rfl <| MV rfl rfl <| EQ1 rfl rfl rfl <| CV1 rfl fun_impl_one rfl (fun w hs => impl_one _ w) <| rw_add rfl rfl rfl <| AS rfl rfl <| ND <| IB <| RG <| rw_add rfl rfl rfl <| MV rfl rfl <| ND <| ?_
      refine gw_sub (Sub.consE (i := 10) rfl (int_succ (by omega)) (Sub.consE (i := 5) rfl rfl (Sub.cons (i := 1) rfl (Sub.cons (i := 4) rfl (Sub.cons (i := 8) rfl (Sub.cons (i := 9) rfl (Sub.nil _))))))) (ih1 (i + 1, w64 (n + one (x3 == id))) ?_ ?_)
      · exact ⟨by omega, turns_bounds hn (by omega) _, by rw [hI, hd3]; exact turns_step _ _ _ _ hn (by omega)⟩
      · show l.length - (i + 1) < l.length - i; omega
    · have hn5 := nil_of_dec h1
      refine EX rfl <| SQ <| RG <| MV rfl rfl <| AS rfl rfl <| ND <| ret_cv Try.func29 (res1 Try.func29 rfl (rv_tmp rfl)) <| ?_
      rw [hI, hn5]; rfl

theorem laws_eqIntS {w : World} {v : Value} {l : List Int} (hv : RdS w 1 (Pl intC) v l) (hb : l.length ≤ 134217728) {v1 : Value} (hv1 : RdS w 1 (Pl intC) v1 l) : CV Try.prog 30 [v, v1] w (.bool true) := by
  obtain ⟨A, c, rfl, hA⟩ := hv
  obtain ⟨A1, c1, rfl, hA1⟩ := hv1
  refine cv_of Try.func30 rfl rfl rfl <| SQ <| RG <| AS rfl rfl <| ND <| SQ <| SQ <| RG <| MV rfl rfl <| rw_len rfl tyE_S_int rfl <| MV rfl rfl <| rw_len rfl tyE_S_int rfl <| NS rfl rfl rfl <| ND <| CF rfl rfl <| SK <| SQ <| SQ <| RG <| AS rfl rfl <| ND <| BK <| ?_
  refine gw_loopC (α := Nat) (fun x => x ≤ l.length) (fun x => l.length - x) (fun e x => (5, .int .i64 (x : Int)) :: e) 0 [(0, _), (1, _)] (Sub.consE rfl rfl (Sub.cons (i := 0) rfl (Sub.cons (i := 1) rfl (Sub.nil _)))) ?_ ?_
  · exact Nat.zero_le _
  · rintro i hI1 ih1
    try dsimp only
    have hle := hI1
    refine SQ <| SQ <| RG <| MV rfl rfl <| MV rfl rfl <| rw_len rfl tyE_S_int rfl <| rw_lss rfl rfl rfl <| ND <| ?_
    refine gw_cond rfl (fun h1 => ?_) (fun h1 => ?_)
    · have hi2 := lt_of_dec h1
      obtain ⟨x3, hx3⟩ := get_of_lt hi2
      have hd3 := drop_cons hx3
      refine SK <| SQ <| BK <| SQ <| gw_draw' [(0, .det), (1, .det), (2, .det), (3, .det), (4, .det), (5, .det), (6, .det), (7, .det)] [8] mixed rfl (free_det (free_det (free_det (free_det (free_det (free_det (free_det (free_det free_nil)))))))) (ts := [_]) rfl <| DT rfl rfl (fun K hk => MV rfl rfl hk) <| DT rfl rfl (fun K hk => MV rfl rfl hk) <| ?_
      have hq4 := hA.plain hx3
      refine DT rfl rfl (fun K hk => rw_indexAddr (i) rfl tyE_S_int rfl rfl rfl (hA.some hi2) hi2 hk) <| DT rfl rfl (fun K hk => rw_loadX _ rfl tyP_int rfl (fun w hs => hq4.ld0 hs rfl) hk) <| DT rfl rfl (fun K hk => MV rfl rfl hk) <| DT rfl rfl (fun K hk => MV rfl rfl hk) <| ?_
      have hq5 := hA1.plain hx3
      refine DT rfl rfl (fun K hk => rw_indexAddr (i) rfl tyE_S_int rfl rfl rfl (hA1.some hi2) hi2 hk) <| DT rfl rfl (fun K hk => rw_loadX _ rfl tyP_int rfl (fun w hs => hq5.ld0 hs rfl) hk) <| dw_nil <| NS rfl rfl rfl <| ND <| CF rfl rfl <| SK <| IB <| RG <| MV rfl rfl <| rw_add rfl rfl rfl <| AS rfl rfl <| ND <| ?_
      refine gw_sub (Sub.consE (i := 5) rfl (int_succ (by omega)) (Sub.cons (i := 0) rfl (Sub.cons (i := 1) rfl (Sub.nil _)))) (ih1 (i + 1) ?_ ?_)
      · omega
      · show l.length - (i + 1) < l.length - i; omega
    · have hn6 := nil_of_dec h1
      refine EX rfl <| SQ <| RG <| AS rfl rfl <| ND <| ret_cv Try.func30 (res1 Try.func30 rfl (rv_tmp rfl)) <| ?_
      rfl

theorem law_FnExactTurnsOf {w : World} {v : Value} {l : List Int} (hv : RdS w 1 (Pl intC) v l) (hb : l.length ≤ 9223372036854775807) (id : Int) : CV Try.prog 7 [v, .int .i64 id] w (.bool true) := by
  obtain ⟨A, c, rfl, hA⟩ := hv
  refine cv_of Try.func7 rfl rfl rfl <| SQ <| RG <| AS rfl rfl <| ND <| SQ <| SQ <| RG <| MV rfl rfl <| rw_len rfl tyE_S_int rfl <| rw_gtr rfl rfl rfl <| ND <| ?_
  refine gw_cond rfl (fun h1 => ?_) (fun h1 => ?_)
  · refine SQ <| RG <| AS rfl rfl <| ND <| ret_cv Try.func7 (res1 Try.func7 rfl (rv_tmp rfl)) <| ?_
    rfl
  · have hle1 : l.length ≤ 1048576 := le_of_dec h1
    refine SK <| SQ <| RG <| MV rfl rfl <| CN1 rfl fun_laws_toIntS rfl (fun w hs => laws_toIntS (hA.s Pl.keeps hs) (by omega)) <| fun v2 ch2 how2 => MV rfl rfl <| CV1 rfl fun_spec_TurnsOf rfl (fun w hs => spec_TurnsOf (how2.rdH eInt hs (fun c hc => List.mem_append_right _ (List.mem_append_left _ hc))) (by omega) _) <| AS rfl rfl <| ND <| SQ <| RG <| MV rfl rfl <| CN1 rfl fun_laws_toIntS rfl (fun w hs => laws_toIntS (hA.s Pl.keeps hs) (by omega)) <| fun v3 ch3 how3 => AS rfl rfl <| ND <| SQ <| RG <| MV rfl rfl <| MV rfl rfl <| CV1 rfl fun_impl_TurnsOf rfl (fun w hs => impl_TurnsOf (how3.rdH eInt hs (fun c hc => List.mem_append_right _ (List.mem_append_left _ hc))) (by omega) _) <| ?_
    refine AS rfl rfl <| ND <| SQ <| SQ <| RG <| MV rfl rfl <| MV rfl rfl <| NS rfl rfl rfl <| ND <| CF rfl rfl <| SK <| SQ <| SQ <| RG <| MV rfl rfl <| MV rfl rfl <| CN1 rfl fun_laws_toIntS rfl (fun w hs => laws_toIntS (hA.s Pl.keeps hs) (by omega)) <| fun v4 ch4 how4 => CV1 rfl fun_laws_eqIntS rfl (fun w hs => laws_eqIntS (how3.rdH eInt hs (fun c hc => List.mem_append_right _ (List.mem_append_right _ (List.mem_append_left _ hc)))) (by omega) (how4.rdH eInt hs (fun c hc => List.mem_append_right _ (List.mem_append_left _ hc)))) <| NT rfl rfl <| ?_
    refine ND <| CF rfl rfl <| SK <| SQ <| RG <| AS rfl rfl <| ND <| ret_cv Try.func7 (res1 Try.func7 rfl (rv_tmp rfl)) <| ?_
    rfl

theorem laws_toAllow (a : Allow) (w : World) : CV Try.prog 32 [.agg a.cells.toArray] w (.agg a.cells.toArray) := by
  refine cv_of Try.func32 rfl rfl rfl <| SQ <| RG <| BX [_, _, _, _] rfl rfl rfl <| fun b1 => AL rfl tyZ_impl_Allow <| fun b2 => ND <| SQ <| RG <| AL rfl tyZ_impl_Allow <| fun b3 => ND <| SQ <| RG <| FA rfl tyF_laws_Allow_0 rfl <| LD (i := 2) rfl tyP_int rfl rfl rfl <| FA rfl tyF_impl_Allow_0 rfl <| ST (i := 0) [_] [_, _, _, _] tyP_int.sz rfl rfl rfl rfl rfl rfl rfl rfl <| ND <| SQ <| RG <| FA rfl tyF_laws_Allow_1 rfl <| LD (i := 2) rfl tyP_int rfl rfl rfl <| FA rfl tyF_impl_Allow_1 rfl <| ?_
  refine ST (i := 0) [_] [_, _, _, _] tyP_int.sz rfl rfl rfl rfl rfl rfl rfl rfl <| ND <| SQ <| RG <| FA rfl tyF_laws_Allow_2 rfl <| LD (i := 2) rfl tyP_int rfl rfl rfl <| FA rfl tyF_impl_Allow_2 rfl <| ST (i := 0) [_] [_, _, _, _] tyP_int.sz rfl rfl rfl rfl rfl rfl rfl rfl <| ND <| SQ <| RG <| FA rfl tyF_laws_Allow_3 rfl <| LD (i := 2) rfl tyP_int rfl rfl rfl <| FA rfl tyF_impl_Allow_3 rfl <| ST (i := 0) [_] [_, _, _, _] tyP_int.sz rfl rfl rfl rfl rfl rfl rfl rfl <| ND <| SQ <| RG <| ?_
  refine LS (i := 0) [_, _, _, _] rfl tyS_impl_Allow rfl rfl rfl rfl <| ST (i := 1) [_, _, _, _] [_, _, _, _] tyS_impl_Allow.sz rfl rfl rfl rfl rfl rfl rfl rfl <| ND <| ret_cv Try.func32 (res1 Try.func32 rfl (rv_s (i := 1) [_, _, _, _] tyS_impl_Allow rfl rfl rfl rfl)) <| ?_
  rfl

theorem spec_IsAllow (a : Allow) (w : World) : CV Try.prog 60 [.agg a.cells.toArray] w (.bool (isAllow a)) := by
  refine cv_of Try.func60 rfl rfl rfl <| SQ <| RG <| BX [_, _, _, _] rfl rfl rfl <| fun b1 => AS rfl rfl <| ND <| SQ <| RG <| FA rfl tyF_impl_Allow_0 rfl <| LD (i := 0) rfl tyP_int rfl rfl rfl <| CV1 rfl fun_spec_l1In rfl (fun w hs => spec_l1In _ _ _ w) <| MV rfl rfl <| ?_
  refine rw_case (j := 6) rfl (fun h1 => ?_) (fun h1 => ?_)
  · refine ON rfl rfl h1 <| FA rfl tyF_impl_Allow_1 rfl <| ON rfl rfl h1 <| LD (i := 0) rfl tyP_int rfl rfl rfl <| ON rfl rfl h1 <| FA rfl tyF_impl_Allow_0 rfl <| ON rfl rfl h1 <| LD (i := 0) rfl tyP_int rfl rfl rfl <| ON rfl rfl h1 <| CV1 rfl fun_spec_l1In rfl (fun w hs => spec_l1In _ _ _ w) <| PT rfl rfl h1 rfl <| MV rfl rfl <| ?_
    refine rw_case (j := 13) rfl (fun h2 => ?_) (fun h2 => ?_)
    · refine ON rfl rfl h2 <| FA rfl tyF_impl_Allow_2 rfl <| ON rfl rfl h2 <| LD (i := 0) rfl tyP_int rfl rfl rfl <| ON rfl rfl h2 <| FA rfl tyF_impl_Allow_1 rfl <| ON rfl rfl h2 <| LD (i := 0) rfl tyP_int rfl rfl rfl <| ON rfl rfl h2 <| CV1 rfl fun_spec_l1In rfl (fun w hs => spec_l1In _ _ _ w) <| PT rfl rfl h2 rfl <| MV rfl rfl <| ?_
      refine rw_case (j := 20) rfl (fun h3 => ?_) (fun h3 => ?_)
      · refine ON rfl rfl h3 <| FA rfl tyF_impl_Allow_3 rfl <| ON rfl rfl h3 <| LD (i := 0) rfl tyP_int rfl rfl rfl <| ON rfl rfl h3 <| FA rfl tyF_impl_Allow_2 rfl <| ON rfl rfl h3 <| LD (i := 0) rfl tyP_int rfl rfl rfl <| ON rfl rfl h3 <| CV1 rfl fun_spec_l1In rfl (fun w hs => spec_l1In _ _ _ w) <| PT rfl rfl h3 rfl <| MV rfl rfl <| ?_
        refine rw_case (j := 27) rfl (fun h4 => ?_) (fun h4 => ?_)
        · refine ON rfl rfl h4 <| FA rfl tyF_impl_Allow_1 rfl <| ON rfl rfl h4 <| LD (i := 0) rfl tyP_int rfl rfl rfl <| ON rfl rfl h4 <| FA rfl tyF_impl_Allow_3 rfl <| ON rfl rfl h4 <| LD (i := 0) rfl tyP_int rfl rfl rfl <| ON rfl rfl h4 <| FA rfl tyF_impl_Allow_0 rfl <| ON rfl rfl h4 <| LD (i := 0) rfl tyP_int rfl rfl rfl <| ON rfl rfl h4 <| rw_add rfl rfl rfl <| ON rfl rfl h4 <| rw_leq rfl rfl rfl <| PT rfl rfl h4 rfl <| AS rfl rfl <| ND <| ret_cv Try.func60 (res1 Try.func60 rfl (rv_tmp rfl)) <| ?_
          simp only [isAllow, h1, h2, h3, h4] <;> rfl
        · refine OF rfl rfl h4 rfl <| OF rfl rfl h4 rfl <| OF rfl rfl h4 rfl <| OF rfl rfl h4 rfl <| OF rfl rfl h4 rfl <| OF rfl rfl h4 rfl <| OF rfl rfl h4 rfl <| OF rfl rfl h4 rfl <| PF rfl rfl h4 rfl <| AS rfl rfl <| ND <| ret_cv Try.func60 (res1 Try.func60 rfl (rv_tmp rfl)) <| ?_
          simp only [isAllow, h1, h2, h3, h4] <;> rfl
      · refine OF rfl rfl h3 rfl <| OF rfl rfl h3 rfl <| OF rfl rfl h3 rfl <| OF rfl rfl h3 rfl <| OF rfl rfl h3 rfl <| PF rfl rfl h3 rfl <| MV rfl rfl <| OF rfl rfl rfl rfl <| OF rfl rfl rfl rfl <| OF rfl rfl rfl rfl <| OF rfl rfl rfl rfl <| OF rfl rfl rfl rfl <| OF rfl rfl rfl rfl <| OF rfl rfl rfl rfl <| OF rfl rfl rfl rfl <| PF rfl rfl rfl rfl <| AS rfl rfl <| ND <| ret_cv Try.func60 (res1 Try.func60 rfl (rv_tmp rfl)) <| ?_
        simp only [isAllow, h1, h2, h3] <;> rfl
    · refine OF rfl rfl h2 rfl <| OF rfl rfl h2 rfl <| OF rfl rfl h2 rfl <| OF rfl rfl h2 rfl <| OF rfl rfl h2 rfl <| PF rfl rfl h2 rfl <| MV rfl rfl <| OF rfl rfl rfl rfl <| OF rfl rfl rfl rfl <| OF rfl rfl rfl rfl <| OF rfl rfl rfl rfl <| OF rfl rfl rfl rfl <| PF rfl rfl rfl rfl <| MV rfl rfl <| OF rfl rfl rfl rfl <| OF rfl rfl rfl rfl <| OF rfl rfl rfl rfl <| OF rfl rfl rfl rfl <| OF rfl rfl rfl rfl <| OF rfl rfl rfl rfl <| OF rfl rfl rfl rfl <| ?_
      refine OF rfl rfl rfl rfl <| PF rfl rfl rfl rfl <| AS rfl rfl <| ND <| ret_cv Try.func60 (res1 Try.func60 rfl (rv_tmp rfl)) <| ?_
      simp only [isAllow, h1, h2] <;> rfl
  · refine OF rfl rfl h1 rfl <| OF rfl rfl h1 rfl <| OF rfl rfl h1 rfl <| OF rfl rfl h1 rfl <| OF rfl rfl h1 rfl <| PF rfl rfl h1 rfl <| MV rfl rfl <| OF rfl rfl rfl rfl <| OF rfl rfl rfl rfl <| OF rfl rfl rfl rfl <| OF rfl rfl rfl rfl <| OF rfl rfl rfl rfl <| PF rfl rfl rfl rfl <| MV rfl rfl <| OF rfl rfl rfl rfl <| OF rfl rfl rfl rfl <| OF rfl rfl rfl rfl <| OF rfl rfl rfl rfl <| OF rfl rfl rfl rfl <| PF rfl rfl rfl rfl <| MV rfl rfl <| ?_
    refine OF rfl rfl rfl rfl <| OF rfl rfl rfl rfl <| OF rfl rfl rfl rfl <| OF rfl rfl rfl rfl <| OF rfl rfl rfl rfl <| OF rfl rfl rfl rfl <| OF rfl rfl rfl rfl <| OF rfl rfl rfl rfl <| PF rfl rfl rfl rfl <| AS rfl rfl <| ND <| ret_cv Try.func60 (res1 Try.func60 rfl (rv_tmp rfl)) <| ?_
    simp only [isAllow, h1] <;> rfl

theorem spec_CloseOne (a : Allow) (w : World) : CV Try.prog 31 [.agg a.cells.toArray] w (.tuple #[.agg (closeOne a).1.cells.toArray, .bool (closeOne a).2]) := by
  refine cv_of Try.func31 rfl rfl rfl <| SQ <| RG <| BX [_, _, _, _] rfl rfl rfl <| fun b1 => AL rfl tyZ_impl_Allow <| fun b2 => AS rfl rfl <| ND <| SQ <| SQ <| RG <| LS (i := 1) [_, _, _, _] rfl tyS_impl_Allow rfl rfl rfl rfl <| CV1 rfl fun_spec_IsAllow rfl (fun w hs => spec_IsAllow _ w) <| NT rfl rfl <| MV rfl rfl <| ?_
  refine rw_case (j := 7) rfl (fun h1 => ?_) (fun h1 => ?_)
  · replace h1 := of_not_T h1
    refine OF rfl rfl (not_F h1) rfl <| OF rfl rfl (not_F h1) rfl <| OF rfl rfl (not_F h1) rfl <| OF rfl rfl (not_F h1) rfl <| OF rfl rfl (not_F h1) rfl <| PT rfl rfl (not_F h1) rfl <| ND <| CT rfl rfl <| SQ <| RG <| LS (i := 1) [_, _, _, _] rfl tyS_impl_Allow rfl rfl rfl rfl <| ST (i := 0) [_, _, _, _] [_, _, _, _] tyS_impl_Allow.sz rfl rfl rfl rfl rfl rfl rfl rfl <| AS rfl rfl <| ND <| ret_cv Try.func31 (res2 Try.func31 rfl (rv_s (i := 0) [_, _, _, _] tyS_impl_Allow rfl rfl rfl rfl) (rv_tmp rfl)) <| ?_
    simp only [closeOne, h1] <;> rfl
  · replace h1 := of_not_F h1
    refine ON rfl rfl (not_T h1) <| FA rfl tyF_impl_Allow_3 rfl <| ON rfl rfl (not_T h1) <| LD (i := 1) rfl tyP_int rfl rfl rfl <| ON rfl rfl (not_T h1) <| FA rfl tyF_impl_Allow_2 rfl <| ON rfl rfl (not_T h1) <| LD (i := 1) rfl tyP_int rfl rfl rfl <| ON rfl rfl (not_T h1) <| EQ1 rfl rfl rfl <| PF rfl rfl (not_T h1) rfl <| ND <| ?_
    refine gw_cond rfl (fun h2 => ?_) (fun h2 => ?_)
    · refine SQ <| RG <| LS (i := 1) [_, _, _, _] rfl tyS_impl_Allow rfl rfl rfl rfl <| ST (i := 0) [_, _, _, _] [_, _, _, _] tyS_impl_Allow.sz rfl rfl rfl rfl rfl rfl rfl rfl <| AS rfl rfl <| ND <| ret_cv Try.func31 (res2 Try.func31 rfl (rv_s (i := 0) [_, _, _, _] tyS_impl_Allow rfl rfl rfl rfl) (rv_tmp rfl)) <| ?_
      simp only [closeOne, h1, h2] <;> rfl
    · refine SK <| SQ <| RG <| FA rfl tyF_impl_Allow_3 rfl <| LD (i := 1) rfl tyP_int rfl rfl rfl <| rw_add rfl rfl rfl <| FA rfl tyF_impl_Allow_3 rfl <| ST (i := 1) [_] [_, _, _, _] tyP_int.sz rfl rfl rfl rfl rfl rfl rfl rfl <| ND <| SQ <| RG <| LS (i := 1) [_, _, _, _] rfl tyS_impl_Allow rfl rfl rfl rfl <| ST (i := 0) [_, _, _, _] [_, _, _, _] tyS_impl_Allow.sz rfl rfl rfl rfl rfl rfl rfl rfl <| AS rfl rfl <| ND <| ret_cv Try.func31 (res2 Try.func31 rfl (rv_s (i := 0) [_, _, _, _] tyS_impl_Allow rfl rfl rfl rfl) (rv_tmp rfl)) <| ?_
      simp only [closeOne, h1, h2] <;> rfl

theorem impl_IsAllow (a : Allow) (w : World) : CV Try.prog 61 [.agg a.cells.toArray] w (.bool (isAllow a)) := by
  refine cv_of Try.func61 rfl rfl rfl <| SQ <| RG <| BX [_, _, _, _] rfl rfl rfl <| fun b1 => AS rfl rfl <| ND <| SQ <| RG <| FA rfl tyF_impl_Allow_0 rfl <| LD (i := 0) rfl tyP_int rfl rfl rfl <| CV1 rfl fun_impl_within rfl (fun w hs => impl_within _ _ _ w) <| MV rfl rfl <| ?_
  refine rw_case (j := 6) rfl (fun h1 => ?_) (fun h1 => ?_)
  · refine ON rfl rfl h1 <| FA rfl tyF_impl_Allow_1 rfl <| ON rfl rfl h1 <| LD (i := 0) rfl tyP_int rfl rfl rfl <| ON rfl rfl h1 <| FA rfl tyF_impl_Allow_0 rfl <| ON rfl rfl h1 <| LD (i := 0) rfl tyP_int rfl rfl rfl <| ON rfl rfl h1 <| CV1 rfl fun_impl_within rfl (fun w hs => impl_within _ _ _ w) <| PT rfl rfl h1 rfl <| MV rfl rfl <| ?_
    refine rw_case (j := 13) rfl (fun h2 => ?_) (fun h2 => ?_)
    · refine ON rfl rfl h2 <| FA rfl tyF_impl_Allow_2 rfl <| ON rfl rfl h2 <| LD (i := 0) rfl tyP_int rfl rfl rfl <| ON rfl rfl h2 <| FA rfl tyF_impl_Allow_1 rfl <| ON rfl rfl h2 <| LD (i := 0) rfl tyP_int rfl rfl rfl <| ON rfl rfl h2 <| CV1 rfl fun_impl_within rfl (fun w hs => impl_within _ _ _ w) <| PT rfl rfl h2 rfl <| MV rfl rfl <| ?_
      refine rw_case (j := 20) rfl (fun h3 => ?_) (fun h3 => ?_)
      · refine ON rfl rfl h3 <| FA rfl tyF_impl_Allow_3 rfl <| ON rfl rfl h3 <| LD (i := 0) rfl tyP_int rfl rfl rfl <| ON rfl rfl h3 <| FA rfl tyF_impl_Allow_2 rfl <| ON rfl rfl h3 <| LD (i := 0) rfl tyP_int rfl rfl rfl <| ON rfl rfl h3 <| CV1 rfl fun_impl_within rfl (fun w hs => impl_within _ _ _ w) <| PT rfl rfl h3 rfl <| MV rfl rfl <| ?_
        refine rw_case (j := 27) rfl (fun h4 => ?_) (fun h4 => ?_)
        · refine ON rfl rfl h4 <| FA rfl tyF_impl_Allow_1 rfl <| ON rfl rfl h4 <| LD (i := 0) rfl tyP_int rfl rfl rfl <| ON rfl rfl h4 <| FA rfl tyF_impl_Allow_3 rfl <| ON rfl rfl h4 <| LD (i := 0) rfl tyP_int rfl rfl rfl <| ON rfl rfl h4 <| FA rfl tyF_impl_Allow_0 rfl <| ON rfl rfl h4 <| LD (i := 0) rfl tyP_int rfl rfl rfl <| ON rfl rfl h4 <| rw_add rfl rfl rfl <| ON rfl rfl h4 <| rw_leq rfl rfl rfl <| PT rfl rfl h4 rfl <| AS rfl rfl <| ND <| ret_cv Try.func61 (res1 Try.func61 rfl (rv_tmp rfl)) <| ?_
          simp only [isAllow, h1, h2, h3, h4] <;> rfl
        · refine OF rfl rfl h4 rfl <| OF rfl rfl h4 rfl <| OF rfl rfl h4 rfl <| OF rfl rfl h4 rfl <| OF rfl rfl h4 rfl <| OF rfl rfl h4 rfl <| OF rfl rfl h4 rfl <| OF rfl rfl h4 rfl <| PF rfl rfl h4 rfl <| AS rfl rfl <| ND <| ret_cv Try.func61 (res1 Try.func61 rfl (rv_tmp rfl)) <| ?_
          simp only [isAllow, h1, h2, h3, h4] <;> rfl
      · refine OF rfl rfl h3 rfl <| OF rfl rfl h3 rfl <| OF rfl rfl h3 rfl <| OF rfl rfl h3 rfl <| OF rfl rfl h3 rfl <| PF rfl rfl h3 rfl <| MV rfl rfl <| OF rfl rfl rfl rfl <| OF rfl rfl rfl rfl <| OF rfl rfl rfl rfl <| OF rfl rfl rfl rfl <| OF rfl rfl rfl rfl <| OF rfl rfl rfl rfl <| OF rfl rfl rfl rfl <| OF rfl rfl rfl rfl <| PF rfl rfl rfl rfl <| AS rfl rfl <| ND <| ret_cv Try.func61 (res1 Try.func61 rfl (rv_tmp rfl)) <| ?_
        simp only [isAllow, h1, h2, h3] <;> rfl
    · refine OF rfl rfl h2 rfl <| OF rfl rfl h2 rfl <| OF rfl rfl h2 rfl <| OF rfl rfl h2 rfl <| OF rfl rfl h2 rfl <| PF rfl rfl h2 rfl <| MV rfl rfl <| OF rfl rfl rfl rfl <| OF rfl rfl rfl rfl <| OF rfl rfl rfl rfl <| OF rfl rfl rfl rfl <| OF rfl rfl rfl rfl <| PF rfl rfl rfl rfl <| MV rfl rfl <| OF rfl rfl rfl rfl <| OF rfl rfl rfl rfl <| OF rfl rfl rfl rfl <| OF rfl rfl rfl rfl <| OF rfl rfl rfl rfl <| OF rfl rfl rfl rfl <| OF rfl rfl rfl rfl <| ?_
      refine OF rfl rfl rfl rfl <| PF rfl rfl rfl rfl <| AS rfl rfl <| ND <| ret_cv Try.func61 (res1 Try.func61 rfl (rv_tmp rfl)) <| ?_
      simp only [isAllow, h1, h2] <;> rfl
  · refine OF rfl rfl h1 rfl <| OF rfl rfl h1 rfl <| OF rfl rfl h1 rfl <| OF rfl rfl h1 rfl <| OF rfl rfl h1 rfl <| PF rfl rfl h1 rfl <| MV rfl rfl <| OF rfl rfl rfl rfl <| OF rfl rfl rfl rfl <| OF rfl rfl rfl rfl <| OF rfl rfl rfl rfl <| OF rfl rfl rfl rfl <| PF rfl rfl rfl rfl <| MV rfl rfl <| OF rfl rfl rfl rfl <| OF rfl rfl rfl rfl <| OF rfl rfl rfl rfl <| OF rfl rfl rfl rfl <| OF rfl rfl rfl rfl <| PF rfl rfl rfl rfl <| MV rfl rfl <| ?_
    refine OF rfl rfl rfl rfl <| OF rfl rfl rfl rfl <| OF rfl rfl rfl rfl <| OF rfl rfl rfl rfl <| OF rfl rfl rfl rfl <| OF rfl rfl rfl rfl <| OF rfl rfl rfl rfl <| OF rfl rfl rfl rfl <| PF rfl rfl rfl rfl <| AS rfl rfl <| ND <| ret_cv Try.func61 (res1 Try.func61 rfl (rv_tmp rfl)) <| ?_
    simp only [isAllow, h1] <;> rfl

theorem impl_CloseOne (a : Allow) (w : World) : CV Try.prog 33 [.agg a.cells.toArray] w (.tuple #[.agg (closeOne a).1.cells.toArray, .bool (closeOne a).2]) := by
  refine cv_of Try.func33 rfl rfl rfl <| SQ <| RG <| BX [_, _, _, _] rfl rfl rfl <| fun b1 => AL rfl tyZ_impl_Allow <| fun b2 => AS rfl rfl <| ND <| SQ <| SQ <| RG <| LS (i := 1) [_, _, _, _] rfl tyS_impl_Allow rfl rfl rfl rfl <| CV1 rfl fun_impl_IsAllow rfl (fun w hs => impl_IsAllow _ w) <| NT rfl rfl <| MV rfl rfl <| ?_
  refine rw_case (j := 7) rfl (fun h1 => ?_) (fun h1 => ?_)
  · replace h1 := of_not_T h1
    refine OF rfl rfl (not_F h1) rfl <| OF rfl rfl (not_F h1) rfl <| OF rfl rfl (not_F h1) rfl <| OF rfl rfl (not_F h1) rfl <| OF rfl rfl (not_F h1) rfl <| PT rfl rfl (not_F h1) rfl <| ND <| CT rfl rfl <| SQ <| RG <| LS (i := 1) [_, _, _, _] rfl tyS_impl_Allow rfl rfl rfl rfl <| ST (i := 0) [_, _, _, _] [_, _, _, _] tyS_impl_Allow.sz rfl rfl rfl rfl rfl rfl rfl rfl <| AS rfl rfl <| ND <| ret_cv Try.func33 (res2 Try.func33 rfl (rv_s (i := 0) [_, _, _, _] tyS_impl_Allow rfl rfl rfl rfl) (rv_tmp rfl)) <| ?_
    simp only [closeOne, h1] <;> rfl
  · replace h1 := of_not_F h1
    refine ON rfl rfl (not_T h1) <| FA rfl tyF_impl_Allow_3 rfl <| ON rfl rfl (not_T h1) <| LD (i := 1) rfl tyP_int rfl rfl rfl <| ON rfl rfl (not_T h1) <| FA rfl tyF_impl_Allow_2 rfl <| ON rfl rfl (not_T h1) <| LD (i := 1) rfl tyP_int rfl rfl rfl <| ON rfl rfl (not_T h1) <| EQ1 rfl rfl rfl <| PF rfl rfl (not_T h1) rfl <| ND <| ?_
    refine gw_cond rfl (fun h2 => ?_) (fun h2 => ?_)
    · refine SQ <| RG <| LS (i := 1) [_, _, _, _] rfl tyS_impl_Allow rfl rfl rfl rfl <| ST (i := 0) [_, _, _, _] [_, _, _, _] tyS_impl_Allow.sz rfl rfl rfl rfl rfl rfl rfl rfl <| AS rfl rfl <| ND <| ret_cv Try.func33 (res2 Try.func33 rfl (rv_s (i := 0) [_, _, _, _] tyS_impl_Allow rfl rfl rfl rfl) (rv_tmp rfl)) <| ?_
      simp only [closeOne, h1, h2] <;> rfl
    · refine SK <| SQ <| RG <| FA rfl tyF_impl_Allow_3 rfl <| LD (i := 1) rfl tyP_int rfl rfl rfl <| rw_add rfl rfl rfl <| FA rfl tyF_impl_Allow_3 rfl <| ST (i := 1) [_] [_, _, _, _] tyP_int.sz rfl rfl rfl rfl rfl rfl rfl rfl <| ND <| SQ <| RG <| LS (i := 1) [_, _, _, _] rfl tyS_impl_Allow rfl rfl rfl rfl <| ST (i := 0) [_, _, _, _] [_, _, _, _] tyS_impl_Allow.sz rfl rfl rfl rfl rfl rfl rfl rfl <| AS rfl rfl <| ND <| ret_cv Try.func33 (res2 Try.func33 rfl (rv_s (i := 0) [_, _, _, _] tyS_impl_Allow rfl rfl rfl rfl) (rv_tmp rfl)) <| ?_
      simp only [closeOne, h1, h2] <;> rfl

theorem laws_eqAllow (a : Allow) (w : World) : CV Try.prog 34 [.agg a.cells.toArray, .agg a.cells.toArray] w (.bool true) := by
  refine cv_of Try.func34 rfl rfl rfl <| SQ <| RG <| BX [_, _, _, _] rfl rfl rfl <| fun b1 => BX [_, _, _, _] rfl rfl rfl <| fun b2 => AS rfl rfl <| ND <| SQ <| SQ <| RG <| FA rfl tyF_impl_Allow_0 rfl <| LD (i := 1) rfl tyP_int rfl rfl rfl <| FA rfl tyF_impl_Allow_0 rfl <| LD (i := 0) rfl tyP_int rfl rfl rfl <| NS rfl rfl rfl <| ND <| CF rfl rfl <| SK <| SQ <| SQ <| RG <| FA rfl tyF_impl_Allow_1 rfl <| LD (i := 1) rfl tyP_int rfl rfl rfl <| FA rfl tyF_impl_Allow_1 rfl <| ?_
  refine LD (i := 0) rfl tyP_int rfl rfl rfl <| NS rfl rfl rfl <| ND <| CF rfl rfl <| SK <| SQ <| SQ <| RG <| FA rfl tyF_impl_Allow_2 rfl <| LD (i := 1) rfl tyP_int rfl rfl rfl <| FA rfl tyF_impl_Allow_2 rfl <| LD (i := 0) rfl tyP_int rfl rfl rfl <| NS rfl rfl rfl <| ND <| CF rfl rfl <| SK <| SQ <| SQ <| RG <| FA rfl tyF_impl_Allow_3 rfl <| LD (i := 1) rfl tyP_int rfl rfl rfl <| FA rfl tyF_impl_Allow_3 rfl <| LD (i := 0) rfl tyP_int rfl rfl rfl <| NS rfl rfl rfl <| ?_
  refine ND <| CF rfl rfl <| SK <| SQ <| RG <| AS rfl rfl <| ND <| ret_cv Try.func34 (res1 Try.func34 rfl (rv_tmp rfl)) <| ?_
  rfl

theorem law_FnExactCloseOne (a : Allow) (w : World) : CV Try.prog 8 [.agg a.cells.toArray] w (.bool true) := by
  refine cv_of Try.func8 rfl rfl rfl <| SQ <| RG <| BX [_, _, _, _] rfl rfl rfl <| fun b1 => AS rfl rfl <| ND <| SQ <| RG <| LS (i := 0) [_, _, _, _] rfl tyS_laws_Allow rfl rfl rfl rfl <| CV1 rfl fun_laws_toAllow rfl (fun w hs => laws_toAllow _ w) <| CV1 rfl fun_spec_CloseOne rfl (fun w hs => spec_CloseOne _ w) <| MV rfl rfl <| XT rfl rfl rfl <| XT rfl rfl rfl <| AL rfl tyZ_impl_Allow <| fun b2 => ST (i := 0) [_, _, _, _] [_, _, _, _] tyS_impl_Allow.sz rfl rfl rfl rfl rfl rfl rfl rfl <| ?_
  refine AS rfl rfl <| ND <| SQ <| RG <| LS (i := 1) [_, _, _, _] rfl tyS_laws_Allow rfl rfl rfl rfl <| CV1 rfl fun_laws_toAllow rfl (fun w hs => laws_toAllow _ w) <| CV1 rfl fun_impl_CloseOne rfl (fun w hs => impl_CloseOne _ w) <| MV rfl rfl <| XT rfl rfl rfl <| XT rfl rfl rfl <| AL rfl tyZ_impl_Allow <| fun b3 => ST (i := 0) [_, _, _, _] [_, _, _, _] tyS_impl_Allow.sz rfl rfl rfl rfl rfl rfl rfl rfl <| AS rfl rfl <| ND <| SQ <| SQ <| RG <| LS (i := 0) [_, _, _, _] rfl tyS_impl_Allow rfl rfl rfl rfl <| ?_
  refine LS (i := 1) [_, _, _, _] rfl tyS_impl_Allow rfl rfl rfl rfl <| CV1 rfl fun_laws_eqAllow rfl (fun w hs => laws_eqAllow _ w) <| NT rfl rfl <| MV rfl rfl <| ON rfl rfl rfl <| MV rfl rfl <| ON rfl rfl rfl <| MV rfl rfl <| ON rfl rfl rfl <| rw_neqSelfB (by kernel_rfl) rfl rfl rfl <| PF rfl rfl rfl rfl <| ND <| CF rfl rfl <| SK <| SQ <| RG <| AS rfl rfl <| ND <| ret_cv Try.func8 (res1 Try.func8 rfl (rv_tmp rfl)) <| ?_
  rfl

theorem spec_SeeIndex (a : Allow) (i : Int) (w : World) : CV Try.prog 35 [.agg a.cells.toArray, .int .i64 i] w (.tuple #[.agg (seeIndex a i).1.cells.toArray, .int .i64 (seeIndex a i).2.1, .bool (seeIndex a i).2.2]) := by
  refine cv_of Try.func35 rfl rfl rfl <| SQ <| RG <| BX [_, _, _, _] rfl rfl rfl <| fun b1 => AL rfl tyZ_impl_Allow <| fun b2 => AS rfl rfl <| AS rfl rfl <| ND <| SQ <| SQ <| RG <| LS (i := 1) [_, _, _, _] rfl tyS_impl_Allow rfl rfl rfl rfl <| CV1 rfl fun_spec_IsAllow rfl (fun w hs => spec_IsAllow _ w) <| NT rfl rfl <| MV rfl rfl <| ?_
  refine rw_case (j := 11) rfl (fun h1 => ?_) (fun h1 => ?_)
  · replace h1 := of_not_T h1
    refine OF rfl rfl (not_F h1) rfl <| OF rfl rfl (not_F h1) rfl <| PT rfl rfl (not_F h1) rfl <| MV rfl rfl <| OF rfl rfl rfl rfl <| OF rfl rfl rfl rfl <| OF rfl rfl rfl rfl <| OF rfl rfl rfl rfl <| PT rfl rfl rfl rfl <| ND <| CT rfl rfl <| SQ <| RG <| LS (i := 1) [_, _, _, _] rfl tyS_impl_Allow rfl rfl rfl rfl <| ST (i := 0) [_, _, _, _] [_, _, _, _] tyS_impl_Allow.sz rfl rfl rfl rfl rfl rfl rfl rfl <| AS rfl rfl <| AS rfl rfl <| ND <| ret_cv Try.func35 (res3 Try.func35 rfl (rv_s (i := 0) [_, _, _, _] tyS_impl_Allow rfl rfl rfl rfl) (rv_tmp rfl) (rv_tmp rfl)) <| ?_
    rw [seeIndex_spec]; simp only [seeIndexS, h1] <;> rfl
  · replace h1 := of_not_F h1
    refine ON rfl rfl (not_T h1) <| MV rfl rfl <| ON rfl rfl (not_T h1) <| rw_lss rfl rfl rfl <| PF rfl rfl (not_T h1) rfl <| MV rfl rfl <| ?_
    refine rw_case (j := 15) rfl (fun h2 => ?_) (fun h2 => ?_)
    · refine OF rfl rfl h2 rfl <| OF rfl rfl h2 rfl <| OF rfl rfl h2 rfl <| OF rfl rfl h2 rfl <| PT rfl rfl h2 rfl <| ND <| CT rfl rfl <| SQ <| RG <| LS (i := 1) [_, _, _, _] rfl tyS_impl_Allow rfl rfl rfl rfl <| ST (i := 0) [_, _, _, _] [_, _, _, _] tyS_impl_Allow.sz rfl rfl rfl rfl rfl rfl rfl rfl <| AS rfl rfl <| AS rfl rfl <| ND <| ret_cv Try.func35 (res3 Try.func35 rfl (rv_s (i := 0) [_, _, _, _] tyS_impl_Allow rfl rfl rfl rfl) (rv_tmp rfl) (rv_tmp rfl)) <| ?_
      rw [seeIndex_spec]; simp only [seeIndexS, h1, h2] <;> rfl
    · refine ON rfl rfl h2 <| MV rfl rfl <| ON rfl rfl h2 <| FA rfl tyF_impl_Allow_1 rfl <| ON rfl rfl h2 <| LD (i := 1) rfl tyP_int rfl rfl rfl <| ON rfl rfl h2 <| rw_geq rfl rfl rfl <| PF rfl rfl h2 rfl <| ND <| ?_
      refine gw_cond rfl (fun h3 => ?_) (fun h3 => ?_)
      · refine SQ <| RG <| LS (i := 1) [_, _, _, _] rfl tyS_impl_Allow rfl rfl rfl rfl <| ST (i := 0) [_, _, _, _] [_, _, _, _] tyS_impl_Allow.sz rfl rfl rfl rfl rfl rfl rfl rfl <| AS rfl rfl <| AS rfl rfl <| ND <| ret_cv Try.func35 (res3 Try.func35 rfl (rv_s (i := 0) [_, _, _, _] tyS_impl_Allow rfl rfl rfl rfl) (rv_tmp rfl) (rv_tmp rfl)) <| ?_
        rw [seeIndex_spec]; simp only [seeIndexS, h1, h2, h3] <;> rfl
      · refine SK <| SQ <| RG <| MV rfl rfl <| rw_add rfl rfl rfl <| FA rfl tyF_impl_Allow_2 rfl <| LD (i := 1) rfl tyP_int rfl rfl rfl <| rw_sub rfl rfl rfl <| rw_max rfl rfl rfl <| AS rfl rfl <| ND <| SQ <| RG <| FA rfl tyF_impl_Allow_2 rfl <| LD (i := 1) rfl tyP_int rfl rfl rfl <| MV rfl rfl <| rw_add rfl rfl rfl <| FA rfl tyF_impl_Allow_2 rfl <| ST (i := 1) [_] [_, _, _, _] tyP_int.sz rfl rfl rfl rfl rfl rfl rfl rfl <| ND <| SQ <| RG <| LS (i := 1) [_, _, _, _] rfl tyS_impl_Allow rfl rfl rfl rfl <| ?_
        refine MV rfl rfl <| ST (i := 0) [_, _, _, _] [_, _, _, _] tyS_impl_Allow.sz rfl rfl rfl rfl rfl rfl rfl rfl <| AS rfl rfl <| AS rfl rfl <| ND <| ret_cv Try.func35 (res3 Try.func35 rfl (rv_s (i := 0) [_, _, _, _] tyS_impl_Allow rfl rfl rfl rfl) (rv_tmp rfl) (rv_tmp rfl)) <| ?_
        rw [seeIndex_spec]; simp only [seeIndexS, h1, h2, h3] <;> rfl

theorem impl_SeeIndex (a : Allow) (i : Int) (w : World) : CV Try.prog 36 [.agg a.cells.toArray, .int .i64 i] w (.tuple #[.agg (seeIndex a i).1.cells.toArray, .int .i64 (seeIndex a i).2.1, .bool (seeIndex a i).2.2]) := by
  refine cv_of Try.func36 rfl rfl rfl <| SQ <| RG <| BX [_, _, _, _] rfl rfl rfl <| fun b1 => AL rfl tyZ_impl_Allow <| fun b2 => AS rfl rfl <| AS rfl rfl <| ND <| SQ <| SQ <| RG <| LS (i := 1) [_, _, _, _] rfl tyS_impl_Allow rfl rfl rfl rfl <| CV1 rfl fun_impl_IsAllow rfl (fun w hs => impl_IsAllow _ w) <| NT rfl rfl <| MV rfl rfl <| ?_
  refine rw_case (j := 11) rfl (fun h1 => ?_) (fun h1 => ?_)
  · replace h1 := of_not_T h1
    refine OF rfl rfl (not_F h1) rfl <| OF rfl rfl (not_F h1) rfl <| OF rfl rfl (not_F h1) rfl <| OF rfl rfl (not_F h1) rfl <| OF rfl rfl (not_F h1) rfl <| OF rfl rfl (not_F h1) rfl <| PT rfl rfl (not_F h1) rfl <| ND <| CT rfl rfl <| SQ <| RG <| LS (i := 1) [_, _, _, _] rfl tyS_impl_Allow rfl rfl rfl rfl <| ST (i := 0) [_, _, _, _] [_, _, _, _] tyS_impl_Allow.sz rfl rfl rfl rfl rfl rfl rfl rfl <| AS rfl rfl <| AS rfl rfl <| ND <| ret_cv Try.func36 (res3 Try.func36 rfl (rv_s (i := 0) [_, _, _, _] tyS_impl_Allow rfl rfl rfl rfl) (rv_tmp rfl) (rv_tmp rfl)) <| ?_
    simp only [seeIndex, h1] <;> rfl
  · replace h1 := of_not_F h1
    refine ON rfl rfl (not_T h1) <| MV rfl rfl <| ON rfl rfl (not_T h1) <| FA rfl tyF_impl_Allow_1 rfl <| ON rfl rfl (not_T h1) <| LD (i := 1) rfl tyP_int rfl rfl rfl <| ON rfl rfl (not_T h1) <| rw_sub rfl rfl rfl <| ON rfl rfl (not_T h1) <| CV1 rfl fun_impl_within rfl (fun w hs => impl_within _ _ _ w) <| ON rfl rfl (not_T h1) <| NT rfl rfl <| PF rfl rfl (not_T h1) rfl <| ND <| ?_
    refine gw_cond rfl (fun h2 => ?_) (fun h2 => ?_)
    · replace h2 := of_not_T h2
      refine SQ <| RG <| LS (i := 1) [_, _, _, _] rfl tyS_impl_Allow rfl rfl rfl rfl <| ST (i := 0) [_, _, _, _] [_, _, _, _] tyS_impl_Allow.sz rfl rfl rfl rfl rfl rfl rfl rfl <| AS rfl rfl <| AS rfl rfl <| ND <| ret_cv Try.func36 (res3 Try.func36 rfl (rv_s (i := 0) [_, _, _, _] tyS_impl_Allow rfl rfl rfl rfl) (rv_tmp rfl) (rv_tmp rfl)) <| ?_
      simp only [seeIndex, h1, h2] <;> rfl
    · replace h2 := of_not_F h2
      refine SK <| SQ <| RG <| MV rfl rfl <| rw_add rfl rfl rfl <| FA rfl tyF_impl_Allow_2 rfl <| LD (i := 1) rfl tyP_int rfl rfl rfl <| rw_sub rfl rfl rfl <| rw_max rfl rfl rfl <| AS rfl rfl <| ND <| SQ <| RG <| FA rfl tyF_impl_Allow_2 rfl <| LD (i := 1) rfl tyP_int rfl rfl rfl <| MV rfl rfl <| rw_add rfl rfl rfl <| FA rfl tyF_impl_Allow_2 rfl <| ST (i := 1) [_] [_, _, _, _] tyP_int.sz rfl rfl rfl rfl rfl rfl rfl rfl <| ND <| SQ <| RG <| LS (i := 1) [_, _, _, _] rfl tyS_impl_Allow rfl rfl rfl rfl <| ?_
      refine MV rfl rfl <| ST (i := 0) [_, _, _, _] [_, _, _, _] tyS_impl_Allow.sz rfl rfl rfl rfl rfl rfl rfl rfl <| AS rfl rfl <| AS rfl rfl <| ND <| ret_cv Try.func36 (res3 Try.func36 rfl (rv_s (i := 0) [_, _, _, _] tyS_impl_Allow rfl rfl rfl rfl) (rv_tmp rfl) (rv_tmp rfl)) <| ?_
      simp only [seeIndex, h1, h2] <;> rfl

theorem law_FnExactSeeIndex (a : Allow) (i : Int) (w : World) : CV Try.prog 9 [.agg a.cells.toArray, .int .i64 i] w (.bool true) := by
  refine cv_of Try.func9 rfl rfl rfl <| SQ <| RG <| BX [_, _, _, _] rfl rfl rfl <| fun b1 => AS rfl rfl <| ND <| SQ <| RG <| LS (i := 0) [_, _, _, _] rfl tyS_laws_Allow rfl rfl rfl rfl <| CV1 rfl fun_laws_toAllow rfl (fun w hs => laws_toAllow _ w) <| MV rfl rfl <| CV1 rfl fun_spec_SeeIndex rfl (fun w hs => spec_SeeIndex _ _ w) <| MV rfl rfl <| XT rfl rfl rfl <| XT rfl rfl rfl <| XT rfl rfl rfl <| AL rfl tyZ_impl_Allow <| fun b2 => ST (i := 0) [_, _, _, _] [_, _, _, _] tyS_impl_Allow.sz rfl rfl rfl rfl rfl rfl rfl rfl <| ?_
  refine AS rfl rfl <| AS rfl rfl <| ND <| SQ <| RG <| LS (i := 1) [_, _, _, _] rfl tyS_laws_Allow rfl rfl rfl rfl <| CV1 rfl fun_laws_toAllow rfl (fun w hs => laws_toAllow _ w) <| MV rfl rfl <| CV1 rfl fun_impl_SeeIndex rfl (fun w hs => impl_SeeIndex _ _ w) <| MV rfl rfl <| XT rfl rfl rfl <| XT rfl rfl rfl <| XT rfl rfl rfl <| AL rfl tyZ_impl_Allow <| fun b3 => ST (i := 0) [_, _, _, _] [_, _, _, _] tyS_impl_Allow.sz rfl rfl rfl rfl rfl rfl rfl rfl <| AS rfl rfl <| AS rfl rfl <| ?_
  refine ND <| SQ <| SQ <| RG <| LS (i := 0) [_, _, _, _] rfl tyS_impl_Allow rfl rfl rfl rfl <| LS (i := 1) [_, _, _, _] rfl tyS_impl_Allow rfl rfl rfl rfl <| CV1 rfl fun_laws_eqAllow rfl (fun w hs => laws_eqAllow _ w) <| NT rfl rfl <| MV rfl rfl <| ON rfl rfl rfl <| MV rfl rfl <| ON rfl rfl rfl <| MV rfl rfl <| ON rfl rfl rfl <| NS rfl rfl rfl <| PF rfl rfl rfl rfl <| MV rfl rfl <| ON rfl rfl rfl <| MV rfl rfl <| ON rfl rfl rfl <| MV rfl rfl <| ?_
  refine ON rfl rfl rfl <| rw_neqSelfB (by kernel_rfl) rfl rfl rfl <| PF rfl rfl rfl rfl <| ND <| CF rfl rfl <| SK <| SQ <| RG <| AS rfl rfl <| ND <| ret_cv Try.func9 (res1 Try.func9 rfl (rv_tmp rfl)) <| ?_
  rfl

theorem laws_szPiece (p : Piece) (n : Int) (w : World) : CV Try.prog 37 [.agg p.cells.toArray, .int .i64 n] w (.int .i64 (szStr p.data n)) := by
  refine cv_of Try.func37 rfl rfl rfl <| SQ <| RG <| BX [_, _, _] rfl rfl rfl <| fun b1 => AS rfl rfl <| ND <| SQ <| RG <| MV rfl rfl <| FA rfl tyF_laws_Piece_1 rfl <| LD (i := 0) rfl tyP_string rfl rfl rfl <| rw_lenS rfl (by kernel_rfl) rfl <| rw_sub rfl rfl rfl <| AS rfl rfl <| ND <| SQ <| SQ <| RG <| MV rfl rfl <| rw_lss rfl rfl rfl <| ND <| ?_
  refine gw_cond rfl (fun h1 => ?_) (fun h1 => ?_)
  · refine SQ <| RG <| AS rfl rfl <| ND <| ret_cv Try.func37 (res1 Try.func37 rfl (rv_tmp rfl)) <| ?_
    simp only [szStr, h1] <;> rfl
  · refine SK <| SQ <| RG <| MV rfl rfl <| AS rfl rfl <| ND <| ret_cv Try.func37 (res1 Try.func37 rfl (rv_tmp rfl)) <| ?_
    simp only [szStr, h1] <;> rfl

theorem laws_toPiece (a : Piece) (w : World) : CV Try.prog 39 [.agg a.cells.toArray] w (.agg a.cells.toArray) := by
  refine cv_of Try.func39 rfl rfl rfl <| SQ <| RG <| BX [_, _, _] rfl rfl rfl <| fun b1 => AL rfl tyZ_impl_Piece <| fun b2 => ND <| SQ <| RG <| AL rfl tyZ_impl_Piece <| fun b3 => ND <| SQ <| RG <| FA rfl tyF_laws_Piece_0 rfl <| LD (i := 2) rfl tyP_int rfl rfl rfl <| FA rfl tyF_impl_Piece_0 rfl <| ST (i := 0) [_] [_, _, _] tyP_int.sz rfl rfl rfl rfl rfl rfl rfl rfl <| ND <| SQ <| RG <| FA rfl tyF_laws_Piece_1 rfl <| LD (i := 2) rfl tyP_string rfl rfl rfl <| FA rfl tyF_impl_Piece_1 rfl <| ?_
  refine ST (i := 0) [_] [_, _, _] tyP_string.sz rfl rfl rfl rfl rfl rfl rfl rfl <| ND <| SQ <| RG <| FA rfl tyF_laws_Piece_2 rfl <| LD (i := 2) rfl tyP_bool rfl rfl rfl <| FA rfl tyF_impl_Piece_2 rfl <| ST (i := 0) [_] [_, _, _] tyP_bool.sz rfl rfl rfl rfl rfl rfl rfl rfl <| ND <| SQ <| RG <| LS (i := 0) [_, _, _] rfl tyS_impl_Piece rfl rfl rfl rfl <| ST (i := 1) [_, _, _] [_, _, _] tyS_impl_Piece.sz rfl rfl rfl rfl rfl rfl rfl rfl <| ND <| ret_cv Try.func39 (res1 Try.func39 rfl (rv_s (i := 1) [_, _, _] tyS_impl_Piece rfl rfl rfl rfl)) <| ?_
  rfl

theorem spec_PieceFrame (id : Int) (p : Piece) (w : World) : CV Try.prog 38 [.int .i64 id, .agg p.cells.toArray] w (.agg (pieceFrame id p).cells.toArray) := by
  refine cv_of Try.func38 rfl rfl rfl <| SQ <| RG <| BX [_, _, _] rfl rfl rfl <| fun b1 => AL rfl tyZ_impl_Frame <| fun b2 => ND <| SQ <| RG <| MV rfl rfl <| FA rfl tyF_impl_Piece_0 rfl <| LD (i := 1) rfl tyP_int rfl rfl rfl <| FA rfl tyF_impl_Piece_1 rfl <| LD (i := 1) rfl tyP_string rfl rfl rfl <| FA rfl tyF_impl_Piece_2 rfl <| LD (i := 1) rfl tyP_bool rfl rfl rfl <| rw_build [_, _, _, _, _, _, _, _, _] rfl tyB_impl_Frame tyZ_impl_Frame rfl rfl <| ST (i := 0) [_, _, _, _, _, _, _, _, _] [_, _, _, _, _, _, _, _, _] tyS_impl_Frame.sz rfl rfl rfl rfl rfl rfl rfl rfl <| ?_
  refine ND <| ret_cv Try.func38 (res1 Try.func38 rfl (rv_s (i := 0) [_, _, _, _, _, _, _, _, _] tyS_impl_Frame rfl rfl rfl rfl)) <| ?_
  rfl

theorem impl_PieceFrame (id : Int) (p : Piece) (w : World) : CV Try.prog 40 [.int .i64 id, .agg p.cells.toArray] w (.agg (pieceFrame id p).cells.toArray) := by
  refine cv_of Try.func40 rfl rfl rfl <| SQ <| RG <| BX [_, _, _] rfl rfl rfl <| fun b1 => AL rfl tyZ_impl_Frame <| fun b2 => ND <| SQ <| RG <| MV rfl rfl <| FA rfl tyF_impl_Piece_0 rfl <| LD (i := 1) rfl tyP_int rfl rfl rfl <| FA rfl tyF_impl_Piece_1 rfl <| LD (i := 1) rfl tyP_string rfl rfl rfl <| FA rfl tyF_impl_Piece_2 rfl <| LD (i := 1) rfl tyP_bool rfl rfl rfl <| rw_build [_, _, _, _, _, _, _, _, _] rfl tyB_impl_Frame tyZ_impl_Frame rfl rfl <| ST (i := 0) [_, _, _, _, _, _, _, _, _] [_, _, _, _, _, _, _, _, _] tyS_impl_Frame.sz rfl rfl rfl rfl rfl rfl rfl rfl <| ?_
  refine ND <| ret_cv Try.func40 (res1 Try.func40 rfl (rv_s (i := 0) [_, _, _, _, _, _, _, _, _] tyS_impl_Frame rfl rfl rfl rfl)) <| ?_
  rfl

theorem laws_eqFrame (a : Frame') (w : World) : CV Try.prog 41 [.agg a.cells.toArray, .agg a.cells.toArray] w (.bool true) := by
  refine cv_of Try.func41 rfl rfl rfl <| SQ <| RG <| BX [_, _, _, _, _, _, _, _, _] rfl rfl rfl <| fun b1 => BX [_, _, _, _, _, _, _, _, _] rfl rfl rfl <| fun b2 => AS rfl rfl <| ND <| SQ <| SQ <| RG <| FA rfl tyF_impl_Frame_0 rfl <| LD (i := 1) rfl tyP_int rfl rfl rfl <| FA rfl tyF_impl_Frame_0 rfl <| LD (i := 0) rfl tyP_int rfl rfl rfl <| NS rfl rfl rfl <| ND <| CF rfl rfl <| SK <| SQ <| SQ <| RG <| FA rfl tyF_impl_Frame_1 rfl <| LD (i := 1) rfl tyP_int rfl rfl rfl <| ?_
  refine FA rfl tyF_impl_Frame_1 rfl <| LD (i := 0) rfl tyP_int rfl rfl rfl <| NS rfl rfl rfl <| ND <| CF rfl rfl <| SK <| SQ <| SQ <| RG <| FA rfl tyF_impl_Frame_2 rfl <| LD (i := 1) rfl tyP_int rfl rfl rfl <| FA rfl tyF_impl_Frame_2 rfl <| LD (i := 0) rfl tyP_int rfl rfl rfl <| NS rfl rfl rfl <| ND <| CF rfl rfl <| SK <| SQ <| SQ <| RG <| FA rfl tyF_impl_Frame_3 rfl <| LD (i := 1) rfl tyP_string rfl rfl rfl <| FA rfl tyF_impl_Frame_3 rfl <| LD (i := 0) rfl tyP_string rfl rfl rfl <| ?_
  refine rw_neqSelfS rfl rfl rfl <| ND <| CF rfl rfl <| SK <| SQ <| SQ <| RG <| FA rfl tyF_impl_Frame_4 rfl <| LD (i := 1) rfl tyP_bool rfl rfl rfl <| FA rfl tyF_impl_Frame_4 rfl <| LD (i := 0) rfl tyP_bool rfl rfl rfl <| rw_neqSelfB (by kernel_rfl) rfl rfl rfl <| ND <| CF rfl rfl <| SK <| SQ <| SQ <| RG <| FA rfl tyF_impl_Frame_5 rfl <| LD (i := 1) rfl tyP_int rfl rfl rfl <| FA rfl tyF_impl_Frame_5 rfl <| LD (i := 0) rfl tyP_int rfl rfl rfl <| NS rfl rfl rfl <| ND <| CF rfl rfl <| ?_
  refine SK <| SQ <| SQ <| RG <| FA rfl tyF_impl_Frame_6 rfl <| LD (i := 1) rfl tyP_int rfl rfl rfl <| FA rfl tyF_impl_Frame_6 rfl <| LD (i := 0) rfl tyP_int rfl rfl rfl <| NS rfl rfl rfl <| ND <| CF rfl rfl <| SK <| SQ <| SQ <| RG <| FA rfl tyF_impl_Frame_7 rfl <| LD (i := 1) rfl tyP_int rfl rfl rfl <| FA rfl tyF_impl_Frame_7 rfl <| LD (i := 0) rfl tyP_int rfl rfl rfl <| NS rfl rfl rfl <| ND <| CF rfl rfl <| SK <| SQ <| SQ <| RG <| FA rfl tyF_impl_Frame_8 rfl <| ?_
  refine LD (i := 1) rfl tyP_bool rfl rfl rfl <| FA rfl tyF_impl_Frame_8 rfl <| LD (i := 0) rfl tyP_bool rfl rfl rfl <| rw_neqSelfB (by kernel_rfl) rfl rfl rfl <| ND <| CF rfl rfl <| SK <| SQ <| RG <| AS rfl rfl <| ND <| ret_cv Try.func41 (res1 Try.func41 rfl (rv_tmp rfl)) <| ?_
  rfl

theorem law_FnExactPieceFrame (i : Int) (a : Piece) (w : World) : CV Try.prog 10 [.int .i64 i, .agg a.cells.toArray] w (.bool true) := by
  refine cv_of Try.func10 rfl rfl rfl <| SQ <| RG <| BX [_, _, _] rfl rfl rfl <| fun b1 => AS rfl rfl <| ND <| SQ <| RG <| AS rfl rfl <| ND <| SQ <| RG <| LS (i := 0) [_, _, _] rfl tyS_laws_Piece rfl rfl rfl rfl <| MV rfl rfl <| CV1 rfl fun_laws_szPiece rfl (fun w hs => laws_szPiece _ _ w) <| AS rfl rfl <| ND <| SQ <| SQ <| RG <| MV rfl rfl <| rw_lss rfl rfl rfl <| ND <| ?_
  refine gw_cond rfl (fun h1 => ?_) (fun h1 => ?_)
  · refine SQ <| RG <| AS rfl rfl <| ND <| ret_cv Try.func10 (res1 Try.func10 rfl (rv_tmp rfl)) <| ?_
    rfl
  · refine SK <| SQ <| RG <| MV rfl rfl <| LS (i := 0) [_, _, _] rfl tyS_laws_Piece rfl rfl rfl rfl <| CV1 rfl fun_laws_toPiece rfl (fun w hs => laws_toPiece _ w) <| CV1 rfl fun_spec_PieceFrame rfl (fun w hs => spec_PieceFrame _ _ w) <| AL rfl tyZ_impl_Frame <| fun b2 => ST (i := 0) [_, _, _, _, _, _, _, _, _] [_, _, _, _, _, _, _, _, _] tyS_impl_Frame.sz rfl rfl rfl rfl rfl rfl rfl rfl <| ND <| SQ <| RG <| MV rfl rfl <| LS (i := 1) [_, _, _] rfl tyS_laws_Piece rfl rfl rfl rfl <| CV1 rfl fun_laws_toPiece rfl (fun w hs => laws_toPiece _ w) <| ?_
    refine CV1 rfl fun_impl_PieceFrame rfl (fun w hs => impl_PieceFrame _ _ w) <| AL rfl tyZ_impl_Frame <| fun b3 => ST (i := 0) [_, _, _, _, _, _, _, _, _] [_, _, _, _, _, _, _, _, _] tyS_impl_Frame.sz rfl rfl rfl rfl rfl rfl rfl rfl <| ND <| SQ <| SQ <| RG <| LS (i := 0) [_, _, _, _, _, _, _, _, _] rfl tyS_impl_Frame rfl rfl rfl rfl <| LS (i := 1) [_, _, _, _, _, _, _, _, _] rfl tyS_impl_Frame rfl rfl rfl rfl <| CV1 rfl fun_laws_eqFrame rfl (fun w hs => laws_eqFrame _ w) <| NT rfl rfl <| ND <| CF rfl rfl <| SK <| SQ <| RG <| AS rfl rfl <| ?_
    refine ND <| ret_cv Try.func10 (res1 Try.func10 rfl (rv_tmp rfl)) <| ?_
    rfl

theorem laws_toCount (a : Count) (w : World) : CV Try.prog 43 [.agg a.cells.toArray] w (.agg a.cells.toArray) := by
  refine cv_of Try.func43 rfl rfl rfl <| SQ <| RG <| BX [_, _, _] rfl rfl rfl <| fun b1 => AL rfl tyZ_impl_Count <| fun b2 => ND <| SQ <| RG <| AL rfl tyZ_impl_Count <| fun b3 => ND <| SQ <| RG <| FA rfl tyF_laws_Count_0 rfl <| LD (i := 2) rfl tyP_int rfl rfl rfl <| FA rfl tyF_impl_Count_0 rfl <| ST (i := 0) [_] [_, _, _] tyP_int.sz rfl rfl rfl rfl rfl rfl rfl rfl <| ND <| SQ <| RG <| FA rfl tyF_laws_Count_1 rfl <| LD (i := 2) rfl tyP_int rfl rfl rfl <| FA rfl tyF_impl_Count_1 rfl <| ?_
  refine ST (i := 0) [_] [_, _, _] tyP_int.sz rfl rfl rfl rfl rfl rfl rfl rfl <| ND <| SQ <| RG <| FA rfl tyF_laws_Count_2 rfl <| LD (i := 2) rfl tyP_int rfl rfl rfl <| FA rfl tyF_impl_Count_2 rfl <| ST (i := 0) [_] [_, _, _] tyP_int.sz rfl rfl rfl rfl rfl rfl rfl rfl <| ND <| SQ <| RG <| LS (i := 0) [_, _, _] rfl tyS_impl_Count rfl rfl rfl rfl <| ST (i := 1) [_, _, _] [_, _, _] tyS_impl_Count.sz rfl rfl rfl rfl rfl rfl rfl rfl <| ND <| ret_cv Try.func43 (res1 Try.func43 rfl (rv_s (i := 1) [_, _, _] tyS_impl_Count rfl rfl rfl rfl)) <| ?_
  rfl

theorem spec_IsCount (a : Count) (w : World) : CV Try.prog 62 [.agg a.cells.toArray] w (.bool (isCount a)) := by
  refine cv_of Try.func62 rfl rfl rfl <| SQ <| RG <| BX [_, _, _] rfl rfl rfl <| fun b1 => AS rfl rfl <| ND <| SQ <| RG <| FA rfl tyF_impl_Count_0 rfl <| LD (i := 0) rfl tyP_int rfl rfl rfl <| CV1 rfl fun_spec_l1In rfl (fun w hs => spec_l1In _ _ _ w) <| MV rfl rfl <| ?_
  refine rw_case (j := 6) rfl (fun h1 => ?_) (fun h1 => ?_)
  · refine ON rfl rfl h1 <| FA rfl tyF_impl_Count_1 rfl <| ON rfl rfl h1 <| LD (i := 0) rfl tyP_int rfl rfl rfl <| ON rfl rfl h1 <| FA rfl tyF_impl_Count_0 rfl <| ON rfl rfl h1 <| LD (i := 0) rfl tyP_int rfl rfl rfl <| ON rfl rfl h1 <| CV1 rfl fun_spec_l1In rfl (fun w hs => spec_l1In _ _ _ w) <| PT rfl rfl h1 rfl <| MV rfl rfl <| ?_
    refine rw_case (j := 13) rfl (fun h2 => ?_) (fun h2 => ?_)
    · refine ON rfl rfl h2 <| FA rfl tyF_impl_Count_2 rfl <| ON rfl rfl h2 <| LD (i := 0) rfl tyP_int rfl rfl rfl <| ON rfl rfl h2 <| FA rfl tyF_impl_Count_0 rfl <| ON rfl rfl h2 <| LD (i := 0) rfl tyP_int rfl rfl rfl <| ON rfl rfl h2 <| CV1 rfl fun_spec_l1In rfl (fun w hs => spec_l1In _ _ _ w) <| PT rfl rfl h2 rfl <| AS rfl rfl <| ND <| ret_cv Try.func62 (res1 Try.func62 rfl (rv_tmp rfl)) <| ?_
      simp only [isCount, h1, h2] <;> rfl
    · refine OF rfl rfl h2 rfl <| OF rfl rfl h2 rfl <| OF rfl rfl h2 rfl <| OF rfl rfl h2 rfl <| OF rfl rfl h2 rfl <| PF rfl rfl h2 rfl <| AS rfl rfl <| ND <| ret_cv Try.func62 (res1 Try.func62 rfl (rv_tmp rfl)) <| ?_
      simp only [isCount, h1, h2] <;> rfl
  · refine OF rfl rfl h1 rfl <| OF rfl rfl h1 rfl <| OF rfl rfl h1 rfl <| OF rfl rfl h1 rfl <| OF rfl rfl h1 rfl <| PF rfl rfl h1 rfl <| MV rfl rfl <| OF rfl rfl rfl rfl <| OF rfl rfl rfl rfl <| OF rfl rfl rfl rfl <| OF rfl rfl rfl rfl <| OF rfl rfl rfl rfl <| PF rfl rfl rfl rfl <| AS rfl rfl <| ND <| ret_cv Try.func62 (res1 Try.func62 rfl (rv_tmp rfl)) <| ?_
    simp only [isCount, h1] <;> rfl

theorem spec_OpenNext (a : Count) (w : World) : CV Try.prog 42 [.agg a.cells.toArray] w (.tuple #[.int .i64 (openNext a).1, .agg (openNext a).2.1.cells.toArray, .bool (openNext a).2.2]) := by
  refine cv_of Try.func42 rfl rfl rfl <| SQ <| RG <| BX [_, _, _] rfl rfl rfl <| fun b1 => AS rfl rfl <| AL rfl tyZ_impl_Count <| fun b2 => AS rfl rfl <| ND <| SQ <| SQ <| RG <| LS (i := 1) [_, _, _] rfl tyS_impl_Count rfl rfl rfl rfl <| CV1 rfl fun_spec_IsCount rfl (fun w hs => spec_IsCount _ w) <| NT rfl rfl <| ND <| ?_
  refine gw_cond rfl (fun h1 => ?_) (fun h1 => ?_)
  · replace h1 := of_not_T h1
    refine SQ <| gw_draw' [(0, .det), (1, .det)] [2, 3] mixed rfl (free_det (free_det free_nil)) (ts := [_, _]) rfl <| DT rfl rfl (fun K hk => LS (i := 1) [_, _, _] rfl tyS_impl_Count rfl rfl rfl rfl hk) <| DT rfl rfl (fun K hk => AS rfl rfl hk) <| dw_nil <| ST (i := 0) [_, _, _] [_, _, _] tyS_impl_Count.sz rfl rfl rfl rfl rfl rfl rfl rfl <| AS rfl rfl <| ND <| ret_cv Try.func42 (res3 Try.func42 rfl (rv_tmp rfl) (rv_s (i := 0) [_, _, _] tyS_impl_Count rfl rfl rfl rfl) (rv_tmp rfl)) <| ?_
    rw [openNext_spec]; simp only [openNextS, h1] <;> rfl
  · replace h1 := of_not_F h1
    refine SK <| SQ <| SQ <| RG <| FA rfl tyF_impl_Count_1 rfl <| LD (i := 1) rfl tyP_int rfl rfl rfl <| FA rfl tyF_impl_Count_0 rfl <| LD (i := 1) rfl tyP_int rfl rfl rfl <| EQ1 rfl rfl rfl <| ND <| ?_
    refine gw_cond rfl (fun h2 => ?_) (fun h2 => ?_)
    · refine SQ <| RG <| FA rfl tyF_impl_Count_0 rfl <| LD (i := 1) rfl tyP_int rfl rfl rfl <| FA rfl tyF_impl_Count_2 rfl <| ST (i := 1) [_] [_, _, _] tyP_int.sz rfl rfl rfl rfl rfl rfl rfl rfl <| ND <| SQ <| gw_draw' [(0, .det), (1, .det)] [2, 3] mixed rfl (free_det (free_det free_nil)) (ts := [_, _]) rfl <| DT rfl rfl (fun K hk => LS (i := 1) [_, _, _] rfl tyS_impl_Count rfl rfl rfl rfl hk) <| DT rfl rfl (fun K hk => AS rfl rfl hk) <| dw_nil <| ST (i := 0) [_, _, _] [_, _, _] tyS_impl_Count.sz rfl rfl rfl rfl rfl rfl rfl rfl <| ?_
      refine AS rfl rfl <| ND <| ret_cv Try.func42 (res3 Try.func42 rfl (rv_tmp rfl) (rv_s (i := 0) [_, _, _] tyS_impl_Count rfl rfl rfl rfl) (rv_tmp rfl)) <| ?_
      rw [openNext_spec]; simp only [openNextS, h1, h2] <;> rfl
    · refine SK <| SQ <| RG <| FA rfl tyF_impl_Count_1 rfl <| LD (i := 1) rfl tyP_int rfl rfl rfl <| AS rfl rfl <| ND <| SQ <| RG <| MV rfl rfl <| rw_add rfl rfl rfl <| FA rfl tyF_impl_Count_1 rfl <| ST (i := 1) [_] [_, _, _] tyP_int.sz rfl rfl rfl rfl rfl rfl rfl rfl <| ND <| SQ <| gw_draw' [(0, .det), (1, .det), (2, .det)] [3, 4] mixed rfl (free_det (free_det (free_det free_nil))) (ts := [_, _]) rfl <| DT rfl rfl (fun K hk => MV rfl rfl hk) <| DT rfl rfl (fun K hk => LS (i := 1) [_, _, _] rfl tyS_impl_Count rfl rfl rfl rfl hk) <| ?_
      refine DT rfl rfl (fun K hk => AS rfl rfl hk) <| dw_nil <| ST (i := 0) [_, _, _] [_, _, _] tyS_impl_Count.sz rfl rfl rfl rfl rfl rfl rfl rfl <| AS rfl rfl <| ND <| ret_cv Try.func42 (res3 Try.func42 rfl (rv_tmp rfl) (rv_s (i := 0) [_, _, _] tyS_impl_Count rfl rfl rfl rfl) (rv_tmp rfl)) <| ?_
      rw [openNext_spec]; simp only [openNextS, h1, h2] <;> rfl

theorem impl_IsCount (a : Count) (w : World) : CV Try.prog 63 [.agg a.cells.toArray] w (.bool (isCount a)) := by
  refine cv_of Try.func63 rfl rfl rfl <| SQ <| RG <| BX [_, _, _] rfl rfl rfl <| fun b1 => AS rfl rfl <| ND <| SQ <| RG <| FA rfl tyF_impl_Count_0 rfl <| LD (i := 0) rfl tyP_int rfl rfl rfl <| CV1 rfl fun_impl_within rfl (fun w hs => impl_within _ _ _ w) <| MV rfl rfl <| ?_
  refine rw_case (j := 6) rfl (fun h1 => ?_) (fun h1 => ?_)
  · refine ON rfl rfl h1 <| FA rfl tyF_impl_Count_1 rfl <| ON rfl rfl h1 <| LD (i := 0) rfl tyP_int rfl rfl rfl <| ON rfl rfl h1 <| FA rfl tyF_impl_Count_0 rfl <| ON rfl rfl h1 <| LD (i := 0) rfl tyP_int rfl rfl rfl <| ON rfl rfl h1 <| CV1 rfl fun_impl_within rfl (fun w hs => impl_within _ _ _ w) <| PT rfl rfl h1 rfl <| MV rfl rfl <| ?_
    refine rw_case (j := 13) rfl (fun h2 => ?_) (fun h2 => ?_)
    · refine ON rfl rfl h2 <| FA rfl tyF_impl_Count_2 rfl <| ON rfl rfl h2 <| LD (i := 0) rfl tyP_int rfl rfl rfl <| ON rfl rfl h2 <| FA rfl tyF_impl_Count_0 rfl <| ON rfl rfl h2 <| LD (i := 0) rfl tyP_int rfl rfl rfl <| ON rfl rfl h2 <| CV1 rfl fun_impl_within rfl (fun w hs => impl_within _ _ _ w) <| PT rfl rfl h2 rfl <| AS rfl rfl <| ND <| ret_cv Try.func63 (res1 Try.func63 rfl (rv_tmp rfl)) <| ?_
      simp only [isCount, h1, h2] <;> rfl
    · refine OF rfl rfl h2 rfl <| OF rfl rfl h2 rfl <| OF rfl rfl h2 rfl <| OF rfl rfl h2 rfl <| OF rfl rfl h2 rfl <| PF rfl rfl h2 rfl <| AS rfl rfl <| ND <| ret_cv Try.func63 (res1 Try.func63 rfl (rv_tmp rfl)) <| ?_
      simp only [isCount, h1, h2] <;> rfl
  · refine OF rfl rfl h1 rfl <| OF rfl rfl h1 rfl <| OF rfl rfl h1 rfl <| OF rfl rfl h1 rfl <| OF rfl rfl h1 rfl <| PF rfl rfl h1 rfl <| MV rfl rfl <| OF rfl rfl rfl rfl <| OF rfl rfl rfl rfl <| OF rfl rfl rfl rfl <| OF rfl rfl rfl rfl <| OF rfl rfl rfl rfl <| PF rfl rfl rfl rfl <| AS rfl rfl <| ND <| ret_cv Try.func63 (res1 Try.func63 rfl (rv_tmp rfl)) <| ?_
    simp only [isCount, h1] <;> rfl

theorem impl_OpenNext (a : Count) (w : World) : CV Try.prog 44 [.agg a.cells.toArray] w (.tuple #[.int .i64 (openNext a).1, .agg (openNext a).2.1.cells.toArray, .bool (openNext a).2.2]) := by
  refine cv_of Try.func44 rfl rfl rfl <| SQ <| RG <| BX [_, _, _] rfl rfl rfl <| fun b1 => AS rfl rfl <| AL rfl tyZ_impl_Count <| fun b2 => AS rfl rfl <| ND <| SQ <| SQ <| RG <| LS (i := 1) [_, _, _] rfl tyS_impl_Count rfl rfl rfl rfl <| CV1 rfl fun_impl_IsCount rfl (fun w hs => impl_IsCount _ w) <| NT rfl rfl <| ND <| ?_
  refine gw_cond rfl (fun h1 => ?_) (fun h1 => ?_)
  · replace h1 := of_not_T h1
    refine SQ <| gw_draw' [(0, .det), (1, .det)] [2, 3] mixed rfl (free_det (free_det free_nil)) (ts := [_, _]) rfl <| DT rfl rfl (fun K hk => LS (i := 1) [_, _, _] rfl tyS_impl_Count rfl rfl rfl rfl hk) <| DT rfl rfl (fun K hk => AS rfl rfl hk) <| dw_nil <| ST (i := 0) [_, _, _] [_, _, _] tyS_impl_Count.sz rfl rfl rfl rfl rfl rfl rfl rfl <| AS rfl rfl <| ND <| ret_cv Try.func44 (res3 Try.func44 rfl (rv_tmp rfl) (rv_s (i := 0) [_, _, _] tyS_impl_Count rfl rfl rfl rfl) (rv_tmp rfl)) <| ?_
    simp only [openNext, h1] <;> rfl
  · replace h1 := of_not_F h1
    refine SK <| SQ <| SQ <| RG <| FA rfl tyF_impl_Count_1 rfl <| LD (i := 1) rfl tyP_int rfl rfl rfl <| FA rfl tyF_impl_Count_0 rfl <| LD (i := 1) rfl tyP_int rfl rfl rfl <| EQ1 rfl rfl rfl <| ND <| ?_
    refine gw_cond rfl (fun h2 => ?_) (fun h2 => ?_)
    · refine SQ <| RG <| FA rfl tyF_impl_Count_0 rfl <| LD (i := 1) rfl tyP_int rfl rfl rfl <| FA rfl tyF_impl_Count_2 rfl <| ST (i := 1) [_] [_, _, _] tyP_int.sz rfl rfl rfl rfl rfl rfl rfl rfl <| ND <| SQ <| gw_draw' [(0, .det), (1, .det)] [2, 3] mixed rfl (free_det (free_det free_nil)) (ts := [_, _]) rfl <| DT rfl rfl (fun K hk => LS (i := 1) [_, _, _] rfl tyS_impl_Count rfl rfl rfl rfl hk) <| DT rfl rfl (fun K hk => AS rfl rfl hk) <| dw_nil <| ST (i := 0) [_, _, _] [_, _, _] tyS_impl_Count.sz rfl rfl rfl rfl rfl rfl rfl rfl <| ?_
      refine AS rfl rfl <| ND <| ret_cv Try.func44 (res3 Try.func44 rfl (rv_tmp rfl) (rv_s (i := 0) [_, _, _] tyS_impl_Count rfl rfl rfl rfl) (rv_tmp rfl)) <| ?_
      simp only [openNext, h1, h2] <;> rfl
    · refine SK <| SQ <| RG <| FA rfl tyF_impl_Count_1 rfl <| LD (i := 1) rfl tyP_int rfl rfl rfl <| rw_add rfl rfl rfl <| FA rfl tyF_impl_Count_1 rfl <| ST (i := 1) [_] [_, _, _] tyP_int.sz rfl rfl rfl rfl rfl rfl rfl rfl <| ND <| SQ <| gw_draw' [(0, .det), (1, .det), (2, .det), (3, .det), (4, .det)] [5, 6] mixed rfl (free_det (free_det (free_det (free_det (free_det free_nil))))) (ts := [_, _]) rfl <| DT rfl rfl (fun K hk => FA rfl tyF_impl_Count_1 rfl hk) <| DT rfl rfl (fun K hk => LD (i := 1) rfl tyP_int rfl rfl rfl hk) <| ?_
      refine DT rfl rfl (fun K hk => rw_sub rfl rfl rfl hk) <| DT rfl rfl (fun K hk => LS (i := 1) [_, _, _] rfl tyS_impl_Count rfl rfl rfl rfl hk) <| DT rfl rfl (fun K hk => AS rfl rfl hk) <| dw_nil <| ST (i := 0) [_, _, _] [_, _, _] tyS_impl_Count.sz rfl rfl rfl rfl rfl rfl rfl rfl <| AS rfl rfl <| ND <| ret_cv Try.func44 (res3 Try.func44 rfl (rv_tmp rfl) (rv_s (i := 0) [_, _, _] tyS_impl_Count rfl rfl rfl rfl) (rv_tmp rfl)) <| ?_
      simp only [openNext, h1, h2] <;> rfl

theorem laws_eqCount (a : Count) (w : World) : CV Try.prog 45 [.agg a.cells.toArray, .agg a.cells.toArray] w (.bool true) := by
  refine cv_of Try.func45 rfl rfl rfl <| SQ <| RG <| BX [_, _, _] rfl rfl rfl <| fun b1 => BX [_, _, _] rfl rfl rfl <| fun b2 => AS rfl rfl <| ND <| SQ <| SQ <| RG <| FA rfl tyF_impl_Count_0 rfl <| LD (i := 1) rfl tyP_int rfl rfl rfl <| FA rfl tyF_impl_Count_0 rfl <| LD (i := 0) rfl tyP_int rfl rfl rfl <| NS rfl rfl rfl <| ND <| CF rfl rfl <| SK <| SQ <| SQ <| RG <| FA rfl tyF_impl_Count_1 rfl <| LD (i := 1) rfl tyP_int rfl rfl rfl <| FA rfl tyF_impl_Count_1 rfl <| ?_
  refine LD (i := 0) rfl tyP_int rfl rfl rfl <| NS rfl rfl rfl <| ND <| CF rfl rfl <| SK <| SQ <| SQ <| RG <| FA rfl tyF_impl_Count_2 rfl <| LD (i := 1) rfl tyP_int rfl rfl rfl <| FA rfl tyF_impl_Count_2 rfl <| LD (i := 0) rfl tyP_int rfl rfl rfl <| NS rfl rfl rfl <| ND <| CF rfl rfl <| SK <| SQ <| RG <| AS rfl rfl <| ND <| ret_cv Try.func45 (res1 Try.func45 rfl (rv_tmp rfl)) <| ?_
  rfl

theorem law_FnExactOpenNext (a : Count) (w : World) : CV Try.prog 11 [.agg a.cells.toArray] w (.bool true) := by
  refine cv_of Try.func11 rfl rfl rfl <| SQ <| RG <| BX [_, _, _] rfl rfl rfl <| fun b1 => AS rfl rfl <| ND <| SQ <| RG <| LS (i := 0) [_, _, _] rfl tyS_laws_Count rfl rfl rfl rfl <| CV1 rfl fun_laws_toCount rfl (fun w hs => laws_toCount _ w) <| CV1 rfl fun_spec_OpenNext rfl (fun w hs => spec_OpenNext _ w) <| MV rfl rfl <| XT rfl rfl rfl <| XT rfl rfl rfl <| XT rfl rfl rfl <| AL rfl tyZ_impl_Count <| fun b2 => AS rfl rfl <| ST (i := 0) [_, _, _] [_, _, _] tyS_impl_Count.sz rfl rfl rfl rfl rfl rfl rfl rfl <| ?_
  refine AS rfl rfl <| ND <| SQ <| RG <| LS (i := 1) [_, _, _] rfl tyS_laws_Count rfl rfl rfl rfl <| CV1 rfl fun_laws_toCount rfl (fun w hs => laws_toCount _ w) <| CV1 rfl fun_impl_OpenNext rfl (fun w hs => impl_OpenNext _ w) <| MV rfl rfl <| XT rfl rfl rfl <| XT rfl rfl rfl <| XT rfl rfl rfl <| AL rfl tyZ_impl_Count <| fun b3 => AS rfl rfl <| ST (i := 0) [_, _, _] [_, _, _] tyS_impl_Count.sz rfl rfl rfl rfl rfl rfl rfl rfl <| AS rfl rfl <| ND <| SQ <| SQ <| RG <| MV rfl rfl <| ?_
  refine MV rfl rfl <| NS rfl rfl rfl <| MV rfl rfl <| ON rfl rfl rfl <| LS (i := 0) [_, _, _] rfl tyS_impl_Count rfl rfl rfl rfl <| ON rfl rfl rfl <| LS (i := 1) [_, _, _] rfl tyS_impl_Count rfl rfl rfl rfl <| ON rfl rfl rfl <| CV1 rfl fun_laws_eqCount rfl (fun w hs => laws_eqCount _ w) <| ON rfl rfl rfl <| NT rfl rfl <| PF rfl rfl rfl rfl <| MV rfl rfl <| ON rfl rfl rfl <| MV rfl rfl <| ON rfl rfl rfl <| MV rfl rfl <| ON rfl rfl rfl <| rw_neqSelfB (by kernel_rfl) rfl rfl rfl <| ?_
  refine PF rfl rfl rfl rfl <| ND <| CF rfl rfl <| SK <| SQ <| RG <| AS rfl rfl <| ND <| ret_cv Try.func11 (res1 Try.func11 rfl (rv_tmp rfl)) <| ?_
  rfl

theorem spec_MustAllow (a : Allow) (w : World) : CV Try.prog 64 [.agg a.cells.toArray] w (.bool (mustAllow a)) := by
  refine cv_of Try.func64 rfl rfl rfl <| SQ <| RG <| BX [_, _, _, _] rfl rfl rfl <| fun b1 => AS rfl rfl <| ND <| SQ <| RG <| LS (i := 0) [_, _, _, _] rfl tyS_impl_Allow rfl rfl rfl rfl <| CV1 rfl fun_spec_IsAllow rfl (fun w hs => spec_IsAllow _ w) <| MV rfl rfl <| ?_
  refine rw_case (j := 5) rfl (fun h1 => ?_) (fun h1 => ?_)
  · refine ON rfl rfl h1 <| FA rfl tyF_impl_Allow_3 rfl <| ON rfl rfl h1 <| LD (i := 0) rfl tyP_int rfl rfl rfl <| ON rfl rfl h1 <| FA rfl tyF_impl_Allow_0 rfl <| ON rfl rfl h1 <| LD (i := 0) rfl tyP_int rfl rfl rfl <| ON rfl rfl h1 <| rw_add rfl rfl rfl <| ON rfl rfl h1 <| FA rfl tyF_impl_Allow_1 rfl <| ON rfl rfl h1 <| LD (i := 0) rfl tyP_int rfl rfl rfl <| ON rfl rfl h1 <| rw_sub rfl rfl rfl <| ON rfl rfl h1 <| FA rfl tyF_impl_Allow_0 rfl <| ?_
    refine ON rfl rfl h1 <| LD (i := 0) rfl tyP_int rfl rfl rfl <| ON rfl rfl h1 <| rw_add rfl rfl rfl <| ON rfl rfl h1 <| rw_quo rfl rfl rfl (by first | decide | omega) <| ON rfl rfl h1 <| rw_geq rfl rfl rfl <| PT rfl rfl h1 rfl <| MV rfl rfl <| ?_
    refine rw_case (j := 20) rfl (fun h2 => ?_) (fun h2 => ?_)
    · refine ON rfl rfl h2 <| FA rfl tyF_impl_Allow_0 rfl <| ON rfl rfl h2 <| LD (i := 0) rfl tyP_int rfl rfl rfl <| ON rfl rfl h2 <| rw_gtr rfl rfl rfl <| PT rfl rfl h2 rfl <| AS rfl rfl <| ND <| ret_cv Try.func64 (res1 Try.func64 rfl (rv_tmp rfl)) <| ?_
      simp [mustAllow, w64, h1, h2]
    · refine OF rfl rfl h2 rfl <| OF rfl rfl h2 rfl <| OF rfl rfl h2 rfl <| PF rfl rfl h2 rfl <| AS rfl rfl <| ND <| ret_cv Try.func64 (res1 Try.func64 rfl (rv_tmp rfl)) <| ?_
      simp [mustAllow, w64, h1, h2]
  · refine OF rfl rfl h1 rfl <| OF rfl rfl h1 rfl <| OF rfl rfl h1 rfl <| OF rfl rfl h1 rfl <| OF rfl rfl h1 rfl <| OF rfl rfl h1 rfl <| OF rfl rfl h1 rfl <| OF rfl rfl h1 rfl <| OF rfl rfl h1 rfl <| OF rfl rfl h1 rfl <| OF rfl rfl h1 rfl <| OF rfl rfl h1 rfl <| OF rfl rfl h1 rfl <| PF rfl rfl h1 rfl <| MV rfl rfl <| OF rfl rfl rfl rfl <| OF rfl rfl rfl rfl <| OF rfl rfl rfl rfl <| PF rfl rfl rfl rfl <| AS rfl rfl <| ND <| ret_cv Try.func64 (res1 Try.func64 rfl (rv_tmp rfl)) <| ?_
    simp [mustAllow, w64, h1]

theorem spec_RaiseAllow (a : Allow) (w : World) : CV Try.prog 46 [.agg a.cells.toArray] w (.tuple #[.agg (raiseAllow a).1.cells.toArray, .bool (raiseAllow a).2]) := by
  refine cv_of Try.func46 rfl rfl rfl <| SQ <| RG <| BX [_, _, _, _] rfl rfl rfl <| fun b1 => AL rfl tyZ_impl_Allow <| fun b2 => AS rfl rfl <| ND <| SQ <| SQ <| RG <| LS (i := 1) [_, _, _, _] rfl tyS_impl_Allow rfl rfl rfl rfl <| CV1 rfl fun_spec_MustAllow rfl (fun w hs => spec_MustAllow _ w) <| NT rfl rfl <| MV rfl rfl <| ?_
  refine rw_case (j := 7) rfl (fun h1 => ?_) (fun h1 => ?_)
  · replace h1 := of_not_T h1
    refine OF rfl rfl (not_F h1) rfl <| OF rfl rfl (not_F h1) rfl <| OF rfl rfl (not_F h1) rfl <| OF rfl rfl (not_F h1) rfl <| OF rfl rfl (not_F h1) rfl <| OF rfl rfl (not_F h1) rfl <| PT rfl rfl (not_F h1) rfl <| ND <| CT rfl rfl <| SQ <| RG <| LS (i := 1) [_, _, _, _] rfl tyS_impl_Allow rfl rfl rfl rfl <| ST (i := 0) [_, _, _, _] [_, _, _, _] tyS_impl_Allow.sz rfl rfl rfl rfl rfl rfl rfl rfl <| AS rfl rfl <| ND <| ret_cv Try.func46 (res2 Try.func46 rfl (rv_s (i := 0) [_, _, _, _] tyS_impl_Allow rfl rfl rfl rfl) (rv_tmp rfl)) <| ?_
    simp only [raiseAllow, h1] <;> rfl
  · replace h1 := of_not_F h1
    refine ON rfl rfl (not_T h1) <| FA rfl tyF_impl_Allow_3 rfl <| ON rfl rfl (not_T h1) <| LD (i := 1) rfl tyP_int rfl rfl rfl <| ON rfl rfl (not_T h1) <| FA rfl tyF_impl_Allow_0 rfl <| ON rfl rfl (not_T h1) <| LD (i := 1) rfl tyP_int rfl rfl rfl <| ON rfl rfl (not_T h1) <| rw_add rfl rfl rfl <| ON rfl rfl (not_T h1) <| rw_gtr rfl rfl rfl <| PF rfl rfl (not_T h1) rfl <| ND <| ?_
    refine gw_cond rfl (fun h2 => ?_) (fun h2 => ?_)
    · refine SQ <| RG <| LS (i := 1) [_, _, _, _] rfl tyS_impl_Allow rfl rfl rfl rfl <| ST (i := 0) [_, _, _, _] [_, _, _, _] tyS_impl_Allow.sz rfl rfl rfl rfl rfl rfl rfl rfl <| AS rfl rfl <| ND <| ret_cv Try.func46 (res2 Try.func46 rfl (rv_s (i := 0) [_, _, _, _] tyS_impl_Allow rfl rfl rfl rfl) (rv_tmp rfl)) <| ?_
      simp only [raiseAllow, h1, h2] <;> rfl
    · refine SK <| SQ <| RG <| FA rfl tyF_impl_Allow_3 rfl <| LD (i := 1) rfl tyP_int rfl rfl rfl <| FA rfl tyF_impl_Allow_0 rfl <| LD (i := 1) rfl tyP_int rfl rfl rfl <| rw_add rfl rfl rfl <| FA rfl tyF_impl_Allow_1 rfl <| ST (i := 1) [_] [_, _, _, _] tyP_int.sz rfl rfl rfl rfl rfl rfl rfl rfl <| ND <| SQ <| RG <| LS (i := 1) [_, _, _, _] rfl tyS_impl_Allow rfl rfl rfl rfl <| ST (i := 0) [_, _, _, _] [_, _, _, _] tyS_impl_Allow.sz rfl rfl rfl rfl rfl rfl rfl rfl <| AS rfl rfl <| ND <| ?_
      refine ret_cv Try.func46 (res2 Try.func46 rfl (rv_s (i := 0) [_, _, _, _] tyS_impl_Allow rfl rfl rfl rfl) (rv_tmp rfl)) <| ?_
      simp only [raiseAllow, h1, h2] <;> rfl

theorem impl_MustAllow (a : Allow) (w : World) : CV Try.prog 65 [.agg a.cells.toArray] w (.bool (mustAllow a)) := by
  refine cv_of Try.func65 rfl rfl rfl <| SQ <| RG <| BX [_, _, _, _] rfl rfl rfl <| fun b1 => AS rfl rfl <| ND <| SQ <| RG <| LS (i := 0) [_, _, _, _] rfl tyS_impl_Allow rfl rfl rfl rfl <| CV1 rfl fun_impl_IsAllow rfl (fun w hs => impl_IsAllow _ w) <| MV rfl rfl <| ?_
  refine rw_case (j := 5) rfl (fun h1 => ?_) (fun h1 => ?_)
  · refine ON rfl rfl h1 <| FA rfl tyF_impl_Allow_0 rfl <| ON rfl rfl h1 <| LD (i := 0) rfl tyP_int rfl rfl rfl <| ON rfl rfl h1 <| rw_gtr rfl rfl rfl <| PT rfl rfl h1 rfl <| MV rfl rfl <| ?_
    refine rw_case (j := 10) rfl (fun h2 => ?_) (fun h2 => ?_)
    · refine ON rfl rfl h2 <| FA rfl tyF_impl_Allow_3 rfl <| ON rfl rfl h2 <| LD (i := 0) rfl tyP_int rfl rfl rfl <| ON rfl rfl h2 <| FA rfl tyF_impl_Allow_0 rfl <| ON rfl rfl h2 <| LD (i := 0) rfl tyP_int rfl rfl rfl <| ON rfl rfl h2 <| rw_add rfl rfl rfl <| ON rfl rfl h2 <| FA rfl tyF_impl_Allow_1 rfl <| ON rfl rfl h2 <| LD (i := 0) rfl tyP_int rfl rfl rfl <| ON rfl rfl h2 <| rw_sub rfl rfl rfl <| ON rfl rfl h2 <| FA rfl tyF_impl_Allow_0 rfl <| ?_
      refine ON rfl rfl h2 <| LD (i := 0) rfl tyP_int rfl rfl rfl <| ON rfl rfl h2 <| rw_add rfl rfl rfl <| ON rfl rfl h2 <| rw_quo rfl rfl rfl (by first | decide | omega) <| ON rfl rfl h2 <| rw_geq rfl rfl rfl <| PT rfl rfl h2 rfl <| AS rfl rfl <| ND <| ret_cv Try.func65 (res1 Try.func65 rfl (rv_tmp rfl)) <| ?_
      simp only [mustAllow, h1, h2] <;> rfl
    · refine OF rfl rfl h2 rfl <| OF rfl rfl h2 rfl <| OF rfl rfl h2 rfl <| OF rfl rfl h2 rfl <| OF rfl rfl h2 rfl <| OF rfl rfl h2 rfl <| OF rfl rfl h2 rfl <| OF rfl rfl h2 rfl <| OF rfl rfl h2 rfl <| OF rfl rfl h2 rfl <| OF rfl rfl h2 rfl <| OF rfl rfl h2 rfl <| OF rfl rfl h2 rfl <| PF rfl rfl h2 rfl <| AS rfl rfl <| ND <| ret_cv Try.func65 (res1 Try.func65 rfl (rv_tmp rfl)) <| ?_
      simp only [mustAllow, h1, h2] <;> rfl
  · refine OF rfl rfl h1 rfl <| OF rfl rfl h1 rfl <| OF rfl rfl h1 rfl <| PF rfl rfl h1 rfl <| MV rfl rfl <| OF rfl rfl rfl rfl <| OF rfl rfl rfl rfl <| OF rfl rfl rfl rfl <| OF rfl rfl rfl rfl <| OF rfl rfl rfl rfl <| OF rfl rfl rfl rfl <| OF rfl rfl rfl rfl <| OF rfl rfl rfl rfl <| OF rfl rfl rfl rfl <| OF rfl rfl rfl rfl <| OF rfl rfl rfl rfl <| OF rfl rfl rfl rfl <| OF rfl rfl rfl rfl <| PF rfl rfl rfl rfl <| AS rfl rfl <| ?_
    refine ND <| ret_cv Try.func65 (res1 Try.func65 rfl (rv_tmp rfl)) <| ?_
    simp only [mustAllow, h1] <;> rfl

theorem impl_RaiseAllow (a : Allow) (w : World) : CV Try.prog 47 [.agg a.cells.toArray] w (.tuple #[.agg (raiseAllow a).1.cells.toArray, .bool (raiseAllow a).2]) := by
  refine cv_of Try.func47 rfl rfl rfl <| SQ <| RG <| BX [_, _, _, _] rfl rfl rfl <| fun b1 => AL rfl tyZ_impl_Allow <| fun b2 => AS rfl rfl <| ND <| SQ <| SQ <| RG <| LS (i := 1) [_, _, _, _] rfl tyS_impl_Allow rfl rfl rfl rfl <| CV1 rfl fun_impl_MustAllow rfl (fun w hs => impl_MustAllow _ w) <| NT rfl rfl <| MV rfl rfl <| ?_
  refine rw_case (j := 7) rfl (fun h1 => ?_) (fun h1 => ?_)
  · replace h1 := of_not_T h1
    refine OF rfl rfl (not_F h1) rfl <| OF rfl rfl (not_F h1) rfl <| OF rfl rfl (not_F h1) rfl <| OF rfl rfl (not_F h1) rfl <| OF rfl rfl (not_F h1) rfl <| OF rfl rfl (not_F h1) rfl <| PT rfl rfl (not_F h1) rfl <| ND <| CT rfl rfl <| SQ <| RG <| LS (i := 1) [_, _, _, _] rfl tyS_impl_Allow rfl rfl rfl rfl <| ST (i := 0) [_, _, _, _] [_, _, _, _] tyS_impl_Allow.sz rfl rfl rfl rfl rfl rfl rfl rfl <| AS rfl rfl <| ND <| ret_cv Try.func47 (res2 Try.func47 rfl (rv_s (i := 0) [_, _, _, _] tyS_impl_Allow rfl rfl rfl rfl) (rv_tmp rfl)) <| ?_
    simp only [raiseAllow, h1] <;> rfl
  · replace h1 := of_not_F h1
    refine ON rfl rfl (not_T h1) <| FA rfl tyF_impl_Allow_3 rfl <| ON rfl rfl (not_T h1) <| LD (i := 1) rfl tyP_int rfl rfl rfl <| ON rfl rfl (not_T h1) <| FA rfl tyF_impl_Allow_0 rfl <| ON rfl rfl (not_T h1) <| LD (i := 1) rfl tyP_int rfl rfl rfl <| ON rfl rfl (not_T h1) <| rw_add rfl rfl rfl <| ON rfl rfl (not_T h1) <| rw_gtr rfl rfl rfl <| PF rfl rfl (not_T h1) rfl <| ND <| ?_
    refine gw_cond rfl (fun h2 => ?_) (fun h2 => ?_)
    · refine SQ <| RG <| LS (i := 1) [_, _, _, _] rfl tyS_impl_Allow rfl rfl rfl rfl <| ST (i := 0) [_, _, _, _] [_, _, _, _] tyS_impl_Allow.sz rfl rfl rfl rfl rfl rfl rfl rfl <| AS rfl rfl <| ND <| ret_cv Try.func47 (res2 Try.func47 rfl (rv_s (i := 0) [_, _, _, _] tyS_impl_Allow rfl rfl rfl rfl) (rv_tmp rfl)) <| ?_
      simp only [raiseAllow, h1, h2] <;> rfl
    · refine SK <| SQ <| RG <| FA rfl tyF_impl_Allow_3 rfl <| LD (i := 1) rfl tyP_int rfl rfl rfl <| FA rfl tyF_impl_Allow_0 rfl <| LD (i := 1) rfl tyP_int rfl rfl rfl <| rw_add rfl rfl rfl <| FA rfl tyF_impl_Allow_1 rfl <| ST (i := 1) [_] [_, _, _, _] tyP_int.sz rfl rfl rfl rfl rfl rfl rfl rfl <| ND <| SQ <| RG <| LS (i := 1) [_, _, _, _] rfl tyS_impl_Allow rfl rfl rfl rfl <| ST (i := 0) [_, _, _, _] [_, _, _, _] tyS_impl_Allow.sz rfl rfl rfl rfl rfl rfl rfl rfl <| AS rfl rfl <| ND <| ?_
      refine ret_cv Try.func47 (res2 Try.func47 rfl (rv_s (i := 0) [_, _, _, _] tyS_impl_Allow rfl rfl rfl rfl) (rv_tmp rfl)) <| ?_
      simp only [raiseAllow, h1, h2] <;> rfl

theorem law_FnExactRaiseAllow (a : Allow) (w : World) : CV Try.prog 12 [.agg a.cells.toArray] w (.bool true) := by
  refine cv_of Try.func12 rfl rfl rfl <| SQ <| RG <| BX [_, _, _, _] rfl rfl rfl <| fun b1 => AS rfl rfl <| ND <| SQ <| RG <| LS (i := 0) [_, _, _, _] rfl tyS_laws_Allow rfl rfl rfl rfl <| CV1 rfl fun_laws_toAllow rfl (fun w hs => laws_toAllow _ w) <| CV1 rfl fun_spec_RaiseAllow rfl (fun w hs => spec_RaiseAllow _ w) <| MV rfl rfl <| XT rfl rfl rfl <| XT rfl rfl rfl <| AL rfl tyZ_impl_Allow <| fun b2 => ST (i := 0) [_, _, _, _] [_, _, _, _] tyS_impl_Allow.sz rfl rfl rfl rfl rfl rfl rfl rfl <| ?_
  refine AS rfl rfl <| ND <| SQ <| RG <| LS (i := 1) [_, _, _, _] rfl tyS_laws_Allow rfl rfl rfl rfl <| CV1 rfl fun_laws_toAllow rfl (fun w hs => laws_toAllow _ w) <| CV1 rfl fun_impl_RaiseAllow rfl (fun w hs => impl_RaiseAllow _ w) <| MV rfl rfl <| XT rfl rfl rfl <| XT rfl rfl rfl <| AL rfl tyZ_impl_Allow <| fun b3 => ST (i := 0) [_, _, _, _] [_, _, _, _] tyS_impl_Allow.sz rfl rfl rfl rfl rfl rfl rfl rfl <| AS rfl rfl <| ND <| SQ <| SQ <| RG <| LS (i := 0) [_, _, _, _] rfl tyS_impl_Allow rfl rfl rfl rfl <| ?_
  refine LS (i := 1) [_, _, _, _] rfl tyS_impl_Allow rfl rfl rfl rfl <| CV1 rfl fun_laws_eqAllow rfl (fun w hs => laws_eqAllow _ w) <| NT rfl rfl <| MV rfl rfl <| ON rfl rfl rfl <| MV rfl rfl <| ON rfl rfl rfl <| MV rfl rfl <| ON rfl rfl rfl <| rw_neqSelfB (by kernel_rfl) rfl rfl rfl <| PF rfl rfl rfl rfl <| ND <| CF rfl rfl <| SK <| SQ <| RG <| AS rfl rfl <| ND <| ret_cv Try.func12 (res1 Try.func12 rfl (rv_tmp rfl)) <| ?_
  rfl

theorem laws_szCandidateS {w : World} {v : Value} {l : List Candidate} (hv : RdS w 3 (Pl Candidate.cells) v l) (n : Int) : CV Try.prog 48 [v, .int .i64 n] w (.int .i64 (szLen l n)) := by
  obtain ⟨A, c, rfl, hA⟩ := hv
  refine cv_of Try.func48 rfl rfl rfl <| SQ <| RG <| AS rfl rfl <| ND <| SQ <| RG <| MV rfl rfl <| MV rfl rfl <| rw_len rfl tyE_S_laws_Candidate rfl <| rw_sub rfl rfl rfl <| AS rfl rfl <| ND <| SQ <| SQ <| RG <| MV rfl rfl <| rw_lss rfl rfl rfl <| ND <| ?_
  refine gw_cond rfl (fun h1 => ?_) (fun h1 => ?_)
  · refine SQ <| RG <| AS rfl rfl <| ND <| ret_cv Try.func48 (res1 Try.func48 rfl (rv_tmp rfl)) <| ?_
    simp only [szLen, h1] <;> rfl
  · refine SK <| SQ <| RG <| MV rfl rfl <| AS rfl rfl <| ND <| ret_cv Try.func48 (res1 Try.func48 rfl (rv_tmp rfl)) <| ?_
    simp only [szLen, h1] <;> rfl

theorem laws_toCandidate (a : Candidate) (w : World) : CV Try.prog 67 [.agg a.cells.toArray] w (.agg a.cells.toArray) := by
  refine cv_of Try.func67 rfl rfl rfl <| SQ <| RG <| BX [_, _, _] rfl rfl rfl <| fun b1 => AL rfl tyZ_impl_Candidate <| fun b2 => ND <| SQ <| RG <| AL rfl tyZ_impl_Candidate <| fun b3 => ND <| SQ <| RG <| FA rfl tyF_laws_Candidate_0 rfl <| LD (i := 2) rfl tyP_int rfl rfl rfl <| FA rfl tyF_impl_Candidate_0 rfl <| ST (i := 0) [_] [_, _, _] tyP_int.sz rfl rfl rfl rfl rfl rfl rfl rfl <| ND <| SQ <| RG <| FA rfl tyF_laws_Candidate_1 rfl <| LS (i := 2) [_, _] rfl tyS_laws_Priority rfl rfl rfl rfl <| ?_
  refine CV1 rfl fun_laws_toPriority rfl (fun w hs => laws_toPriority _ w) <| FA rfl tyF_impl_Candidate_1 rfl <| ST (i := 0) [_, _] [_, _, _] tyS_impl_Priority.sz rfl rfl rfl rfl rfl rfl rfl rfl <| ND <| SQ <| RG <| LS (i := 0) [_, _, _] rfl tyS_impl_Candidate rfl rfl rfl rfl <| ST (i := 1) [_, _, _] [_, _, _] tyS_impl_Candidate.sz rfl rfl rfl rfl rfl rfl rfl rfl <| ND <| ret_cv Try.func67 (res1 Try.func67 rfl (rv_s (i := 1) [_, _, _] tyS_impl_Candidate rfl rfl rfl rfl)) <| ?_
  rfl

theorem laws_toCandidateS {w : World} {v : Value} {l : List Candidate} (hv : RdS w 3 (Pl Candidate.cells) v l) (hb : l.length ≤ 134217728) : CN Try.prog 50 [v] w (fun v ch => OwS 88 3 (PlO Candidate.cells) v l ch) := by
  obtain ⟨A, c, rfl, hA⟩ := hv
  refine cn_of Try.func50 rfl rfl rfl <| SQ <| RG <| AS rfl rfl <| ND <| SQ <| RG <| MV rfl rfl <| rw_len rfl tyE_S_laws_Candidate rfl <| rw_make rfl tyM_S_impl_Candidate rfl rfl hb <| fun b1 => AS rfl rfl <| ND <| SQ <| SQ <| RG <| AS rfl rfl <| ND <| BK <| ?_
  refine gw_loopX (α := Nat × List Value × List Ck) (fun x => x.1 ≤ l.length ∧ Ows (PlO Candidate.cells) (l.take x.1) x.2.1 x.2.2) (fun x => l.length - x.1) (fun e x => (4, .int .i64 (x.1 : Int)) :: e) (fun B x => B.set 0 ⟨b1, 88, x.2.1 ++ (List.replicate (l.length - x.1) [.int .i64 0, .int .i64 0, .bool false]).flatten⟩) (fun F x => x.2.2 ++ F) (0, [], []) [(0, _), (2, _), (3, _)] (Sub.consE rfl rfl (Sub.cons (i := 0) rfl (Sub.cons (i := 2) rfl (Sub.cons (i := 3) rfl (Sub.nil _))))) rfl rfl ?_ ?_
  · exact ⟨Nat.zero_le _, .nil⟩
  · rintro ⟨i, cs, chs⟩ hI1 ih1
    dsimp only at hI1
    dsimp only [List.set]
    obtain ⟨hle, hO⟩ := hI1
    refine SQ <| SQ <| RG <| MV rfl rfl <| MV rfl rfl <| rw_len rfl tyE_S_laws_Candidate rfl <| rw_lss rfl rfl rfl <| ND <| ?_
    refine gw_cond rfl (fun h1 => ?_) (fun h1 => ?_)
    · have hi2 := lt_of_dec h1
      obtain ⟨x3, hx3⟩ := get_of_lt hi2
      have hd3 := drop_cons hx3
      refine SK <| SQ <| BK <| RG <| MV rfl rfl <| MV rfl rfl <| MV rfl rfl <| MV rfl rfl <| ?_
      have hq4 := hA.plain hx3
      refine rw_indexAddr (i) rfl tyE_S_laws_Candidate rfl rfl rfl (hA.some hi2) hi2 <| rw_loadX_s [_, _, _] rfl tyS_laws_Candidate rfl rfl (fun w hs => hq4.lds0 (n := 3) hs rfl) <| CV1 rfl fun_laws_toCandidate rfl (fun w hs => laws_toCandidate _ w) <| rw_indexAddrO (i) rfl tyE_S_impl_Candidate rfl rfl rfl hi2 <| rw_storeMade (j := 0) [_, _, _] tyS_impl_Candidate.sz rfl rfl rfl rfl rfl rfl (by rw [hO.length eCandidate, List.length_take]; congr 1; omega) hi2 (eCandidate.one ⟨rfl, rfl⟩) <| ND <| IB <| RG <| MV rfl rfl <| rw_add rfl rfl rfl <| AS rfl rfl <| ?_
      refine ND <| ?_
      refine gw_sub (Sub.consE (i := 4) rfl (int_succ (by omega)) (Sub.cons (i := 0) rfl (Sub.cons (i := 2) rfl (Sub.cons (i := 3) rfl (Sub.nil _))))) (ih1 (i + 1, cs ++ (Candidate.cells x3), chs) ?_ ?_)
      · exact ⟨by omega, by simpa using ows_step hO hx3 (ch := []) ⟨rfl, rfl⟩⟩
      · show l.length - (i + 1) < l.length - i; omega
    · have hn5 := nil_of_dec h1
      refine EX rfl <| SQ <| RG <| MV rfl rfl <| AS rfl rfl <| ND <| ?_
      refine ret_cn (⟨b1, 88, cs ++ (List.replicate (l.length - i) [.int .i64 0, .int .i64 0, .bool false]).flatten⟩ :: chs) Try.func50 (res1 Try.func50 rfl (rv_tmp rfl)) ?_ ?_
      · exact ows_made eCandidate hO hle hn5 hb
      · simp

theorem spec_l4Quic (a : Int) (w : World) : CV Try.prog 66 [.int .i64 a] w (.bool (isQuic a)) := by
  refine cv_of Try.func66 rfl rfl rfl <| SQ <| RG <| AS rfl rfl <| ND <| SQ <| RG <| MV rfl rfl <| CV1 rfl fun_spec_l1In rfl (fun w hs => spec_l1In _ _ _ w) <| AS rfl rfl <| ND <| ret_cv Try.func66 (res1 Try.func66 rfl (rv_tmp rfl)) <| ?_
  rfl

theorem spec_AreCandidates {w : World} {v : Value} {l : List Candidate} (hv : RdS w 3 (Pl Candidate.cells) v l) (hb : l.length ≤ 134217728) : CV Try.prog 49 [v] w (.bool (areCandidates l)) := by
  obtain ⟨A, c, rfl, hA⟩ := hv
  refine cv_of Try.func49 rfl rfl rfl <| SQ <| RG <| AS rfl rfl <| ND <| SQ <| SQ <| RG <| AS rfl rfl <| ND <| BK <| ?_
  refine gw_loopC (α := Nat) (fun x => x ≤ l.length ∧ areCandidates l = areFrom ((prevOf l x).map (·.id)) (l.drop x)) (fun x => l.length - x) (fun e x => (3, .int .i64 (x : Int)) :: e) 0 [(0, _)] (Sub.consE rfl rfl (Sub.cons (i := 0) rfl (Sub.nil _))) ?_ ?_
  · exact ⟨Nat.zero_le _, rfl⟩
  · rintro i hI1 ih1
    try dsimp only
    obtain ⟨hle, hI⟩ := hI1
    refine SQ <| SQ <| RG <| MV rfl rfl <| MV rfl rfl <| rw_len rfl tyE_S_impl_Candidate rfl <| rw_lss rfl rfl rfl <| ND <| ?_
    refine gw_cond rfl (fun h1 => ?_) (fun h1 => ?_)
    · have hi2 := lt_of_dec h1
      obtain ⟨x3, hx3⟩ := get_of_lt hi2
      have hd3 := drop_cons hx3
      refine SK <| SQ <| BK <| SQ <| gw_draw' [(0, .det), (1, .det), (2, .det), (3, .det), (4, .det), (5, .det), (6, .det), (7, .det), (8, .det), (9, .det), (10, .det), (11, .det), (12, .det), (13, .det), (14, .det), (15, .det), (16, .det), (17, .det), (18, .det), (19, .det), (20, .det), (21, .det), (22, .det), (23, .det), (24, .det), (25, .det), (26, .det), (27, .det), (28, .det), (29, .det), (30, .det)] [31, 32, 33] mixed rfl (free_det (free_det (free_det (free_det (free_det (free_det (free_det (free_det (free_det (free_det (free_det (free_det (free_det (free_det (free_det (free_det (free_det (free_det (free_det (free_det (free_det (free_det (free_det (free_det (free_det (free_det (free_det (free_det (free_det (free_det (free_det free_nil))))))))))))))))))))))))))))))) (ts := [_, _, _]) rfl <| ?_
      refine DT rfl rfl (fun K hk => MV rfl rfl hk) <| DT rfl rfl (fun K hk => MV rfl rfl hk) <| ?_
      have hq4 := hA.plain hx3
      refine DT rfl rfl (fun K hk => rw_indexAddr (i) rfl tyE_S_impl_Candidate rfl rfl rfl (hA.some hi2) hi2 hk) <| DT rfl rfl (fun K hk => FX rfl tyF_impl_Candidate_0 rfl hk) <| DT rfl rfl (fun K hk => rw_loadX _ rfl tyP_int rfl (fun w hs => hq4.ld hs rfl) hk) <| DT rfl rfl (fun K hk => CV1 rfl fun_spec_l4Quic rfl (fun w hs => spec_l4Quic _ w) hk) <| DT rfl rfl (fun K hk => NT rfl rfl hk) <| DT rfl rfl (fun K hk => MV rfl rfl hk) <| ?_
      refine dw_case (i := 17) rfl (fun h2 => ?_) (fun h2 => ?_)
      · replace h2 := of_not_T h2
        refine DT rfl rfl (fun K hk => OF rfl rfl (not_F h2) rfl hk) <| DT rfl rfl (fun K hk => OF rfl rfl (not_F h2) rfl hk) <| DT rfl rfl (fun K hk => OF rfl rfl (not_F h2) rfl hk) <| DT rfl rfl (fun K hk => OF rfl rfl (not_F h2) rfl hk) <| DT rfl rfl (fun K hk => OF rfl rfl (not_F h2) rfl hk) <| DT rfl rfl (fun K hk => OF rfl rfl (not_F h2) rfl hk) <| DT rfl rfl (fun K hk => OF rfl rfl (not_F h2) rfl hk) <| DT rfl rfl (fun K hk => PT rfl rfl (not_F h2) rfl hk) <| DT rfl rfl (fun K hk => MV rfl rfl hk) <| ?_
        refine DT rfl rfl (fun K hk => OF rfl rfl rfl rfl hk) <| DT rfl rfl (fun K hk => OF rfl rfl rfl rfl hk) <| DT rfl rfl (fun K hk => OF rfl rfl rfl rfl hk) <| DT rfl rfl (fun K hk => OU rfl rfl rfl hk) <| DT rfl rfl (fun K hk => OU rfl rfl rfl hk) <| DT rfl rfl (fun K hk => OU rfl rfl rfl hk) <| DT rfl rfl (fun K hk => OU rfl rfl rfl hk) <| DT rfl rfl (fun K hk => OU rfl rfl rfl hk) <| DT rfl rfl (fun K hk => OU rfl rfl rfl hk) <| DT rfl rfl (fun K hk => OU rfl rfl rfl hk) <| ?_
        refine DT rfl rfl (fun K hk => OU rfl rfl rfl hk) <| DT rfl rfl (fun K hk => OU rfl rfl rfl hk) <| DT rfl rfl (fun K hk => OU rfl rfl rfl hk) <| DT rfl rfl (fun K hk => OU rfl rfl rfl hk) <| dw_nil <| OU rfl rfl rfl <| OF rfl rfl rfl rfl <| PT rfl rfl rfl rfl <| ND <| CT rfl rfl <| SQ <| RG <| AS rfl rfl <| ND <| ret_cv Try.func49 (res1 Try.func49 rfl (rv_tmp rfl)) <| ?_
        rw [hI, hd3]; simp [areFrom, h2]
      · replace h2 := of_not_F h2
        refine DT rfl rfl (fun K hk => ON rfl rfl (not_T h2) (MV rfl rfl hk)) <| DT rfl rfl (fun K hk => ON rfl rfl (not_T h2) (MV rfl rfl hk)) <| DT rfl rfl (fun K hk => ON rfl rfl (not_T h2) (rw_indexAddr (i) rfl tyE_S_impl_Candidate rfl rfl rfl (hA.some hi2) hi2 hk)) <| DT rfl rfl (fun K hk => ON rfl rfl (not_T h2) (FX rfl tyF_impl_Candidate_1 rfl hk)) <| DT rfl rfl (fun K hk => ON rfl rfl (not_T h2) (rw_loadX_s [_, _] rfl tyS_impl_Priority rfl rfl (fun w hs => hq4.lds (n := 2) hs rfl) hk)) <| ?_
        refine DT rfl rfl (fun K hk => ON rfl rfl (not_T h2) (CV1 rfl fun_spec_IsPriority rfl (fun w hs => spec_IsPriority _ w) hk)) <| DT rfl rfl (fun K hk => ON rfl rfl (not_T h2) (NT rfl rfl hk)) <| DT rfl rfl (fun K hk => PF rfl rfl (not_T h2) rfl hk) <| DT rfl rfl (fun K hk => MV rfl rfl hk) <| ?_
        refine dw_case (i := 26) rfl (fun h3 => ?_) (fun h3 => ?_)
        · replace h3 := of_not_T h3
          refine DT rfl rfl (fun K hk => OF rfl rfl (not_F h3) rfl hk) <| DT rfl rfl (fun K hk => OF rfl rfl (not_F h3) rfl hk) <| DT rfl rfl (fun K hk => OF rfl rfl (not_F h3) rfl hk) <| DT rfl rfl (fun K hk => OU rfl rfl rfl hk) <| DT rfl rfl (fun K hk => OU rfl rfl rfl hk) <| DT rfl rfl (fun K hk => OU rfl rfl rfl hk) <| DT rfl rfl (fun K hk => OU rfl rfl rfl hk) <| DT rfl rfl (fun K hk => OU rfl rfl rfl hk) <| DT rfl rfl (fun K hk => OU rfl rfl rfl hk) <| DT rfl rfl (fun K hk => OU rfl rfl rfl hk) <| ?_
          refine DT rfl rfl (fun K hk => OU rfl rfl rfl hk) <| DT rfl rfl (fun K hk => OU rfl rfl rfl hk) <| DT rfl rfl (fun K hk => OU rfl rfl rfl hk) <| DT rfl rfl (fun K hk => OU rfl rfl rfl hk) <| dw_nil <| OU rfl rfl rfl <| OF rfl rfl (not_F h3) rfl <| PT rfl rfl (not_F h3) rfl <| ND <| CT rfl rfl <| SQ <| RG <| AS rfl rfl <| ND <| ret_cv Try.func49 (res1 Try.func49 rfl (rv_tmp rfl)) <| ?_
          rw [hI, hd3]; simp [areFrom, h2, h3]
        · replace h3 := of_not_F h3
          refine DT rfl rfl (fun K hk => ON rfl rfl (not_T h3) (MV rfl rfl hk)) <| DT rfl rfl (fun K hk => ON rfl rfl (not_T h3) (rw_gtr rfl rfl rfl hk)) <| DT rfl rfl (fun K hk => ON rfl rfl (not_T h3) (MV rfl rfl hk)) <| ?_
          refine dw_case (i := 29) rfl (fun h4 => ?_) (fun h4 => ?_)
          · have hp5 := pos_of h4
            refine DT rfl rfl (fun K hk => ON rfl rfl h4 (MV rfl rfl hk)) <| DT rfl rfl (fun K hk => ON rfl rfl h4 (MV rfl rfl hk)) <| DT rfl rfl (fun K hk => ON rfl rfl h4 (rw_indexAddr (i) rfl tyE_S_impl_Candidate rfl rfl rfl (hA.some hi2) hi2 hk)) <| DT rfl rfl (fun K hk => ON rfl rfl h4 (FX rfl tyF_impl_Candidate_0 rfl hk)) <| DT rfl rfl (fun K hk => ON rfl rfl h4 (rw_loadX _ rfl tyP_int rfl (fun w hs => hq4.ld hs rfl) hk)) <| DT rfl rfl (fun K hk => ON rfl rfl h4 (MV rfl rfl hk)) <| ?_
            refine DT rfl rfl (fun K hk => ON rfl rfl h4 (MV rfl rfl hk)) <| DT rfl rfl (fun K hk => ON rfl rfl h4 (rw_sub rfl rfl rfl hk)) <| ?_
            have hi6 : i - 1 < l.length := by omega
            obtain ⟨x7, hx7⟩ := get_of_lt hi6
            have hd7 := drop_cons hx7
            have hq8 := hA.plain hx7
            refine DT rfl rfl (fun K hk => ON rfl rfl h4 (rw_indexAddr (i - 1) rfl tyE_S_impl_Candidate rfl rfl (pred_of h4 (by omega)) (hA.some hi6) hi6 hk)) <| DT rfl rfl (fun K hk => ON rfl rfl h4 (FX rfl tyF_impl_Candidate_0 rfl hk)) <| DT rfl rfl (fun K hk => ON rfl rfl h4 (rw_loadX _ rfl tyP_int rfl (fun w hs => hq8.ld hs rfl) hk)) <| dw_nil <| ON rfl rfl h4 <| rw_leq rfl rfl rfl <| ON rfl rfl (not_T h3) <| PT rfl rfl h4 rfl <| PF rfl rfl (not_T h3) rfl <| ND <| ?_
            refine gw_cond rfl (fun h5 => ?_) (fun h5 => ?_)
            · refine SQ <| RG <| AS rfl rfl <| ND <| ret_cv Try.func49 (res1 Try.func49 rfl (rv_tmp rfl)) <| ?_
              rw [hI, hd3]; simp [areFrom, h2, h3, h5, prevOf_pos hp5 hx7]
            · refine SK <| IB <| RG <| MV rfl rfl <| rw_add rfl rfl rfl <| AS rfl rfl <| ND <| ?_
              refine gw_sub (Sub.consE (i := 3) rfl (int_succ (by omega)) (Sub.cons (i := 0) rfl (Sub.nil _))) (ih1 (i + 1) ?_ ?_)
              · exact ⟨by omega, by rw [hI, hd3, prevOf_succ, hx3]; simp [areFrom, h2, h3, h5, prevOf_pos hp5 hx7]⟩
              · show l.length - (i + 1) < l.length - i; omega
          · have hz9 := zero_of h4
            refine DT rfl rfl (fun K hk => OF rfl rfl h4 rfl hk) <| DT rfl rfl (fun K hk => OF rfl rfl h4 rfl hk) <| DT rfl rfl (fun K hk => OF rfl rfl h4 rfl hk) <| DT rfl rfl (fun K hk => OF rfl rfl h4 rfl hk) <| DT rfl rfl (fun K hk => OF rfl rfl h4 rfl hk) <| DT rfl rfl (fun K hk => OF rfl rfl h4 rfl hk) <| DT rfl rfl (fun K hk => OF rfl rfl h4 rfl hk) <| DT rfl rfl (fun K hk => OF rfl rfl h4 rfl hk) <| DT rfl rfl (fun K hk => OF rfl rfl h4 rfl hk) <| DT rfl rfl (fun K hk => OF rfl rfl h4 rfl hk) <| ?_
            refine DT rfl rfl (fun K hk => OF rfl rfl h4 rfl hk) <| dw_nil <| OF rfl rfl h4 rfl <| ON rfl rfl (not_T h3) <| PF rfl rfl h4 rfl <| PF rfl rfl (not_T h3) rfl <| ND <| CF rfl rfl <| SK <| IB <| RG <| MV rfl rfl <| rw_add rfl rfl rfl <| AS rfl rfl <| ND <| ?_
            refine gw_sub (Sub.consE (i := 3) rfl (int_succ (by omega)) (Sub.cons (i := 0) rfl (Sub.nil _))) (ih1 (i + 1) ?_ ?_)
            · exact ⟨by omega, by rw [hI, hd3, prevOf_succ, hx3]; simp [areFrom, h2, h3, prevOf_z (l := l) hz9]⟩
            · show l.length - (i + 1) < l.length - i; omega
    · have hn10 := nil_of_dec h1
      refine EX rfl <| SQ <| RG <| AS rfl rfl <| ND <| ret_cv Try.func49 (res1 Try.func49 rfl (rv_tmp rfl)) <| ?_
      rw [hI, hn10]; rfl

theorem impl_isQuic (a : Int) (w : World) : CV Try.prog 68 [.int .i64 a] w (.bool (isQuic a)) := by
  refine cv_of Try.func68 rfl rfl rfl <| SQ <| RG <| AS rfl rfl <| ND <| SQ <| RG <| MV rfl rfl <| CV1 rfl fun_impl_within rfl (fun w hs => impl_within _ _ _ w) <| AS rfl rfl <| ND <| ret_cv Try.func68 (res1 Try.func68 rfl (rv_tmp rfl)) <| ?_
  rfl

theorem impl_AreCandidates {w : World} {v : Value} {l : List Candidate} (hv : RdS w 3 (Pl Candidate.cells) v l) (hb : l.length ≤ 134217728) : CV Try.prog 51 [v] w (.bool (areCandidates l)) := by
  obtain ⟨A, c, rfl, hA⟩ := hv
  refine cv_of Try.func51 rfl rfl rfl <| SQ <| RG <| AS rfl rfl <| ND <| SQ <| SQ <| RG <| MV rfl rfl <| rw_len rfl tyE_S_impl_Candidate rfl <| MV rfl rfl <| ND <| BK <| ?_
  refine gw_loopC (α := Nat) (fun x => x ≤ l.length ∧ areCandidates l = areFrom ((prevOf l x).map (·.id)) (l.drop x)) (fun x => l.length - x) (fun e x => (7, .int .i64 (x : Int)) :: e) 0 [(0, _), (5, _), (6, _)] (Sub.consE rfl rfl (Sub.cons (i := 0) rfl (Sub.cons (i := 5) rfl (Sub.cons (i := 6) rfl (Sub.nil _))))) ?_ ?_
  · exact ⟨Nat.zero_le _, rfl⟩
  · rintro i hI1 ih1
    try dsimp only
    obtain ⟨hle, hI⟩ := hI1
    refine SQ <| RG <| rw_lss rfl rfl rfl <| ND <| SQ <| ?_
    refine gw_cond rfl (fun h1 => ?_) (fun h1 => ?_)
    · have hi2 := lt_of_dec h1
      obtain ⟨x3, hx3⟩ := get_of_lt hi2
      have hd3 := drop_cons hx3
      refine SK <| SQ <| BK <| SQ <| RG <| MV rfl rfl <| ?_
      have hq4 := hA.plain hx3
      refine rw_indexAddr (i) rfl tyE_S_impl_Candidate rfl rfl rfl (hA.some hi2) hi2 <| rw_loadX_s [_, _, _] rfl tyS_impl_Candidate rfl rfl (fun w hs => hq4.lds0 (n := 3) hs rfl) <| AL rfl tyZ_impl_Candidate <| fun b1 => AS rfl rfl <| ST (i := 0) [_, _, _] [_, _, _] tyS_impl_Candidate.sz rfl rfl rfl rfl rfl rfl rfl rfl <| ND <| SQ <| gw_draw' [(0, .det), (1, .det), (2, .det), (3, .det), (4, .det), (5, .det), (6, .det), (7, .det), (8, .det), (9, .det), (10, .det), (11, .det), (12, .det), (13, .det), (14, .det), (15, .det), (16, .det), (17, .det), (18, .det), (19, .det), (20, .det), (21, .det)] [22, 23, 24] mixed rfl (free_det (free_det (free_det (free_det (free_det (free_det (free_det (free_det (free_det (free_det (free_det (free_det (free_det (free_det (free_det (free_det (free_det (free_det (free_det (free_det (free_det (free_det free_nil)))))))))))))))))))))) (ts := [_, _, _]) rfl <| ?_
      refine DT rfl rfl (fun K hk => FA rfl tyF_impl_Candidate_0 rfl hk) <| DT rfl rfl (fun K hk => LD (i := 0) rfl tyP_int rfl rfl rfl hk) <| DT rfl rfl (fun K hk => CV1 rfl fun_impl_isQuic rfl (fun w hs => impl_isQuic _ w) hk) <| DT rfl rfl (fun K hk => NT rfl rfl hk) <| DT rfl rfl (fun K hk => MV rfl rfl hk) <| ?_
      refine dw_case (i := 16) rfl (fun h2 => ?_) (fun h2 => ?_)
      · replace h2 := of_not_T h2
        refine DT rfl rfl (fun K hk => OF rfl rfl (not_F h2) rfl hk) <| DT rfl rfl (fun K hk => OF rfl rfl (not_F h2) rfl hk) <| DT rfl rfl (fun K hk => OF rfl rfl (not_F h2) rfl hk) <| DT rfl rfl (fun K hk => OF rfl rfl (not_F h2) rfl hk) <| DT rfl rfl (fun K hk => PT rfl rfl (not_F h2) rfl hk) <| DT rfl rfl (fun K hk => MV rfl rfl hk) <| DT rfl rfl (fun K hk => OF rfl rfl rfl rfl hk) <| DT rfl rfl (fun K hk => OF rfl rfl rfl rfl hk) <| DT rfl rfl (fun K hk => OF rfl rfl rfl rfl hk) <| DT rfl rfl (fun K hk => OU rfl rfl rfl hk) <| ?_
        refine DT rfl rfl (fun K hk => OU rfl rfl rfl hk) <| DT rfl rfl (fun K hk => OU rfl rfl rfl hk) <| DT rfl rfl (fun K hk => OU rfl rfl rfl hk) <| DT rfl rfl (fun K hk => OU rfl rfl rfl hk) <| DT rfl rfl (fun K hk => OU rfl rfl rfl hk) <| DT rfl rfl (fun K hk => OU rfl rfl rfl hk) <| DT rfl rfl (fun K hk => OU rfl rfl rfl hk) <| dw_nil <| OU rfl rfl rfl <| OF rfl rfl rfl rfl <| PT rfl rfl rfl rfl <| ND <| CT rfl rfl <| SQ <| RG <| AS rfl rfl <| ND <| ret_cv Try.func51 (res1 Try.func51 rfl (rv_tmp rfl)) <| ?_
        rw [hI, hd3]; simp [areFrom, h2]
      · replace h2 := of_not_F h2
        refine DT rfl rfl (fun K hk => ON rfl rfl (not_T h2) (FA rfl tyF_impl_Candidate_1 rfl hk)) <| DT rfl rfl (fun K hk => ON rfl rfl (not_T h2) (LS (i := 0) [_, _] rfl tyS_impl_Priority rfl rfl rfl rfl hk)) <| DT rfl rfl (fun K hk => ON rfl rfl (not_T h2) (CV1 rfl fun_impl_IsPriority rfl (fun w hs => impl_IsPriority _ w) hk)) <| DT rfl rfl (fun K hk => ON rfl rfl (not_T h2) (NT rfl rfl hk)) <| DT rfl rfl (fun K hk => PF rfl rfl (not_T h2) rfl hk) <| DT rfl rfl (fun K hk => MV rfl rfl hk) <| ?_
        refine dw_case (i := 22) rfl (fun h3 => ?_) (fun h3 => ?_)
        · replace h3 := of_not_T h3
          refine DT rfl rfl (fun K hk => OF rfl rfl (not_F h3) rfl hk) <| DT rfl rfl (fun K hk => OF rfl rfl (not_F h3) rfl hk) <| DT rfl rfl (fun K hk => OF rfl rfl (not_F h3) rfl hk) <| DT rfl rfl (fun K hk => OU rfl rfl rfl hk) <| DT rfl rfl (fun K hk => OU rfl rfl rfl hk) <| DT rfl rfl (fun K hk => OU rfl rfl rfl hk) <| DT rfl rfl (fun K hk => OU rfl rfl rfl hk) <| DT rfl rfl (fun K hk => OU rfl rfl rfl hk) <| DT rfl rfl (fun K hk => OU rfl rfl rfl hk) <| DT rfl rfl (fun K hk => OU rfl rfl rfl hk) <| ?_
          refine DT rfl rfl (fun K hk => OU rfl rfl rfl hk) <| dw_nil <| OU rfl rfl rfl <| OF rfl rfl (not_F h3) rfl <| PT rfl rfl (not_F h3) rfl <| ND <| CT rfl rfl <| SQ <| RG <| AS rfl rfl <| ND <| ret_cv Try.func51 (res1 Try.func51 rfl (rv_tmp rfl)) <| ?_
          rw [hI, hd3]; simp [areFrom, h2, h3]
        · replace h3 := of_not_F h3
          refine DT rfl rfl (fun K hk => ON rfl rfl (not_T h3) (MV rfl rfl hk)) <| DT rfl rfl (fun K hk => ON rfl rfl (not_T h3) (rw_gtr rfl rfl rfl hk)) <| DT rfl rfl (fun K hk => ON rfl rfl (not_T h3) (MV rfl rfl hk)) <| ?_
          refine dw_case (i := 25) rfl (fun h4 => ?_) (fun h4 => ?_)
          · have hp5 := pos_of h4
            refine DT rfl rfl (fun K hk => ON rfl rfl h4 (MV rfl rfl hk)) <| DT rfl rfl (fun K hk => ON rfl rfl h4 (MV rfl rfl hk)) <| DT rfl rfl (fun K hk => ON rfl rfl h4 (rw_sub rfl rfl rfl hk)) <| ?_
            have hi6 : i - 1 < l.length := by omega
            obtain ⟨x7, hx7⟩ := get_of_lt hi6
            have hd7 := drop_cons hx7
            have hq8 := hA.plain hx7
            refine DT rfl rfl (fun K hk => ON rfl rfl h4 (rw_indexAddr (i - 1) rfl tyE_S_impl_Candidate rfl rfl (pred_of h4 (by omega)) (hA.some hi6) hi6 hk)) <| DT rfl rfl (fun K hk => ON rfl rfl h4 (FX rfl tyF_impl_Candidate_0 rfl hk)) <| DT rfl rfl (fun K hk => ON rfl rfl h4 (rw_loadX _ rfl tyP_int rfl (fun w hs => hq8.ld hs rfl) hk)) <| DT rfl rfl (fun K hk => ON rfl rfl h4 (FA rfl tyF_impl_Candidate_0 rfl hk)) <| DT rfl rfl (fun K hk => ON rfl rfl h4 (LD (i := 0) rfl tyP_int rfl rfl rfl hk)) <| ?_
            refine dw_nil <| ON rfl rfl h4 <| rw_geq rfl rfl rfl <| ON rfl rfl (not_T h3) <| PT rfl rfl h4 rfl <| PF rfl rfl (not_T h3) rfl <| ND <| ?_
            refine gw_cond rfl (fun h5 => ?_) (fun h5 => ?_)
            · refine SQ <| RG <| AS rfl rfl <| ND <| ret_cv Try.func51 (res1 Try.func51 rfl (rv_tmp rfl)) <| ?_
              rw [hI, hd3]; simp [areFrom, h2, h3, h5, prevOf_pos hp5 hx7]
            · refine SK <| IB <| RG <| rw_add rfl rfl rfl <| MV rfl rfl <| ND <| gw_dropN 1 <| ?_
              refine gw_sub (Sub.consE (i := 7) rfl (int_succ (by omega)) (Sub.cons (i := 0) rfl (Sub.cons (i := 5) rfl (Sub.cons (i := 6) rfl (Sub.nil _))))) (ih1 (i + 1) ?_ ?_)
              · exact ⟨by omega, by rw [hI, hd3, prevOf_succ, hx3]; simp [areFrom, h2, h3, h5, prevOf_pos hp5 hx7]⟩
              · show l.length - (i + 1) < l.length - i; omega
          · have hz9 := zero_of h4
            refine DT rfl rfl (fun K hk => OF rfl rfl h4 rfl hk) <| DT rfl rfl (fun K hk => OF rfl rfl h4 rfl hk) <| DT rfl rfl (fun K hk => OF rfl rfl h4 rfl hk) <| DT rfl rfl (fun K hk => OF rfl rfl h4 rfl hk) <| DT rfl rfl (fun K hk => OF rfl rfl h4 rfl hk) <| DT rfl rfl (fun K hk => OF rfl rfl h4 rfl hk) <| DT rfl rfl (fun K hk => OF rfl rfl h4 rfl hk) <| DT rfl rfl (fun K hk => OF rfl rfl h4 rfl hk) <| dw_nil <| OF rfl rfl h4 rfl <| ON rfl rfl (not_T h3) <| PF rfl rfl h4 rfl <| PF rfl rfl (not_T h3) rfl <| ?_
            refine ND <| CF rfl rfl <| SK <| IB <| RG <| rw_add rfl rfl rfl <| MV rfl rfl <| ND <| gw_dropN 1 <| ?_
            refine gw_sub (Sub.consE (i := 7) rfl (int_succ (by omega)) (Sub.cons (i := 0) rfl (Sub.cons (i := 5) rfl (Sub.cons (i := 6) rfl (Sub.nil _))))) (ih1 (i + 1) ?_ ?_)
            · exact ⟨by omega, by rw [hI, hd3, prevOf_succ, hx3]; simp [areFrom, h2, h3, prevOf_z (l := l) hz9]⟩
            · show l.length - (i + 1) < l.length - i; omega
    · have hn10 := nil_of_dec h1
      refine EX rfl <| SQ <| RG <| AS rfl rfl <| ND <| ret_cv Try.func51 (res1 Try.func51 rfl (rv_tmp rfl)) <| ?_
      rw [hI, hn10]; rfl

theorem laws_eqCandidate (a : Candidate) (w : World) : CV Try.prog 69 [.agg a.cells.toArray, .agg a.cells.toArray] w (.bool true) := by
  refine cv_of Try.func69 rfl rfl rfl <| SQ <| RG <| BX [_, _, _] rfl rfl rfl <| fun b1 => BX [_, _, _] rfl rfl rfl <| fun b2 => AS rfl rfl <| ND <| SQ <| SQ <| RG <| FA rfl tyF_impl_Candidate_0 rfl <| LD (i := 1) rfl tyP_int rfl rfl rfl <| FA rfl tyF_impl_Candidate_0 rfl <| LD (i := 0) rfl tyP_int rfl rfl rfl <| NS rfl rfl rfl <| ND <| CF rfl rfl <| SK <| SQ <| SQ <| RG <| FA rfl tyF_impl_Candidate_1 rfl <| LS (i := 1) [_, _] rfl tyS_impl_Priority rfl rfl rfl rfl <| ?_
  refine FA rfl tyF_impl_Candidate_1 rfl <| LS (i := 0) [_, _] rfl tyS_impl_Priority rfl rfl rfl rfl <| CV1 rfl fun_laws_eqPriority rfl (fun w hs => laws_eqPriority _ w) <| NT rfl rfl <| ND <| CF rfl rfl <| SK <| SQ <| RG <| AS rfl rfl <| ND <| ret_cv Try.func69 (res1 Try.func69 rfl (rv_tmp rfl)) <| ?_
  rfl

theorem laws_eqCandidateS {w : World} {v : Value} {l : List Candidate} (hv : RdS w 3 (Pl Candidate.cells) v l) (hb : l.length ≤ 134217728) {v1 : Value} (hv1 : RdS w 3 (Pl Candidate.cells) v1 l) : CV Try.prog 52 [v, v1] w (.bool true) := by
  obtain ⟨A, c, rfl, hA⟩ := hv
  obtain ⟨A1, c1, rfl, hA1⟩ := hv1
  refine cv_of Try.func52 rfl rfl rfl <| SQ <| RG <| AS rfl rfl <| ND <| SQ <| SQ <| RG <| MV rfl rfl <| rw_len rfl tyE_S_impl_Candidate rfl <| MV rfl rfl <| rw_len rfl tyE_S_impl_Candidate rfl <| NS rfl rfl rfl <| ND <| CF rfl rfl <| SK <| SQ <| SQ <| RG <| AS rfl rfl <| ND <| BK <| ?_
  refine gw_loopC (α := Nat) (fun x => x ≤ l.length) (fun x => l.length - x) (fun e x => (5, .int .i64 (x : Int)) :: e) 0 [(0, _), (1, _)] (Sub.consE rfl rfl (Sub.cons (i := 0) rfl (Sub.cons (i := 1) rfl (Sub.nil _)))) ?_ ?_
  · exact Nat.zero_le _
  · rintro i hI1 ih1
    try dsimp only
    have hle := hI1
    refine SQ <| SQ <| RG <| MV rfl rfl <| MV rfl rfl <| rw_len rfl tyE_S_impl_Candidate rfl <| rw_lss rfl rfl rfl <| ND <| ?_
    refine gw_cond rfl (fun h1 => ?_) (fun h1 => ?_)
    · have hi2 := lt_of_dec h1
      obtain ⟨x3, hx3⟩ := get_of_lt hi2
      have hd3 := drop_cons hx3
      refine SK <| SQ <| BK <| SQ <| gw_draw' [(0, .det), (1, .det), (2, .det), (3, .det), (4, .det), (5, .det), (6, .det), (7, .det)] [8, 9] mixed rfl (free_det (free_det (free_det (free_det (free_det (free_det (free_det (free_det free_nil)))))))) (ts := [_, _]) rfl <| DT rfl rfl (fun K hk => MV rfl rfl hk) <| DT rfl rfl (fun K hk => MV rfl rfl hk) <| ?_
      have hq4 := hA.plain hx3
      refine DT rfl rfl (fun K hk => rw_indexAddr (i) rfl tyE_S_impl_Candidate rfl rfl rfl (hA.some hi2) hi2 hk) <| DT rfl rfl (fun K hk => rw_loadX_s [_, _, _] rfl tyS_impl_Candidate rfl rfl (fun w hs => hq4.lds0 (n := 3) hs rfl) hk) <| DT rfl rfl (fun K hk => MV rfl rfl hk) <| DT rfl rfl (fun K hk => MV rfl rfl hk) <| ?_
      have hq5 := hA1.plain hx3
      refine DT rfl rfl (fun K hk => rw_indexAddr (i) rfl tyE_S_impl_Candidate rfl rfl rfl (hA1.some hi2) hi2 hk) <| DT rfl rfl (fun K hk => rw_loadX_s [_, _, _] rfl tyS_impl_Candidate rfl rfl (fun w hs => hq5.lds0 (n := 3) hs rfl) hk) <| dw_nil <| CV1 rfl fun_laws_eqCandidate rfl (fun w hs => laws_eqCandidate _ w) <| NT rfl rfl <| ND <| CF rfl rfl <| SK <| IB <| RG <| MV rfl rfl <| rw_add rfl rfl rfl <| AS rfl rfl <| ND <| ?_
      refine gw_sub (Sub.consE (i := 5) rfl (int_succ (by omega)) (Sub.cons (i := 0) rfl (Sub.cons (i := 1) rfl (Sub.nil _)))) (ih1 (i + 1) ?_ ?_)
      · omega
      · show l.length - (i + 1) < l.length - i; omega
    · have hn6 := nil_of_dec h1
      refine EX rfl <| SQ <| RG <| AS rfl rfl <| ND <| ret_cv Try.func52 (res1 Try.func52 rfl (rv_tmp rfl)) <| ?_
      rfl

theorem law_FnExactAreCandidates {w : World} {v : Value} {l : List Candidate} (hv : RdS w 3 (Pl Candidate.cells) v l) (hb : l.length ≤ 9223372036854775807) : CV Try.prog 13 [v] w (.bool true) := by
  obtain ⟨A, c, rfl, hA⟩ := hv
  refine cv_of Try.func13 rfl rfl rfl <| SQ <| RG <| AS rfl rfl <| ND <| SQ <| RG <| AS rfl rfl <| ND <| SQ <| RG <| MV rfl rfl <| MV rfl rfl <| CV1 rfl fun_laws_szCandidateS rfl (fun w hs => laws_szCandidateS (hA.s Pl.keeps hs) _) <| AS rfl rfl <| ND <| SQ <| SQ <| RG <| MV rfl rfl <| rw_lss rfl rfl rfl <| ND <| ?_
  refine gw_cond rfl (fun h1 => ?_) (fun h1 => ?_)
  · refine SQ <| RG <| AS rfl rfl <| ND <| ret_cv Try.func13 (res1 Try.func13 rfl (rv_tmp rfl)) <| ?_
    rfl
  · have hle1 : l.length ≤ 1048576 := szLen_le hb h1
    refine SK <| SQ <| RG <| MV rfl rfl <| CN1 rfl fun_laws_toCandidateS rfl (fun w hs => laws_toCandidateS (hA.s Pl.keeps hs) (by omega)) <| fun v2 ch2 how2 => CV1 rfl fun_spec_AreCandidates rfl (fun w hs => spec_AreCandidates (how2.rdH eCandidate hs (fun c hc => List.mem_append_right _ (List.mem_append_left _ hc))) (by omega)) <| AS rfl rfl <| ND <| SQ <| RG <| MV rfl rfl <| CN1 rfl fun_laws_toCandidateS rfl (fun w hs => laws_toCandidateS (hA.s Pl.keeps hs) (by omega)) <| fun v3 ch3 how3 => AS rfl rfl <| ND <| SQ <| RG <| MV rfl rfl <| CV1 rfl fun_impl_AreCandidates rfl (fun w hs => impl_AreCandidates (how3.rdH eCandidate hs (fun c hc => List.mem_append_right _ (List.mem_append_left _ hc))) (by omega)) <| ?_
    refine AS rfl rfl <| ND <| SQ <| SQ <| RG <| MV rfl rfl <| MV rfl rfl <| rw_neqSelfB (by kernel_rfl) rfl rfl rfl <| ND <| CF rfl rfl <| SK <| SQ <| SQ <| RG <| MV rfl rfl <| MV rfl rfl <| CN1 rfl fun_laws_toCandidateS rfl (fun w hs => laws_toCandidateS (hA.s Pl.keeps hs) (by omega)) <| fun v4 ch4 how4 => CV1 rfl fun_laws_eqCandidateS rfl (fun w hs => laws_eqCandidateS (how3.rdH eCandidate hs (fun c hc => List.mem_append_right _ (List.mem_append_right _ (List.mem_append_left _ hc)))) (by omega) (how4.rdH eCandidate hs (fun c hc => List.mem_append_right _ (List.mem_append_left _ hc)))) <| ?_
    refine NT rfl rfl <| ND <| CF rfl rfl <| SK <| SQ <| RG <| AS rfl rfl <| ND <| ret_cv Try.func13 (res1 Try.func13 rfl (rv_tmp rfl)) <| ?_
    rfl

theorem spec_l14After {w : World} {v : Value} {l : List Int} (hv : RdS w 1 (Pl intC) v l) (hb : l.length ≤ 134217728) (last : Int) : CV Try.prog 70 [v, .int .i64 last] w (.int .i64 (nextId l last)) := by
  obtain ⟨A, c, rfl, hA⟩ := hv
  refine cv_of Try.func70 rfl rfl rfl <| SQ <| RG <| AS rfl rfl <| ND <| SQ <| SQ <| RG <| AS rfl rfl <| ND <| BK <| ?_
  refine gw_loopC (α := Nat) (fun x => x ≤ l.length ∧ after last l = after last (l.drop x)) (fun x => l.length - x) (fun e x => (5, .int .i64 (x : Int)) :: e) 0 [(0, _), (1, _)] (Sub.consE rfl rfl (Sub.cons (i := 0) rfl (Sub.cons (i := 1) rfl (Sub.nil _)))) ?_ ?_
  · exact ⟨Nat.zero_le _, rfl⟩
  · rintro i hI1 ih1
    try dsimp only
    obtain ⟨hle, hI⟩ := hI1
    refine SQ <| SQ <| RG <| MV rfl rfl <| MV rfl rfl <| rw_len rfl tyE_S_int rfl <| rw_lss rfl rfl rfl <| ND <| ?_
    refine gw_cond rfl (fun h1 => ?_) (fun h1 => ?_)
    · have hi2 := lt_of_dec h1
      obtain ⟨x3, hx3⟩ := get_of_lt hi2
      have hd3 := drop_cons hx3
      refine SK <| SQ <| BK <| SQ <| RG <| MV rfl rfl <| MV rfl rfl <| ?_
      have hq4 := hA.plain hx3
      refine rw_indexAddr (i) rfl tyE_S_int rfl rfl rfl (hA.some hi2) hi2 <| rw_loadX _ rfl tyP_int rfl (fun w hs => hq4.ld0 hs rfl) <| MV rfl rfl <| rw_gtr rfl rfl rfl <| ND <| ?_
      refine gw_cond rfl (fun h2 => ?_) (fun h2 => ?_)
      · refine SQ <| RG <| MV rfl rfl <| MV rfl rfl <| rw_indexAddr (i) rfl tyE_S_int rfl rfl rfl (hA.some hi2) hi2 <| rw_loadX _ rfl tyP_int rfl (fun w hs => hq4.ld0 hs rfl) <| AS rfl rfl <| ND <| ret_cv Try.func70 (res1 Try.func70 rfl (rv_tmp rfl)) <| ?_
        simp [nextId, hI, hd3, after, h2]
      · refine SK <| IB <| RG <| MV rfl rfl <| rw_add rfl rfl rfl <| AS rfl rfl <| ND <| ?_
        refine gw_sub (Sub.consE (i := 5) rfl (int_succ (by omega)) (Sub.cons (i := 0) rfl (Sub.cons (i := 1) rfl (Sub.nil _)))) (ih1 (i + 1) ?_ ?_)
        · exact ⟨by omega, by rw [hI, hd3]; simp [after, h2]⟩
        · show l.length - (i + 1) < l.length - i; omega
    · have hn5 := nil_of_dec h1
      refine EX rfl <| SQ <| SQ <| RG <| MV rfl rfl <| rw_len rfl tyE_S_int rfl <| EQ1 rfl rfl rfl <| ND <| ?_
      refine gw_cond rfl (fun h3 => ?_) (fun h3 => ?_)
      · have hnil6 := nil_of_eq h3
        refine SQ <| RG <| AS rfl rfl <| ND <| ret_cv Try.func70 (res1 Try.func70 rfl (rv_tmp rfl)) <| ?_
        subst hnil6; rfl
      · have hpos7 := pos_of_ne h3
        refine SK <| SQ <| RG <| MV rfl rfl <| ?_
        have hi8 : 0 < l.length := by omega
        obtain ⟨x9, hx9⟩ := get_of_lt hi8
        have hd9 := drop_cons hx9
        have hq10 := hA.plain hx9
        refine rw_indexAddr (0) rfl tyE_S_int rfl rfl rfl (hA.some hi8) hi8 <| rw_loadX _ rfl tyP_int rfl (fun w hs => hq10.ld0 hs rfl) <| AS rfl rfl <| ND <| ret_cv Try.func70 (res1 Try.func70 rfl (rv_tmp rfl)) <| ?_
        simp [nextId, hI, List.head?_eq_getElem?, after, hx9, hn5]

theorem spec_PlainNext {w : World} {v : Value} {l : List Candidate} (hv : RdS w 3 (Pl Candidate.cells) v l) (hb : l.length ≤ 134217728) (last : Int) : CV Try.prog 53 [v, .int .i64 last] w (.int .i64 (plainNext l last)) := by
  obtain ⟨A, c, rfl, hA⟩ := hv
  refine cv_of Try.func53 rfl rfl rfl <| SQ <| RG <| AS rfl rfl <| ND <| SQ <| RG <| rw_slice0 rfl tyM_S_int (PlO intC) <| fun v1 how1 => AS rfl rfl <| ND <| SQ <| SQ <| RG <| AS rfl rfl <| ND <| BK <| ?_
  refine gw_loopX (α := Nat × Value × List Ck) (fun x => x.1 ≤ l.length ∧ OwA 3 1 (PlO intC) x.2.1 ((l.take x.1).map (·.id)) x.2.2 ∧ (areCandidates l = false → x.1 = 0)) (fun x => l.length - x.1) (fun e x => (6, .int .i64 (x.1 : Int)) :: (5, x.2.1) :: e) (fun B _ => B) (fun F x => x.2.2 ++ F) (0, v1, []) [(0, _), (1, _), (4, _)] (Sub.consE rfl rfl (Sub.consE rfl rfl (Sub.cons (i := 0) rfl (Sub.cons (i := 1) rfl (Sub.cons (i := 4) rfl (Sub.nil _)))))) rfl rfl ?_ ?_
  · exact ⟨Nat.zero_le _, how1, fun _ => rfl⟩
  · rintro ⟨i, v, ch⟩ hI2 ih2
    dsimp only at hI2
    dsimp only
    obtain ⟨hle, hO, h0⟩ := hI2
    refine SQ <| SQ <| RG <| MV rfl rfl <| MV rfl rfl <| rw_len rfl tyE_S_impl_Candidate rfl <| rw_lss rfl rfl rfl <| MV rfl rfl <| ?_
    refine rw_case (j := 12) rfl (fun h1 => ?_) (fun h1 => ?_)
    · have hi3 := lt_of_dec h1
      obtain ⟨x4, hx4⟩ := get_of_lt hi3
      have hd4 := drop_cons hx4
      refine ON rfl rfl h1 <| MV rfl rfl <| ON rfl rfl h1 <| CV1 rfl fun_spec_AreCandidates rfl (fun w hs => spec_AreCandidates (hA.s Pl.keeps hs) (by omega)) <| PT rfl rfl h1 rfl <| ND <| ?_
      refine gw_cond rfl (fun h2 => ?_) (fun h2 => ?_)
      · refine SK <| SQ <| BK <| RG <| MV rfl rfl <| MV rfl rfl <| MV rfl rfl <| ?_
        have hq5 := hA.plain hx4
        refine rw_indexAddr (i) rfl tyE_S_impl_Candidate rfl rfl rfl (hA.some hi3) hi3 <| FX rfl tyF_impl_Candidate_0 rfl <| rw_loadX _ rfl tyP_int rfl (fun w hs => hq5.ld hs rfl) <| rw_slice (xs := [(0, _)]) [_] rfl tyM_S_int rfl rfl rfl rfl <| fun b1 => rw_append1 (i := 0) (a := x4.id) rfl tyM_S_int eInt rfl rfl rfl hO ⟨rfl, rfl⟩ (.refl _) (by simp; omega) <| fun v6 ch6 how6 => AS rfl rfl <| ND <| IB <| RG <| MV rfl rfl <| rw_add rfl rfl rfl <| AS rfl rfl <| ND <| gw_dropN 1 <| ?_
        refine gw_sub (Sub.consE (i := 6) rfl (int_succ (by omega)) (Sub.consE (i := 5) rfl rfl (Sub.cons (i := 0) rfl (Sub.cons (i := 1) rfl (Sub.cons (i := 4) rfl (Sub.nil _)))))) (ih2 (i + 1, v6, ch6) ?_ ?_)
        · exact ⟨by omega, by rw [List.take_add_one, hx4]; simpa using how6, fun h => by rw [h2] at h; cases h⟩
        · show l.length - (i + 1) < l.length - i; omega
      · refine EX rfl <| SQ <| RG <| MV rfl rfl <| MV rfl rfl <| CV1 rfl fun_spec_l14After rfl (fun w hs => spec_l14After ((OwA.s hO).rdH eInt hs (fun c hc => List.mem_append_right _ (List.mem_append_left _ hc))) (by simp; omega) _) <| AS rfl rfl <| ND <| ret_cv Try.func53 (res1 Try.func53 rfl (rv_tmp rfl)) <| ?_
        exact congrArg (Value.int .i64) (plain_exit0 h2 h0)
    · have hn7 := nil_of_dec h1
      refine OF rfl rfl h1 rfl <| OF rfl rfl h1 rfl <| PF rfl rfl h1 rfl <| ND <| CF rfl rfl <| EX rfl <| SQ <| RG <| MV rfl rfl <| MV rfl rfl <| CV1 rfl fun_spec_l14After rfl (fun w hs => spec_l14After ((OwA.s hO).rdH eInt hs (fun c hc => List.mem_append_right _ (List.mem_append_left _ hc))) (by simp; omega) _) <| AS rfl rfl <| ND <| ret_cv Try.func53 (res1 Try.func53 rfl (rv_tmp rfl)) <| ?_
      exact congrArg (Value.int .i64) (plain_exit hn7 h0)

theorem impl_PlainNext {w : World} {v : Value} {l : List Candidate} (hv : RdS w 3 (Pl Candidate.cells) v l) (hb : l.length ≤ 134217728) (last : Int) : CV Try.prog 54 [v, .int .i64 last] w (.int .i64 (plainNext l last)) := by
  obtain ⟨A, c, rfl, hA⟩ := hv
  refine cv_of Try.func54 rfl rfl rfl <| SQ <| RG <| AS rfl rfl <| ND <| SQ <| SQ <| RG <| MV rfl rfl <| rw_len rfl tyE_S_impl_Candidate rfl <| EQ1 rfl rfl rfl <| MV rfl rfl <| ?_
  refine rw_case (j := 10) rfl (fun h1 => ?_) (fun h1 => ?_)
  · have hnil1 := nil_of_eq h1
    refine OF rfl rfl h1 rfl <| OF rfl rfl h1 rfl <| OF rfl rfl h1 rfl <| PT rfl rfl h1 rfl <| ND <| CT rfl rfl <| SQ <| RG <| AS rfl rfl <| ND <| ret_cv Try.func54 (res1 Try.func54 rfl (rv_tmp rfl)) <| ?_
    subst hnil1; rfl
  · have hpos2 := pos_of_ne h1
    refine ON rfl rfl h1 <| MV rfl rfl <| ON rfl rfl h1 <| CV1 rfl fun_impl_AreCandidates rfl (fun w hs => impl_AreCandidates (hA.s Pl.keeps hs) (by omega)) <| ON rfl rfl h1 <| NT rfl rfl <| PF rfl rfl h1 rfl <| ND <| ?_
    refine gw_cond rfl (fun h2 => ?_) (fun h2 => ?_)
    · replace h2 := of_not_T h2
      refine SQ <| RG <| AS rfl rfl <| ND <| ret_cv Try.func54 (res1 Try.func54 rfl (rv_tmp rfl)) <| ?_
      simp [plainNext, nextId, h2]
    · replace h2 := of_not_F h2
      refine SK <| SQ <| SQ <| RG <| MV rfl rfl <| rw_len rfl tyE_S_impl_Candidate rfl <| MV rfl rfl <| ND <| BK <| ?_
      refine gw_loopC (α := Nat) (fun x => x ≤ l.length ∧ after last (l.map (·.id)) = after last ((l.drop x).map (·.id))) (fun x => l.length - x) (fun e x => (17, .int .i64 (x : Int)) :: e) 0 [(0, _), (1, _), (15, _), (16, _)] (Sub.consE rfl rfl (Sub.cons (i := 0) rfl (Sub.cons (i := 1) rfl (Sub.cons (i := 15) rfl (Sub.cons (i := 16) rfl (Sub.nil _)))))) ?_ ?_
      · exact ⟨Nat.zero_le _, rfl⟩
      · rintro i hI3 ih3
        try dsimp only
        obtain ⟨hle, hI⟩ := hI3
        refine SQ <| RG <| rw_lss rfl rfl rfl <| ND <| SQ <| ?_
        refine gw_cond rfl (fun h3 => ?_) (fun h3 => ?_)
        · have hi4 := lt_of_dec h3
          obtain ⟨x5, hx5⟩ := get_of_lt hi4
          have hd5 := drop_cons hx5
          refine SK <| SQ <| BK <| SQ <| RG <| ?_
          have hq6 := hA.plain hx5
          refine rw_indexAddr (i) rfl tyE_S_impl_Candidate rfl rfl rfl (hA.some hi4) hi4 <| rw_loadX_s [_, _, _] rfl tyS_impl_Candidate rfl rfl (fun w hs => hq6.lds0 (n := 3) hs rfl) <| AL rfl tyZ_impl_Candidate <| fun b1 => ST (i := 0) [_, _, _] [_, _, _] tyS_impl_Candidate.sz rfl rfl rfl rfl rfl rfl rfl rfl <| ND <| SQ <| RG <| FA rfl tyF_impl_Candidate_0 rfl <| LD (i := 0) rfl tyP_int rfl rfl rfl <| MV rfl rfl <| rw_gtr rfl rfl rfl <| ND <| ?_
          refine gw_cond rfl (fun h4 => ?_) (fun h4 => ?_)
          · refine SQ <| RG <| FA rfl tyF_impl_Candidate_0 rfl <| LD (i := 0) rfl tyP_int rfl rfl rfl <| AS rfl rfl <| ND <| ret_cv Try.func54 (res1 Try.func54 rfl (rv_tmp rfl)) <| ?_
            simp [plainNext, nextId, hI, hd5, after, h2, h4]
          · refine SK <| IB <| RG <| rw_add rfl rfl rfl <| MV rfl rfl <| ND <| gw_dropN 1 <| ?_
            refine gw_sub (Sub.consE (i := 17) rfl (int_succ (by omega)) (Sub.cons (i := 0) rfl (Sub.cons (i := 1) rfl (Sub.cons (i := 15) rfl (Sub.cons (i := 16) rfl (Sub.nil _)))))) (ih3 (i + 1) ?_ ?_)
            · exact ⟨by omega, by rw [hI, hd5]; simp [after, h4]⟩
            · show l.length - (i + 1) < l.length - i; omega
        · have hn7 := nil_of_dec h3
          refine EX rfl <| SQ <| RG <| MV rfl rfl <| ?_
          have hi8 : 0 < l.length := by omega
          obtain ⟨x9, hx9⟩ := get_of_lt hi8
          have hd9 := drop_cons hx9
          have hq10 := hA.plain hx9
          refine rw_indexAddr (0) rfl tyE_S_impl_Candidate rfl rfl rfl (hA.some hi8) hi8 <| FX rfl tyF_impl_Candidate_0 rfl <| rw_loadX _ rfl tyP_int rfl (fun w hs => hq10.ld hs rfl) <| AS rfl rfl <| ND <| ret_cv Try.func54 (res1 Try.func54 rfl (rv_tmp rfl)) <| ?_
          simp [plainNext, nextId, hI, List.head?_eq_getElem?, after, hx9, h2, hn7]

theorem law_FnExactPlainNext {w : World} {v : Value} {l : List Candidate} (hv : RdS w 3 (Pl Candidate.cells) v l) (hb : l.length ≤ 9223372036854775807) (n : Int) : CV Try.prog 14 [v, .int .i64 n] w (.bool true) := by
  obtain ⟨A, c, rfl, hA⟩ := hv
  refine cv_of Try.func14 rfl rfl rfl <| SQ <| RG <| AS rfl rfl <| ND <| SQ <| RG <| AS rfl rfl <| ND <| SQ <| RG <| MV rfl rfl <| MV rfl rfl <| CV1 rfl fun_laws_szCandidateS rfl (fun w hs => laws_szCandidateS (hA.s Pl.keeps hs) _) <| AS rfl rfl <| ND <| SQ <| SQ <| RG <| MV rfl rfl <| rw_lss rfl rfl rfl <| ND <| ?_
  refine gw_cond rfl (fun h1 => ?_) (fun h1 => ?_)
  · refine SQ <| RG <| AS rfl rfl <| ND <| ret_cv Try.func14 (res1 Try.func14 rfl (rv_tmp rfl)) <| ?_
    rfl
  · have hle1 : l.length ≤ 1048576 := szLen_le hb h1
    refine SK <| SQ <| RG <| MV rfl rfl <| CN1 rfl fun_laws_toCandidateS rfl (fun w hs => laws_toCandidateS (hA.s Pl.keeps hs) (by omega)) <| fun v2 ch2 how2 => MV rfl rfl <| CV1 rfl fun_spec_PlainNext rfl (fun w hs => spec_PlainNext (how2.rdH eCandidate hs (fun c hc => List.mem_append_right _ (List.mem_append_left _ hc))) (by omega) _) <| AS rfl rfl <| ND <| SQ <| RG <| MV rfl rfl <| CN1 rfl fun_laws_toCandidateS rfl (fun w hs => laws_toCandidateS (hA.s Pl.keeps hs) (by omega)) <| fun v3 ch3 how3 => AS rfl rfl <| ND <| SQ <| RG <| MV rfl rfl <| MV rfl rfl <| ?_
    refine CV1 rfl fun_impl_PlainNext rfl (fun w hs => impl_PlainNext (how3.rdH eCandidate hs (fun c hc => List.mem_append_right _ (List.mem_append_left _ hc))) (by omega) _) <| AS rfl rfl <| ND <| SQ <| SQ <| RG <| MV rfl rfl <| MV rfl rfl <| NS rfl rfl rfl <| ND <| CF rfl rfl <| SK <| SQ <| SQ <| RG <| MV rfl rfl <| MV rfl rfl <| CN1 rfl fun_laws_toCandidateS rfl (fun w hs => laws_toCandidateS (hA.s Pl.keeps hs) (by omega)) <| fun v4 ch4 how4 => CV1 rfl fun_laws_eqCandidateS rfl (fun w hs => laws_eqCandidateS (how3.rdH eCandidate hs (fun c hc => List.mem_append_right _ (List.mem_append_right _ (List.mem_append_left _ hc)))) (by omega) (how4.rdH eCandidate hs (fun c hc => List.mem_append_right _ (List.mem_append_left _ hc)))) <| ?_
    refine NT rfl rfl <| ND <| CF rfl rfl <| SK <| SQ <| RG <| AS rfl rfl <| ND <| ret_cv Try.func14 (res1 Try.func14 rfl (rv_tmp rfl)) <| ?_
    rfl
end Go.Proofs.Ytcdabfkankcodaa
