/- Walks of the small functions. -/
import Derived.Test.YtcdabfkankcodaaFacts
import Derived.Test.YtcdabfkankcodaaData
namespace Go.Proofs.Ytcdabfkankcodaa
open SL Go.RowKit
theorem ring_power (n : Int) : isRingSize n = (decide (0 < n) && decide (n ≤ 64) && (bits .and .i64 n (w64 (n - 1)) == 0)) := by
  unfold isRingSize within
  by_cases h1 : (1 : Int) ≤ n <;> by_cases h2 : n ≤ 64 <;> simp [h1, h2, show ((0 : Int) < n) = (1 ≤ n) from rfl]
theorem impl_within (a b c : Int) (w : World) : CV Try.prog 56 [.int .i64 a, .int .i64 b, .int .i64 c] w (.bool (within a b c)) := by
  refine cv_of Try.func56 rfl rfl rfl ?_
  refine gw_seq ?_
  refine gw_region ?_
  refine rw_assign (K := _) rfl rfl ?_
  refine rw_end ?_
  refine gw_seq ?_
  refine gw_region ?_
  refine rw_move (K := _) rfl rfl ?_
  refine rw_move (K := _) rfl rfl ?_
  refine rw_leq (K := _) rfl rfl rfl ?_
  refine rw_move (K := _) rfl rfl ?_
  refine rw_case (j := 10) rfl (fun h1 => ?_) (fun h1 => ?_)
  · refine rw_on (K := _) rfl rfl h1 ?_
    refine rw_move (K := _) rfl rfl ?_
    refine rw_on (K := _) rfl rfl h1 ?_
    refine rw_move (K := _) rfl rfl ?_
    refine rw_on (K := _) rfl rfl h1 ?_
    refine rw_leq (K := _) rfl rfl rfl ?_
    refine rw_pT (K := _) rfl rfl h1 rfl ?_
    refine rw_assign (K := _) rfl rfl ?_
    refine rw_end ?_
    refine ret_cv Try.func56 (res1 Try.func56 rfl (rv_tmp rfl)) ?_
    simp only [within, h1] <;> rfl
  · refine rw_off (K := _) rfl rfl h1 rfl ?_
    refine rw_off (K := _) rfl rfl h1 rfl ?_
    refine rw_off (K := _) rfl rfl h1 rfl ?_
    refine rw_pF (K := _) rfl rfl h1 rfl ?_
    refine rw_assign (K := _) rfl rfl ?_
    refine rw_end ?_
    refine ret_cv Try.func56 (res1 Try.func56 rfl (rv_tmp rfl)) ?_
    simp only [within, h1] <;> rfl

theorem spec_l1In (a b c : Int) (w : World) : CV Try.prog 55 [.int .i64 a, .int .i64 b, .int .i64 c] w (.bool (within a b c)) := by
  refine cv_of Try.func55 rfl rfl rfl ?_
  refine gw_seq ?_
  refine gw_region ?_
  refine rw_assign (K := _) rfl rfl ?_
  refine rw_end ?_
  refine gw_seq ?_
  refine gw_region ?_
  refine rw_move (K := _) rfl rfl ?_
  refine rw_move (K := _) rfl rfl ?_
  refine rw_geq (K := _) rfl rfl rfl ?_
  refine rw_move (K := _) rfl rfl ?_
  refine rw_case (j := 10) rfl (fun h1 => ?_) (fun h1 => ?_)
  · refine rw_on (K := _) rfl rfl h1 ?_
    refine rw_move (K := _) rfl rfl ?_
    refine rw_on (K := _) rfl rfl h1 ?_
    refine rw_move (K := _) rfl rfl ?_
    refine rw_on (K := _) rfl rfl h1 ?_
    refine rw_leq (K := _) rfl rfl rfl ?_
    refine rw_pT (K := _) rfl rfl h1 rfl ?_
    refine rw_assign (K := _) rfl rfl ?_
    refine rw_end ?_
    refine ret_cv Try.func55 (res1 Try.func55 rfl (rv_tmp rfl)) ?_
    simp only [within, h1] <;> rfl
  · refine rw_off (K := _) rfl rfl h1 rfl ?_
    refine rw_off (K := _) rfl rfl h1 rfl ?_
    refine rw_off (K := _) rfl rfl h1 rfl ?_
    refine rw_pF (K := _) rfl rfl h1 rfl ?_
    refine rw_assign (K := _) rfl rfl ?_
    refine rw_end ?_
    refine ret_cv Try.func55 (res1 Try.func55 rfl (rv_tmp rfl)) ?_
    simp only [within, h1] <;> rfl

theorem impl_isRingSize (a : Int) (w : World) : CV Try.prog 58 [.int .i64 a] w (.bool (isRingSize a)) := by
  refine cv_of Try.func58 rfl rfl rfl ?_
  refine gw_seq ?_
  refine gw_region ?_
  refine rw_assign (K := _) rfl rfl ?_
  refine rw_end ?_
  refine gw_seq ?_
  refine gw_region ?_
  refine rw_move (K := _) rfl rfl ?_
  refine rw_cv (K := _) rfl fun_impl_within rfl (fun w hs => impl_within _ _ _ w) ?_
  refine rw_move (K := _) rfl rfl ?_
  refine rw_case (j := 5) rfl (fun h1 => ?_) (fun h1 => ?_)
  · refine rw_on (K := _) rfl rfl h1 ?_
    refine rw_move (K := _) rfl rfl ?_
    refine rw_on (K := _) rfl rfl h1 ?_
    refine rw_move (K := _) rfl rfl ?_
    refine rw_on (K := _) rfl rfl h1 ?_
    refine rw_sub (K := _) rfl rfl rfl ?_
    refine rw_on (K := _) rfl rfl h1 ?_
    refine rw_and (K := _) rfl rfl rfl ?_
    refine rw_on (K := _) rfl rfl h1 ?_
    refine rw_eql (K := _) rfl rfl rfl ?_
    refine rw_pT (K := _) rfl rfl h1 rfl ?_
    refine rw_assign (K := _) rfl rfl ?_
    refine rw_end ?_
    refine ret_cv Try.func58 (res1 Try.func58 rfl (rv_tmp rfl)) ?_
    simp only [isRingSize, h1] <;> rfl
  · refine rw_off (K := _) rfl rfl h1 rfl ?_
    refine rw_off (K := _) rfl rfl h1 rfl ?_
    refine rw_off (K := _) rfl rfl h1 rfl ?_
    refine rw_off (K := _) rfl rfl h1 rfl ?_
    refine rw_off (K := _) rfl rfl h1 rfl ?_
    refine rw_pF (K := _) rfl rfl h1 rfl ?_
    refine rw_assign (K := _) rfl rfl ?_
    refine rw_end ?_
    refine ret_cv Try.func58 (res1 Try.func58 rfl (rv_tmp rfl)) ?_
    simp only [isRingSize, h1] <;> rfl

theorem spec_l8Power (a : Int) (w : World) : CV Try.prog 57 [.int .i64 a] w (.bool (isRingSize a)) := by
  refine cv_of Try.func57 rfl rfl rfl ?_
  refine gw_seq ?_
  refine gw_region ?_
  refine rw_assign (K := _) rfl rfl ?_
  refine rw_end ?_
  refine gw_seq ?_
  refine gw_region ?_
  refine rw_move (K := _) rfl rfl ?_
  refine rw_gtr (K := _) rfl rfl rfl ?_
  refine rw_move (K := _) rfl rfl ?_
  refine rw_case (j := 5) rfl (fun h1 => ?_) (fun h1 => ?_)
  · refine rw_on (K := _) rfl rfl h1 ?_
    refine rw_move (K := _) rfl rfl ?_
    refine rw_on (K := _) rfl rfl h1 ?_
    refine rw_leq (K := _) rfl rfl rfl ?_
    refine rw_pT (K := _) rfl rfl h1 rfl ?_
    refine rw_move (K := _) rfl rfl ?_
    refine rw_case (j := 9) rfl (fun h2 => ?_) (fun h2 => ?_)
    · refine rw_on (K := _) rfl rfl h2 ?_
      refine rw_move (K := _) rfl rfl ?_
      refine rw_on (K := _) rfl rfl h2 ?_
      refine rw_move (K := _) rfl rfl ?_
      refine rw_on (K := _) rfl rfl h2 ?_
      refine rw_sub (K := _) rfl rfl rfl ?_
      refine rw_on (K := _) rfl rfl h2 ?_
      refine rw_and (K := _) rfl rfl rfl ?_
      refine rw_on (K := _) rfl rfl h2 ?_
      refine rw_eql (K := _) rfl rfl rfl ?_
      refine rw_pT (K := _) rfl rfl h2 rfl ?_
      refine rw_assign (K := _) rfl rfl ?_
      refine rw_end ?_
      refine ret_cv Try.func57 (res1 Try.func57 rfl (rv_tmp rfl)) ?_
      rw [ring_power]; simp only [h1, h2] <;> rfl
    · refine rw_off (K := _) rfl rfl h2 rfl ?_
      refine rw_off (K := _) rfl rfl h2 rfl ?_
      refine rw_off (K := _) rfl rfl h2 rfl ?_
      refine rw_off (K := _) rfl rfl h2 rfl ?_
      refine rw_off (K := _) rfl rfl h2 rfl ?_
      refine rw_pF (K := _) rfl rfl h2 rfl ?_
      refine rw_assign (K := _) rfl rfl ?_
      refine rw_end ?_
      refine ret_cv Try.func57 (res1 Try.func57 rfl (rv_tmp rfl)) ?_
      rw [ring_power]; simp only [h1, h2] <;> rfl
  · refine rw_off (K := _) rfl rfl h1 rfl ?_
    refine rw_off (K := _) rfl rfl h1 rfl ?_
    refine rw_pF (K := _) rfl rfl h1 rfl ?_
    refine rw_move (K := _) rfl rfl ?_
    refine rw_off (K := _) rfl rfl rfl rfl ?_
    refine rw_off (K := _) rfl rfl rfl rfl ?_
    refine rw_off (K := _) rfl rfl rfl rfl ?_
    refine rw_off (K := _) rfl rfl rfl rfl ?_
    refine rw_off (K := _) rfl rfl rfl rfl ?_
    refine rw_pF (K := _) rfl rfl rfl rfl ?_
    refine rw_assign (K := _) rfl rfl ?_
    refine rw_end ?_
    refine ret_cv Try.func57 (res1 Try.func57 rfl (rv_tmp rfl)) ?_
    rw [ring_power]; simp only [h1] <;> rfl

theorem impl_IsPriority (p : Priority) (w : World) : CV Try.prog 17 [.agg p.cells.toArray] w (.bool (isPriority p)) := by
  refine cv_of Try.func17 rfl rfl rfl ?_
  refine gw_seq ?_
  refine gw_region ?_
  refine rw_box (K := _) [_, _] rfl rfl rfl (fun b1 => ?_)
  refine rw_assign (K := _) rfl rfl ?_
  refine rw_end ?_
  refine gw_seq ?_
  refine gw_region ?_
  refine rw_fieldAddr (K := _) rfl tyF_impl_Priority_0 rfl ?_
  refine rw_load (K := _) (i := 0) rfl tyP_int rfl rfl rfl ?_
  refine rw_cv (K := _) rfl fun_impl_within rfl (fun w hs => impl_within _ _ _ w) ?_
  refine rw_assign (K := _) rfl rfl ?_
  refine rw_end ?_
  refine ret_cv Try.func17 (res1 Try.func17 rfl (rv_tmp rfl)) ?_
  simp only [isPriority] <;> rfl

theorem impl_DefaultPriority (w : World) : CV Try.prog 19 [] w (.agg defaultPriority.cells.toArray) := by
  refine cv_of Try.func19 rfl rfl rfl ?_
  refine gw_seq ?_
  refine gw_region ?_
  refine rw_alloc (K := _) rfl tyZ_impl_Priority (fun b1 => ?_)
  refine rw_end ?_
  refine gw_seq ?_
  refine gw_region ?_
  refine rw_build (K := _) [_, _] rfl tyB_impl_Priority tyZ_impl_Priority rfl rfl ?_
  refine rw_store (K := _) (i := 0) [_, _] [_, _] tyS_impl_Priority.sz rfl rfl rfl rfl rfl rfl rfl rfl ?_
  refine rw_end ?_
  refine ret_cv Try.func19 (res1 Try.func19 rfl (rv_s (i := 0) [_, _] tyS_impl_Priority rfl rfl rfl rfl)) ?_
  rfl

theorem impl_IsConf (c : Conf) (w : World) : CV Try.prog 23 [.agg c.cells.toArray] w (.bool (isConf c)) := by
  refine cv_of Try.func23 rfl rfl rfl ?_
  refine gw_seq ?_
  refine gw_region ?_
  refine rw_box (K := _) [_, _, _, _, _, _, _, _] rfl rfl rfl (fun b1 => ?_)
  refine rw_assign (K := _) rfl rfl ?_
  refine rw_end ?_
  refine gw_seq ?_
  refine gw_region ?_
  refine rw_fieldAddr (K := _) rfl tyF_impl_Conf_0 rfl ?_
  refine rw_load (K := _) (i := 0) rfl tyP_int rfl rfl rfl ?_
  refine rw_cv (K := _) rfl fun_impl_isRingSize rfl (fun w hs => impl_isRingSize _ w) ?_
  refine rw_move (K := _) rfl rfl ?_
  refine rw_case (j := 6) rfl (fun h1 => ?_) (fun h1 => ?_)
  · refine rw_on (K := _) rfl rfl h1 ?_
    refine rw_fieldAddr (K := _) rfl tyF_impl_Conf_2 rfl ?_
    refine rw_on (K := _) rfl rfl h1 ?_
    refine rw_load (K := _) (i := 0) rfl tyP_int rfl rfl rfl ?_
    refine rw_on (K := _) rfl rfl h1 ?_
    refine rw_cv (K := _) rfl fun_impl_within rfl (fun w hs => impl_within _ _ _ w) ?_
    refine rw_pT (K := _) rfl rfl h1 rfl ?_
    refine rw_move (K := _) rfl rfl ?_
    refine rw_case (j := 11) rfl (fun h2 => ?_) (fun h2 => ?_)
    · refine rw_on (K := _) rfl rfl h2 ?_
      refine rw_fieldAddr (K := _) rfl tyF_impl_Conf_4 rfl ?_
      refine rw_on (K := _) rfl rfl h2 ?_
      refine rw_load (K := _) (i := 0) rfl tyP_int rfl rfl rfl ?_
      refine rw_on (K := _) rfl rfl h2 ?_
      refine rw_cv (K := _) rfl fun_impl_within rfl (fun w hs => impl_within _ _ _ w) ?_
      refine rw_pT (K := _) rfl rfl h2 rfl ?_
      refine rw_move (K := _) rfl rfl ?_
      refine rw_case (j := 16) rfl (fun h3 => ?_) (fun h3 => ?_)
      · refine rw_on (K := _) rfl rfl h3 ?_
        refine rw_fieldAddr (K := _) rfl tyF_impl_Conf_1 rfl ?_
        refine rw_on (K := _) rfl rfl h3 ?_
        refine rw_load (K := _) (i := 0) rfl tyP_int rfl rfl rfl ?_
        refine rw_on (K := _) rfl rfl h3 ?_
        refine rw_fieldAddr (K := _) rfl tyF_impl_Conf_2 rfl ?_
        refine rw_on (K := _) rfl rfl h3 ?_
        refine rw_load (K := _) (i := 0) rfl tyP_int rfl rfl rfl ?_
        refine rw_on (K := _) rfl rfl h3 ?_
        refine rw_cv (K := _) rfl fun_impl_within rfl (fun w hs => impl_within _ _ _ w) ?_
        refine rw_pT (K := _) rfl rfl h3 rfl ?_
        refine rw_move (K := _) rfl rfl ?_
        refine rw_case (j := 23) rfl (fun h4 => ?_) (fun h4 => ?_)
        · refine rw_on (K := _) rfl rfl h4 ?_
          refine rw_fieldAddr (K := _) rfl tyF_impl_Conf_3 rfl ?_
          refine rw_on (K := _) rfl rfl h4 ?_
          refine rw_load (K := _) (i := 0) rfl tyP_int rfl rfl rfl ?_
          refine rw_on (K := _) rfl rfl h4 ?_
          refine rw_fieldAddr (K := _) rfl tyF_impl_Conf_4 rfl ?_
          refine rw_on (K := _) rfl rfl h4 ?_
          refine rw_load (K := _) (i := 0) rfl tyP_int rfl rfl rfl ?_
          refine rw_on (K := _) rfl rfl h4 ?_
          refine rw_cv (K := _) rfl fun_impl_within rfl (fun w hs => impl_within _ _ _ w) ?_
          refine rw_pT (K := _) rfl rfl h4 rfl ?_
          refine rw_move (K := _) rfl rfl ?_
          refine rw_case (j := 30) rfl (fun h5 => ?_) (fun h5 => ?_)
          · refine rw_on (K := _) rfl rfl h5 ?_
            refine rw_fieldAddr (K := _) rfl tyF_impl_Conf_5 rfl ?_
            refine rw_on (K := _) rfl rfl h5 ?_
            refine rw_load (K := _) (i := 0) rfl tyP_int rfl rfl rfl ?_
            refine rw_on (K := _) rfl rfl h5 ?_
            refine rw_cv (K := _) rfl fun_impl_within rfl (fun w hs => impl_within _ _ _ w) ?_
            refine rw_pT (K := _) rfl rfl h5 rfl ?_
            refine rw_move (K := _) rfl rfl ?_
            refine rw_case (j := 35) rfl (fun h6 => ?_) (fun h6 => ?_)
            · refine rw_on (K := _) rfl rfl h6 ?_
              refine rw_fieldAddr (K := _) rfl tyF_impl_Conf_6 rfl ?_
              refine rw_on (K := _) rfl rfl h6 ?_
              refine rw_load (K := _) (i := 0) rfl tyP_int rfl rfl rfl ?_
              refine rw_on (K := _) rfl rfl h6 ?_
              refine rw_cv (K := _) rfl fun_impl_within rfl (fun w hs => impl_within _ _ _ w) ?_
              refine rw_pT (K := _) rfl rfl h6 rfl ?_
              refine rw_move (K := _) rfl rfl ?_
              refine rw_case (j := 40) rfl (fun h7 => ?_) (fun h7 => ?_)
              · refine rw_on (K := _) rfl rfl h7 ?_
                refine rw_fieldAddr (K := _) rfl tyF_impl_Conf_7 rfl ?_
                refine rw_on (K := _) rfl rfl h7 ?_
                refine rw_load (K := _) (i := 0) rfl tyP_int rfl rfl rfl ?_
                refine rw_on (K := _) rfl rfl h7 ?_
                refine rw_cv (K := _) rfl fun_impl_within rfl (fun w hs => impl_within _ _ _ w) ?_
                refine rw_pT (K := _) rfl rfl h7 rfl ?_
                refine rw_assign (K := _) rfl rfl ?_
                refine rw_end ?_
                refine ret_cv Try.func23 (res1 Try.func23 rfl (rv_tmp rfl)) ?_
                simp only [isConf, h1, h2, h3, h4, h5, h6, h7] <;> rfl
              · refine rw_off (K := _) rfl rfl h7 rfl ?_
                refine rw_off (K := _) rfl rfl h7 rfl ?_
                refine rw_off (K := _) rfl rfl h7 rfl ?_
                refine rw_pF (K := _) rfl rfl h7 rfl ?_
                refine rw_assign (K := _) rfl rfl ?_
                refine rw_end ?_
                refine ret_cv Try.func23 (res1 Try.func23 rfl (rv_tmp rfl)) ?_
                simp only [isConf, h1, h2, h3, h4, h5, h6, h7] <;> rfl
            · refine rw_off (K := _) rfl rfl h6 rfl ?_
              refine rw_off (K := _) rfl rfl h6 rfl ?_
              refine rw_off (K := _) rfl rfl h6 rfl ?_
              refine rw_pF (K := _) rfl rfl h6 rfl ?_
              refine rw_move (K := _) rfl rfl ?_
              refine rw_off (K := _) rfl rfl rfl rfl ?_
              refine rw_off (K := _) rfl rfl rfl rfl ?_
              refine rw_off (K := _) rfl rfl rfl rfl ?_
              refine rw_pF (K := _) rfl rfl rfl rfl ?_
              refine rw_assign (K := _) rfl rfl ?_
              refine rw_end ?_
              refine ret_cv Try.func23 (res1 Try.func23 rfl (rv_tmp rfl)) ?_
              simp only [isConf, h1, h2, h3, h4, h5, h6] <;> rfl
          · refine rw_off (K := _) rfl rfl h5 rfl ?_
            refine rw_off (K := _) rfl rfl h5 rfl ?_
            refine rw_off (K := _) rfl rfl h5 rfl ?_
            refine rw_pF (K := _) rfl rfl h5 rfl ?_
            refine rw_move (K := _) rfl rfl ?_
            refine rw_off (K := _) rfl rfl rfl rfl ?_
            refine rw_off (K := _) rfl rfl rfl rfl ?_
            refine rw_off (K := _) rfl rfl rfl rfl ?_
            refine rw_pF (K := _) rfl rfl rfl rfl ?_
            refine rw_move (K := _) rfl rfl ?_
            refine rw_off (K := _) rfl rfl rfl rfl ?_
            refine rw_off (K := _) rfl rfl rfl rfl ?_
            refine rw_off (K := _) rfl rfl rfl rfl ?_
            refine rw_pF (K := _) rfl rfl rfl rfl ?_
            refine rw_assign (K := _) rfl rfl ?_
            refine rw_end ?_
            refine ret_cv Try.func23 (res1 Try.func23 rfl (rv_tmp rfl)) ?_
            simp only [isConf, h1, h2, h3, h4, h5] <;> rfl
        · refine rw_off (K := _) rfl rfl h4 rfl ?_
          refine rw_off (K := _) rfl rfl h4 rfl ?_
          refine rw_off (K := _) rfl rfl h4 rfl ?_
          refine rw_off (K := _) rfl rfl h4 rfl ?_
          refine rw_off (K := _) rfl rfl h4 rfl ?_
          refine rw_pF (K := _) rfl rfl h4 rfl ?_
          refine rw_move (K := _) rfl rfl ?_
          refine rw_off (K := _) rfl rfl rfl rfl ?_
          refine rw_off (K := _) rfl rfl rfl rfl ?_
          refine rw_off (K := _) rfl rfl rfl rfl ?_
          refine rw_pF (K := _) rfl rfl rfl rfl ?_
          refine rw_move (K := _) rfl rfl ?_
          refine rw_off (K := _) rfl rfl rfl rfl ?_
          refine rw_off (K := _) rfl rfl rfl rfl ?_
          refine rw_off (K := _) rfl rfl rfl rfl ?_
          refine rw_pF (K := _) rfl rfl rfl rfl ?_
          refine rw_move (K := _) rfl rfl ?_
          refine rw_off (K := _) rfl rfl rfl rfl ?_
          refine rw_off (K := _) rfl rfl rfl rfl ?_
          refine rw_off (K := _) rfl rfl rfl rfl ?_
          refine rw_pF (K := _) rfl rfl rfl rfl ?_
          refine rw_assign (K := _) rfl rfl ?_
          refine rw_end ?_
          refine ret_cv Try.func23 (res1 Try.func23 rfl (rv_tmp rfl)) ?_
          simp only [isConf, h1, h2, h3, h4] <;> rfl
      · refine rw_off (K := _) rfl rfl h3 rfl ?_
        refine rw_off (K := _) rfl rfl h3 rfl ?_
        refine rw_off (K := _) rfl rfl h3 rfl ?_
        refine rw_off (K := _) rfl rfl h3 rfl ?_
        refine rw_off (K := _) rfl rfl h3 rfl ?_
        refine rw_pF (K := _) rfl rfl h3 rfl ?_
        refine rw_move (K := _) rfl rfl ?_
        refine rw_off (K := _) rfl rfl rfl rfl ?_
        refine rw_off (K := _) rfl rfl rfl rfl ?_
        refine rw_off (K := _) rfl rfl rfl rfl ?_
        refine rw_off (K := _) rfl rfl rfl rfl ?_
        refine rw_off (K := _) rfl rfl rfl rfl ?_
        refine rw_pF (K := _) rfl rfl rfl rfl ?_
        refine rw_move (K := _) rfl rfl ?_
        refine rw_off (K := _) rfl rfl rfl rfl ?_
        refine rw_off (K := _) rfl rfl rfl rfl ?_
        refine rw_off (K := _) rfl rfl rfl rfl ?_
        refine rw_pF (K := _) rfl rfl rfl rfl ?_
        refine rw_move (K := _) rfl rfl ?_
        refine rw_off (K := _) rfl rfl rfl rfl ?_
        refine rw_off (K := _) rfl rfl rfl rfl ?_
        refine rw_off (K := _) rfl rfl rfl rfl ?_
        refine rw_pF (K := _) rfl rfl rfl rfl ?_
        refine rw_move (K := _) rfl rfl ?_
        refine rw_off (K := _) rfl rfl rfl rfl ?_
        refine rw_off (K := _) rfl rfl rfl rfl ?_
        refine rw_off (K := _) rfl rfl rfl rfl ?_
        refine rw_pF (K := _) rfl rfl rfl rfl ?_
        refine rw_assign (K := _) rfl rfl ?_
        refine rw_end ?_
        refine ret_cv Try.func23 (res1 Try.func23 rfl (rv_tmp rfl)) ?_
        simp only [isConf, h1, h2, h3] <;> rfl
    · refine rw_off (K := _) rfl rfl h2 rfl ?_
      refine rw_off (K := _) rfl rfl h2 rfl ?_
      refine rw_off (K := _) rfl rfl h2 rfl ?_
      refine rw_pF (K := _) rfl rfl h2 rfl ?_
      refine rw_move (K := _) rfl rfl ?_
      refine rw_off (K := _) rfl rfl rfl rfl ?_
      refine rw_off (K := _) rfl rfl rfl rfl ?_
      refine rw_off (K := _) rfl rfl rfl rfl ?_
      refine rw_off (K := _) rfl rfl rfl rfl ?_
      refine rw_off (K := _) rfl rfl rfl rfl ?_
      refine rw_pF (K := _) rfl rfl rfl rfl ?_
      refine rw_move (K := _) rfl rfl ?_
      refine rw_off (K := _) rfl rfl rfl rfl ?_
      refine rw_off (K := _) rfl rfl rfl rfl ?_
      refine rw_off (K := _) rfl rfl rfl rfl ?_
      refine rw_off (K := _) rfl rfl rfl rfl ?_
      refine rw_off (K := _) rfl rfl rfl rfl ?_
      refine rw_pF (K := _) rfl rfl rfl rfl ?_
      refine rw_move (K := _) rfl rfl ?_
      refine rw_off (K := _) rfl rfl rfl rfl ?_
      refine rw_off (K := _) rfl rfl rfl rfl ?_
      refine rw_off (K := _) rfl rfl rfl rfl ?_
      refine rw_pF (K := _) rfl rfl rfl rfl ?_
      refine rw_move (K := _) rfl rfl ?_
      refine rw_off (K := _) rfl rfl rfl rfl ?_
      refine rw_off (K := _) rfl rfl rfl rfl ?_
      refine rw_off (K := _) rfl rfl rfl rfl ?_
      refine rw_pF (K := _) rfl rfl rfl rfl ?_
      refine rw_move (K := _) rfl rfl ?_
      refine rw_off (K := _) rfl rfl rfl rfl ?_
      refine rw_off (K := _) rfl rfl rfl rfl ?_
      refine rw_off (K := _) rfl rfl rfl rfl ?_
      refine rw_pF (K := _) rfl rfl rfl rfl ?_
      refine rw_assign (K := _) rfl rfl ?_
      refine rw_end ?_
      refine ret_cv Try.func23 (res1 Try.func23 rfl (rv_tmp rfl)) ?_
      simp only [isConf, h1, h2] <;> rfl
  · refine rw_off (K := _) rfl rfl h1 rfl ?_
    refine rw_off (K := _) rfl rfl h1 rfl ?_
    refine rw_off (K := _) rfl rfl h1 rfl ?_
    refine rw_pF (K := _) rfl rfl h1 rfl ?_
    refine rw_move (K := _) rfl rfl ?_
    refine rw_off (K := _) rfl rfl rfl rfl ?_
    refine rw_off (K := _) rfl rfl rfl rfl ?_
    refine rw_off (K := _) rfl rfl rfl rfl ?_
    refine rw_pF (K := _) rfl rfl rfl rfl ?_
    refine rw_move (K := _) rfl rfl ?_
    refine rw_off (K := _) rfl rfl rfl rfl ?_
    refine rw_off (K := _) rfl rfl rfl rfl ?_
    refine rw_off (K := _) rfl rfl rfl rfl ?_
    refine rw_off (K := _) rfl rfl rfl rfl ?_
    refine rw_off (K := _) rfl rfl rfl rfl ?_
    refine rw_pF (K := _) rfl rfl rfl rfl ?_
    refine rw_move (K := _) rfl rfl ?_
    refine rw_off (K := _) rfl rfl rfl rfl ?_
    refine rw_off (K := _) rfl rfl rfl rfl ?_
    refine rw_off (K := _) rfl rfl rfl rfl ?_
    refine rw_off (K := _) rfl rfl rfl rfl ?_
    refine rw_off (K := _) rfl rfl rfl rfl ?_
    refine rw_pF (K := _) rfl rfl rfl rfl ?_
    refine rw_move (K := _) rfl rfl ?_
    refine rw_off (K := _) rfl rfl rfl rfl ?_
    refine rw_off (K := _) rfl rfl rfl rfl ?_
    refine rw_off (K := _) rfl rfl rfl rfl ?_
    refine rw_pF (K := _) rfl rfl rfl rfl ?_
    refine rw_move (K := _) rfl rfl ?_
    refine rw_off (K := _) rfl rfl rfl rfl ?_
    refine rw_off (K := _) rfl rfl rfl rfl ?_
    refine rw_off (K := _) rfl rfl rfl rfl ?_
    refine rw_pF (K := _) rfl rfl rfl rfl ?_
    refine rw_move (K := _) rfl rfl ?_
    refine rw_off (K := _) rfl rfl rfl rfl ?_
    refine rw_off (K := _) rfl rfl rfl rfl ?_
    refine rw_off (K := _) rfl rfl rfl rfl ?_
    refine rw_pF (K := _) rfl rfl rfl rfl ?_
    refine rw_assign (K := _) rfl rfl ?_
    refine rw_end ?_
    refine ret_cv Try.func23 (res1 Try.func23 rfl (rv_tmp rfl)) ?_
    simp only [isConf, h1] <;> rfl

theorem impl_DefaultConf (w : World) : CV Try.prog 25 [] w (.agg defaultConf.cells.toArray) := by
  refine cv_of Try.func25 rfl rfl rfl ?_
  refine gw_seq ?_
  refine gw_region ?_
  refine rw_alloc (K := _) rfl tyZ_impl_Conf (fun b1 => ?_)
  refine rw_end ?_
  refine gw_seq ?_
  refine gw_region ?_
  refine rw_build (K := _) [_, _, _, _, _, _, _, _] rfl tyB_impl_Conf tyZ_impl_Conf rfl rfl ?_
  refine rw_store (K := _) (i := 0) [_, _, _, _, _, _, _, _] [_, _, _, _, _, _, _, _] tyS_impl_Conf.sz rfl rfl rfl rfl rfl rfl rfl rfl ?_
  refine rw_end ?_
  refine ret_cv Try.func25 (res1 Try.func25 rfl (rv_s (i := 0) [_, _, _, _, _, _, _, _] tyS_impl_Conf rfl rfl rfl rfl)) ?_
  rfl

theorem impl_IsAllow (a : Allow) (w : World) : CV Try.prog 61 [.agg a.cells.toArray] w (.bool (isAllow a)) := by
  refine cv_of Try.func61 rfl rfl rfl ?_
  refine gw_seq ?_
  refine gw_region ?_
  refine rw_box (K := _) [_, _, _, _] rfl rfl rfl (fun b1 => ?_)
  refine rw_assign (K := _) rfl rfl ?_
  refine rw_end ?_
  refine gw_seq ?_
  refine gw_region ?_
  refine rw_fieldAddr (K := _) rfl tyF_impl_Allow_0 rfl ?_
  refine rw_load (K := _) (i := 0) rfl tyP_int rfl rfl rfl ?_
  refine rw_cv (K := _) rfl fun_impl_within rfl (fun w hs => impl_within _ _ _ w) ?_
  refine rw_move (K := _) rfl rfl ?_
  refine rw_case (j := 6) rfl (fun h1 => ?_) (fun h1 => ?_)
  · refine rw_on (K := _) rfl rfl h1 ?_
    refine rw_fieldAddr (K := _) rfl tyF_impl_Allow_1 rfl ?_
    refine rw_on (K := _) rfl rfl h1 ?_
    refine rw_load (K := _) (i := 0) rfl tyP_int rfl rfl rfl ?_
    refine rw_on (K := _) rfl rfl h1 ?_
    refine rw_fieldAddr (K := _) rfl tyF_impl_Allow_0 rfl ?_
    refine rw_on (K := _) rfl rfl h1 ?_
    refine rw_load (K := _) (i := 0) rfl tyP_int rfl rfl rfl ?_
    refine rw_on (K := _) rfl rfl h1 ?_
    refine rw_cv (K := _) rfl fun_impl_within rfl (fun w hs => impl_within _ _ _ w) ?_
    refine rw_pT (K := _) rfl rfl h1 rfl ?_
    refine rw_move (K := _) rfl rfl ?_
    refine rw_case (j := 13) rfl (fun h2 => ?_) (fun h2 => ?_)
    · refine rw_on (K := _) rfl rfl h2 ?_
      refine rw_fieldAddr (K := _) rfl tyF_impl_Allow_2 rfl ?_
      refine rw_on (K := _) rfl rfl h2 ?_
      refine rw_load (K := _) (i := 0) rfl tyP_int rfl rfl rfl ?_
      refine rw_on (K := _) rfl rfl h2 ?_
      refine rw_fieldAddr (K := _) rfl tyF_impl_Allow_1 rfl ?_
      refine rw_on (K := _) rfl rfl h2 ?_
      refine rw_load (K := _) (i := 0) rfl tyP_int rfl rfl rfl ?_
      refine rw_on (K := _) rfl rfl h2 ?_
      refine rw_cv (K := _) rfl fun_impl_within rfl (fun w hs => impl_within _ _ _ w) ?_
      refine rw_pT (K := _) rfl rfl h2 rfl ?_
      refine rw_move (K := _) rfl rfl ?_
      refine rw_case (j := 20) rfl (fun h3 => ?_) (fun h3 => ?_)
      · refine rw_on (K := _) rfl rfl h3 ?_
        refine rw_fieldAddr (K := _) rfl tyF_impl_Allow_3 rfl ?_
        refine rw_on (K := _) rfl rfl h3 ?_
        refine rw_load (K := _) (i := 0) rfl tyP_int rfl rfl rfl ?_
        refine rw_on (K := _) rfl rfl h3 ?_
        refine rw_fieldAddr (K := _) rfl tyF_impl_Allow_2 rfl ?_
        refine rw_on (K := _) rfl rfl h3 ?_
        refine rw_load (K := _) (i := 0) rfl tyP_int rfl rfl rfl ?_
        refine rw_on (K := _) rfl rfl h3 ?_
        refine rw_cv (K := _) rfl fun_impl_within rfl (fun w hs => impl_within _ _ _ w) ?_
        refine rw_pT (K := _) rfl rfl h3 rfl ?_
        refine rw_move (K := _) rfl rfl ?_
        refine rw_case (j := 27) rfl (fun h4 => ?_) (fun h4 => ?_)
        · refine rw_on (K := _) rfl rfl h4 ?_
          refine rw_fieldAddr (K := _) rfl tyF_impl_Allow_1 rfl ?_
          refine rw_on (K := _) rfl rfl h4 ?_
          refine rw_load (K := _) (i := 0) rfl tyP_int rfl rfl rfl ?_
          refine rw_on (K := _) rfl rfl h4 ?_
          refine rw_fieldAddr (K := _) rfl tyF_impl_Allow_3 rfl ?_
          refine rw_on (K := _) rfl rfl h4 ?_
          refine rw_load (K := _) (i := 0) rfl tyP_int rfl rfl rfl ?_
          refine rw_on (K := _) rfl rfl h4 ?_
          refine rw_fieldAddr (K := _) rfl tyF_impl_Allow_0 rfl ?_
          refine rw_on (K := _) rfl rfl h4 ?_
          refine rw_load (K := _) (i := 0) rfl tyP_int rfl rfl rfl ?_
          refine rw_on (K := _) rfl rfl h4 ?_
          refine rw_add (K := _) rfl rfl rfl ?_
          refine rw_on (K := _) rfl rfl h4 ?_
          refine rw_leq (K := _) rfl rfl rfl ?_
          refine rw_pT (K := _) rfl rfl h4 rfl ?_
          refine rw_assign (K := _) rfl rfl ?_
          refine rw_end ?_
          refine ret_cv Try.func61 (res1 Try.func61 rfl (rv_tmp rfl)) ?_
          simp only [isAllow, h1, h2, h3, h4] <;> rfl
        · refine rw_off (K := _) rfl rfl h4 rfl ?_
          refine rw_off (K := _) rfl rfl h4 rfl ?_
          refine rw_off (K := _) rfl rfl h4 rfl ?_
          refine rw_off (K := _) rfl rfl h4 rfl ?_
          refine rw_off (K := _) rfl rfl h4 rfl ?_
          refine rw_off (K := _) rfl rfl h4 rfl ?_
          refine rw_off (K := _) rfl rfl h4 rfl ?_
          refine rw_off (K := _) rfl rfl h4 rfl ?_
          refine rw_pF (K := _) rfl rfl h4 rfl ?_
          refine rw_assign (K := _) rfl rfl ?_
          refine rw_end ?_
          refine ret_cv Try.func61 (res1 Try.func61 rfl (rv_tmp rfl)) ?_
          simp only [isAllow, h1, h2, h3, h4] <;> rfl
      · refine rw_off (K := _) rfl rfl h3 rfl ?_
        refine rw_off (K := _) rfl rfl h3 rfl ?_
        refine rw_off (K := _) rfl rfl h3 rfl ?_
        refine rw_off (K := _) rfl rfl h3 rfl ?_
        refine rw_off (K := _) rfl rfl h3 rfl ?_
        refine rw_pF (K := _) rfl rfl h3 rfl ?_
        refine rw_move (K := _) rfl rfl ?_
        refine rw_off (K := _) rfl rfl rfl rfl ?_
        refine rw_off (K := _) rfl rfl rfl rfl ?_
        refine rw_off (K := _) rfl rfl rfl rfl ?_
        refine rw_off (K := _) rfl rfl rfl rfl ?_
        refine rw_off (K := _) rfl rfl rfl rfl ?_
        refine rw_off (K := _) rfl rfl rfl rfl ?_
        refine rw_off (K := _) rfl rfl rfl rfl ?_
        refine rw_off (K := _) rfl rfl rfl rfl ?_
        refine rw_pF (K := _) rfl rfl rfl rfl ?_
        refine rw_assign (K := _) rfl rfl ?_
        refine rw_end ?_
        refine ret_cv Try.func61 (res1 Try.func61 rfl (rv_tmp rfl)) ?_
        simp only [isAllow, h1, h2, h3] <;> rfl
    · refine rw_off (K := _) rfl rfl h2 rfl ?_
      refine rw_off (K := _) rfl rfl h2 rfl ?_
      refine rw_off (K := _) rfl rfl h2 rfl ?_
      refine rw_off (K := _) rfl rfl h2 rfl ?_
      refine rw_off (K := _) rfl rfl h2 rfl ?_
      refine rw_pF (K := _) rfl rfl h2 rfl ?_
      refine rw_move (K := _) rfl rfl ?_
      refine rw_off (K := _) rfl rfl rfl rfl ?_
      refine rw_off (K := _) rfl rfl rfl rfl ?_
      refine rw_off (K := _) rfl rfl rfl rfl ?_
      refine rw_off (K := _) rfl rfl rfl rfl ?_
      refine rw_off (K := _) rfl rfl rfl rfl ?_
      refine rw_pF (K := _) rfl rfl rfl rfl ?_
      refine rw_move (K := _) rfl rfl ?_
      refine rw_off (K := _) rfl rfl rfl rfl ?_
      refine rw_off (K := _) rfl rfl rfl rfl ?_
      refine rw_off (K := _) rfl rfl rfl rfl ?_
      refine rw_off (K := _) rfl rfl rfl rfl ?_
      refine rw_off (K := _) rfl rfl rfl rfl ?_
      refine rw_off (K := _) rfl rfl rfl rfl ?_
      refine rw_off (K := _) rfl rfl rfl rfl ?_
      refine rw_off (K := _) rfl rfl rfl rfl ?_
      refine rw_pF (K := _) rfl rfl rfl rfl ?_
      refine rw_assign (K := _) rfl rfl ?_
      refine rw_end ?_
      refine ret_cv Try.func61 (res1 Try.func61 rfl (rv_tmp rfl)) ?_
      simp only [isAllow, h1, h2] <;> rfl
  · refine rw_off (K := _) rfl rfl h1 rfl ?_
    refine rw_off (K := _) rfl rfl h1 rfl ?_
    refine rw_off (K := _) rfl rfl h1 rfl ?_
    refine rw_off (K := _) rfl rfl h1 rfl ?_
    refine rw_off (K := _) rfl rfl h1 rfl ?_
    refine rw_pF (K := _) rfl rfl h1 rfl ?_
    refine rw_move (K := _) rfl rfl ?_
    refine rw_off (K := _) rfl rfl rfl rfl ?_
    refine rw_off (K := _) rfl rfl rfl rfl ?_
    refine rw_off (K := _) rfl rfl rfl rfl ?_
    refine rw_off (K := _) rfl rfl rfl rfl ?_
    refine rw_off (K := _) rfl rfl rfl rfl ?_
    refine rw_pF (K := _) rfl rfl rfl rfl ?_
    refine rw_move (K := _) rfl rfl ?_
    refine rw_off (K := _) rfl rfl rfl rfl ?_
    refine rw_off (K := _) rfl rfl rfl rfl ?_
    refine rw_off (K := _) rfl rfl rfl rfl ?_
    refine rw_off (K := _) rfl rfl rfl rfl ?_
    refine rw_off (K := _) rfl rfl rfl rfl ?_
    refine rw_pF (K := _) rfl rfl rfl rfl ?_
    refine rw_move (K := _) rfl rfl ?_
    refine rw_off (K := _) rfl rfl rfl rfl ?_
    refine rw_off (K := _) rfl rfl rfl rfl ?_
    refine rw_off (K := _) rfl rfl rfl rfl ?_
    refine rw_off (K := _) rfl rfl rfl rfl ?_
    refine rw_off (K := _) rfl rfl rfl rfl ?_
    refine rw_off (K := _) rfl rfl rfl rfl ?_
    refine rw_off (K := _) rfl rfl rfl rfl ?_
    refine rw_off (K := _) rfl rfl rfl rfl ?_
    refine rw_pF (K := _) rfl rfl rfl rfl ?_
    refine rw_assign (K := _) rfl rfl ?_
    refine rw_end ?_
    refine ret_cv Try.func61 (res1 Try.func61 rfl (rv_tmp rfl)) ?_
    simp only [isAllow, h1] <;> rfl

theorem impl_CloseOne (a : Allow) (w : World) : CV Try.prog 33 [.agg a.cells.toArray] w (.tuple #[.agg (closeOne a).1.cells.toArray, .bool (closeOne a).2]) := by
  refine cv_of Try.func33 rfl rfl rfl ?_
  refine gw_seq ?_
  refine gw_region ?_
  refine rw_box (K := _) [_, _, _, _] rfl rfl rfl (fun b1 => ?_)
  refine rw_alloc (K := _) rfl tyZ_impl_Allow (fun b2 => ?_)
  refine rw_assign (K := _) rfl rfl ?_
  refine rw_end ?_
  refine gw_seq ?_
  refine gw_seq ?_
  refine gw_region ?_
  refine rw_load_s (K := _) (i := 1) [_, _, _, _] rfl tyS_impl_Allow rfl rfl rfl rfl ?_
  refine rw_cv (K := _) rfl fun_impl_IsAllow rfl (fun w hs => impl_IsAllow _ w) ?_
  refine rw_not (K := _) rfl rfl ?_
  refine rw_move (K := _) rfl rfl ?_
  refine rw_case (j := 7) rfl (fun h1 => ?_) (fun h1 => ?_)
  · replace h1 := of_not_T h1
    refine rw_off (K := _) rfl rfl (not_F h1) rfl ?_
    refine rw_off (K := _) rfl rfl (not_F h1) rfl ?_
    refine rw_off (K := _) rfl rfl (not_F h1) rfl ?_
    refine rw_off (K := _) rfl rfl (not_F h1) rfl ?_
    refine rw_off (K := _) rfl rfl (not_F h1) rfl ?_
    refine rw_pT (K := _) rfl rfl (not_F h1) rfl ?_
    refine rw_end ?_
    refine gw_condT rfl rfl ?_
    refine gw_seq ?_
    refine gw_region ?_
    refine rw_load_s (K := _) (i := 1) [_, _, _, _] rfl tyS_impl_Allow rfl rfl rfl rfl ?_
    refine rw_store (K := _) (i := 0) [_, _, _, _] [_, _, _, _] tyS_impl_Allow.sz rfl rfl rfl rfl rfl rfl rfl rfl ?_
    refine rw_assign (K := _) rfl rfl ?_
    refine rw_end ?_
    refine ret_cv Try.func33 (res2 Try.func33 rfl (rv_s (i := 0) [_, _, _, _] tyS_impl_Allow rfl rfl rfl rfl) (rv_tmp rfl)) ?_
    simp only [closeOne, h1] <;> rfl
  · replace h1 := of_not_F h1
    refine rw_on (K := _) rfl rfl (not_T h1) ?_
    refine rw_fieldAddr (K := _) rfl tyF_impl_Allow_3 rfl ?_
    refine rw_on (K := _) rfl rfl (not_T h1) ?_
    refine rw_load (K := _) (i := 1) rfl tyP_int rfl rfl rfl ?_
    refine rw_on (K := _) rfl rfl (not_T h1) ?_
    refine rw_fieldAddr (K := _) rfl tyF_impl_Allow_2 rfl ?_
    refine rw_on (K := _) rfl rfl (not_T h1) ?_
    refine rw_load (K := _) (i := 1) rfl tyP_int rfl rfl rfl ?_
    refine rw_on (K := _) rfl rfl (not_T h1) ?_
    refine rw_eql (K := _) rfl rfl rfl ?_
    refine rw_pF (K := _) rfl rfl (not_T h1) rfl ?_
    refine rw_end ?_
    refine gw_cond rfl (fun h2 => ?_) (fun h2 => ?_)
    · refine gw_seq ?_
      refine gw_region ?_
      refine rw_load_s (K := _) (i := 1) [_, _, _, _] rfl tyS_impl_Allow rfl rfl rfl rfl ?_
      refine rw_store (K := _) (i := 0) [_, _, _, _] [_, _, _, _] tyS_impl_Allow.sz rfl rfl rfl rfl rfl rfl rfl rfl ?_
      refine rw_assign (K := _) rfl rfl ?_
      refine rw_end ?_
      refine ret_cv Try.func33 (res2 Try.func33 rfl (rv_s (i := 0) [_, _, _, _] tyS_impl_Allow rfl rfl rfl rfl) (rv_tmp rfl)) ?_
      simp only [closeOne, h1, h2] <;> rfl
    · refine gw_skip ?_
      refine gw_seq ?_
      refine gw_region ?_
      refine rw_fieldAddr (K := _) rfl tyF_impl_Allow_3 rfl ?_
      refine rw_load (K := _) (i := 1) rfl tyP_int rfl rfl rfl ?_
      refine rw_add (K := _) rfl rfl rfl ?_
      refine rw_fieldAddr (K := _) rfl tyF_impl_Allow_3 rfl ?_
      refine rw_store (K := _) (i := 1) [_] [_, _, _, _] tyP_int.sz rfl rfl rfl rfl rfl rfl rfl rfl ?_
      refine rw_end ?_
      refine gw_seq ?_
      refine gw_region ?_
      refine rw_load_s (K := _) (i := 1) [_, _, _, _] rfl tyS_impl_Allow rfl rfl rfl rfl ?_
      refine rw_store (K := _) (i := 0) [_, _, _, _] [_, _, _, _] tyS_impl_Allow.sz rfl rfl rfl rfl rfl rfl rfl rfl ?_
      refine rw_assign (K := _) rfl rfl ?_
      refine rw_end ?_
      refine ret_cv Try.func33 (res2 Try.func33 rfl (rv_s (i := 0) [_, _, _, _] tyS_impl_Allow rfl rfl rfl rfl) (rv_tmp rfl)) ?_
      simp only [closeOne, h1, h2] <;> rfl

theorem spec_IsPriority (p : Priority) (w : World) : CV Try.prog 15 [.agg p.cells.toArray] w (.bool (isPriority p)) := by
  refine cv_of Try.func15 rfl rfl rfl ?_
  refine gw_seq ?_
  refine gw_region ?_
  refine rw_box (K := _) [_, _] rfl rfl rfl (fun b1 => ?_)
  refine rw_assign (K := _) rfl rfl ?_
  refine rw_end ?_
  refine gw_seq ?_
  refine gw_region ?_
  refine rw_fieldAddr (K := _) rfl tyF_impl_Priority_0 rfl ?_
  refine rw_load (K := _) (i := 0) rfl tyP_int rfl rfl rfl ?_
  refine rw_cv (K := _) rfl fun_spec_l1In rfl (fun w hs => spec_l1In _ _ _ w) ?_
  refine rw_assign (K := _) rfl rfl ?_
  refine rw_end ?_
  refine ret_cv Try.func15 (res1 Try.func15 rfl (rv_tmp rfl)) ?_
  simp only [isPriority] <;> rfl

theorem spec_DefaultPriority (w : World) : CV Try.prog 18 [] w (.agg defaultPriority.cells.toArray) := by
  refine cv_of Try.func18 rfl rfl rfl ?_
  refine gw_seq ?_
  refine gw_region ?_
  refine rw_alloc (K := _) rfl tyZ_impl_Priority (fun b1 => ?_)
  refine rw_end ?_
  refine gw_seq ?_
  refine gw_region ?_
  refine rw_build (K := _) [_, _] rfl tyB_impl_Priority tyZ_impl_Priority rfl rfl ?_
  refine rw_store (K := _) (i := 0) [_, _] [_, _] tyS_impl_Priority.sz rfl rfl rfl rfl rfl rfl rfl rfl ?_
  refine rw_end ?_
  refine ret_cv Try.func18 (res1 Try.func18 rfl (rv_s (i := 0) [_, _] tyS_impl_Priority rfl rfl rfl rfl)) ?_
  rfl

theorem spec_IsConf (c : Conf) (w : World) : CV Try.prog 21 [.agg c.cells.toArray] w (.bool (isConf c)) := by
  refine cv_of Try.func21 rfl rfl rfl ?_
  refine gw_seq ?_
  refine gw_region ?_
  refine rw_box (K := _) [_, _, _, _, _, _, _, _] rfl rfl rfl (fun b1 => ?_)
  refine rw_assign (K := _) rfl rfl ?_
  refine rw_end ?_
  refine gw_seq ?_
  refine gw_region ?_
  refine rw_fieldAddr (K := _) rfl tyF_impl_Conf_0 rfl ?_
  refine rw_load (K := _) (i := 0) rfl tyP_int rfl rfl rfl ?_
  refine rw_cv (K := _) rfl fun_spec_l8Power rfl (fun w hs => spec_l8Power _ w) ?_
  refine rw_move (K := _) rfl rfl ?_
  refine rw_case (j := 6) rfl (fun h1 => ?_) (fun h1 => ?_)
  · refine rw_on (K := _) rfl rfl h1 ?_
    refine rw_fieldAddr (K := _) rfl tyF_impl_Conf_2 rfl ?_
    refine rw_on (K := _) rfl rfl h1 ?_
    refine rw_load (K := _) (i := 0) rfl tyP_int rfl rfl rfl ?_
    refine rw_on (K := _) rfl rfl h1 ?_
    refine rw_cv (K := _) rfl fun_spec_l1In rfl (fun w hs => spec_l1In _ _ _ w) ?_
    refine rw_pT (K := _) rfl rfl h1 rfl ?_
    refine rw_move (K := _) rfl rfl ?_
    refine rw_case (j := 11) rfl (fun h2 => ?_) (fun h2 => ?_)
    · refine rw_on (K := _) rfl rfl h2 ?_
      refine rw_fieldAddr (K := _) rfl tyF_impl_Conf_1 rfl ?_
      refine rw_on (K := _) rfl rfl h2 ?_
      refine rw_load (K := _) (i := 0) rfl tyP_int rfl rfl rfl ?_
      refine rw_on (K := _) rfl rfl h2 ?_
      refine rw_fieldAddr (K := _) rfl tyF_impl_Conf_2 rfl ?_
      refine rw_on (K := _) rfl rfl h2 ?_
      refine rw_load (K := _) (i := 0) rfl tyP_int rfl rfl rfl ?_
      refine rw_on (K := _) rfl rfl h2 ?_
      refine rw_cv (K := _) rfl fun_spec_l1In rfl (fun w hs => spec_l1In _ _ _ w) ?_
      refine rw_pT (K := _) rfl rfl h2 rfl ?_
      refine rw_move (K := _) rfl rfl ?_
      refine rw_case (j := 18) rfl (fun h3 => ?_) (fun h3 => ?_)
      · refine rw_on (K := _) rfl rfl h3 ?_
        refine rw_fieldAddr (K := _) rfl tyF_impl_Conf_4 rfl ?_
        refine rw_on (K := _) rfl rfl h3 ?_
        refine rw_load (K := _) (i := 0) rfl tyP_int rfl rfl rfl ?_
        refine rw_on (K := _) rfl rfl h3 ?_
        refine rw_cv (K := _) rfl fun_spec_l1In rfl (fun w hs => spec_l1In _ _ _ w) ?_
        refine rw_pT (K := _) rfl rfl h3 rfl ?_
        refine rw_move (K := _) rfl rfl ?_
        refine rw_case (j := 23) rfl (fun h4 => ?_) (fun h4 => ?_)
        · refine rw_on (K := _) rfl rfl h4 ?_
          refine rw_fieldAddr (K := _) rfl tyF_impl_Conf_3 rfl ?_
          refine rw_on (K := _) rfl rfl h4 ?_
          refine rw_load (K := _) (i := 0) rfl tyP_int rfl rfl rfl ?_
          refine rw_on (K := _) rfl rfl h4 ?_
          refine rw_fieldAddr (K := _) rfl tyF_impl_Conf_4 rfl ?_
          refine rw_on (K := _) rfl rfl h4 ?_
          refine rw_load (K := _) (i := 0) rfl tyP_int rfl rfl rfl ?_
          refine rw_on (K := _) rfl rfl h4 ?_
          refine rw_cv (K := _) rfl fun_spec_l1In rfl (fun w hs => spec_l1In _ _ _ w) ?_
          refine rw_pT (K := _) rfl rfl h4 rfl ?_
          refine rw_move (K := _) rfl rfl ?_
          refine rw_case (j := 30) rfl (fun h5 => ?_) (fun h5 => ?_)
          · refine rw_on (K := _) rfl rfl h5 ?_
            refine rw_fieldAddr (K := _) rfl tyF_impl_Conf_5 rfl ?_
            refine rw_on (K := _) rfl rfl h5 ?_
            refine rw_load (K := _) (i := 0) rfl tyP_int rfl rfl rfl ?_
            refine rw_on (K := _) rfl rfl h5 ?_
            refine rw_cv (K := _) rfl fun_spec_l1In rfl (fun w hs => spec_l1In _ _ _ w) ?_
            refine rw_pT (K := _) rfl rfl h5 rfl ?_
            refine rw_move (K := _) rfl rfl ?_
            refine rw_case (j := 35) rfl (fun h6 => ?_) (fun h6 => ?_)
            · refine rw_on (K := _) rfl rfl h6 ?_
              refine rw_fieldAddr (K := _) rfl tyF_impl_Conf_6 rfl ?_
              refine rw_on (K := _) rfl rfl h6 ?_
              refine rw_load (K := _) (i := 0) rfl tyP_int rfl rfl rfl ?_
              refine rw_on (K := _) rfl rfl h6 ?_
              refine rw_cv (K := _) rfl fun_spec_l1In rfl (fun w hs => spec_l1In _ _ _ w) ?_
              refine rw_pT (K := _) rfl rfl h6 rfl ?_
              refine rw_move (K := _) rfl rfl ?_
              refine rw_case (j := 40) rfl (fun h7 => ?_) (fun h7 => ?_)
              · refine rw_on (K := _) rfl rfl h7 ?_
                refine rw_fieldAddr (K := _) rfl tyF_impl_Conf_7 rfl ?_
                refine rw_on (K := _) rfl rfl h7 ?_
                refine rw_load (K := _) (i := 0) rfl tyP_int rfl rfl rfl ?_
                refine rw_on (K := _) rfl rfl h7 ?_
                refine rw_cv (K := _) rfl fun_spec_l1In rfl (fun w hs => spec_l1In _ _ _ w) ?_
                refine rw_pT (K := _) rfl rfl h7 rfl ?_
                refine rw_assign (K := _) rfl rfl ?_
                refine rw_end ?_
                refine ret_cv Try.func21 (res1 Try.func21 rfl (rv_tmp rfl)) ?_
                simp [isConf, h1, h2, h3, h4, h5, h6, h7]
              · refine rw_off (K := _) rfl rfl h7 rfl ?_
                refine rw_off (K := _) rfl rfl h7 rfl ?_
                refine rw_off (K := _) rfl rfl h7 rfl ?_
                refine rw_pF (K := _) rfl rfl h7 rfl ?_
                refine rw_assign (K := _) rfl rfl ?_
                refine rw_end ?_
                refine ret_cv Try.func21 (res1 Try.func21 rfl (rv_tmp rfl)) ?_
                simp [isConf, h1, h2, h3, h4, h5, h6, h7]
            · refine rw_off (K := _) rfl rfl h6 rfl ?_
              refine rw_off (K := _) rfl rfl h6 rfl ?_
              refine rw_off (K := _) rfl rfl h6 rfl ?_
              refine rw_pF (K := _) rfl rfl h6 rfl ?_
              refine rw_move (K := _) rfl rfl ?_
              refine rw_off (K := _) rfl rfl rfl rfl ?_
              refine rw_off (K := _) rfl rfl rfl rfl ?_
              refine rw_off (K := _) rfl rfl rfl rfl ?_
              refine rw_pF (K := _) rfl rfl rfl rfl ?_
              refine rw_assign (K := _) rfl rfl ?_
              refine rw_end ?_
              refine ret_cv Try.func21 (res1 Try.func21 rfl (rv_tmp rfl)) ?_
              simp [isConf, h1, h2, h3, h4, h5, h6]
          · refine rw_off (K := _) rfl rfl h5 rfl ?_
            refine rw_off (K := _) rfl rfl h5 rfl ?_
            refine rw_off (K := _) rfl rfl h5 rfl ?_
            refine rw_pF (K := _) rfl rfl h5 rfl ?_
            refine rw_move (K := _) rfl rfl ?_
            refine rw_off (K := _) rfl rfl rfl rfl ?_
            refine rw_off (K := _) rfl rfl rfl rfl ?_
            refine rw_off (K := _) rfl rfl rfl rfl ?_
            refine rw_pF (K := _) rfl rfl rfl rfl ?_
            refine rw_move (K := _) rfl rfl ?_
            refine rw_off (K := _) rfl rfl rfl rfl ?_
            refine rw_off (K := _) rfl rfl rfl rfl ?_
            refine rw_off (K := _) rfl rfl rfl rfl ?_
            refine rw_pF (K := _) rfl rfl rfl rfl ?_
            refine rw_assign (K := _) rfl rfl ?_
            refine rw_end ?_
            refine ret_cv Try.func21 (res1 Try.func21 rfl (rv_tmp rfl)) ?_
            simp [isConf, h1, h2, h3, h4, h5]
        · refine rw_off (K := _) rfl rfl h4 rfl ?_
          refine rw_off (K := _) rfl rfl h4 rfl ?_
          refine rw_off (K := _) rfl rfl h4 rfl ?_
          refine rw_off (K := _) rfl rfl h4 rfl ?_
          refine rw_off (K := _) rfl rfl h4 rfl ?_
          refine rw_pF (K := _) rfl rfl h4 rfl ?_
          refine rw_move (K := _) rfl rfl ?_
          refine rw_off (K := _) rfl rfl rfl rfl ?_
          refine rw_off (K := _) rfl rfl rfl rfl ?_
          refine rw_off (K := _) rfl rfl rfl rfl ?_
          refine rw_pF (K := _) rfl rfl rfl rfl ?_
          refine rw_move (K := _) rfl rfl ?_
          refine rw_off (K := _) rfl rfl rfl rfl ?_
          refine rw_off (K := _) rfl rfl rfl rfl ?_
          refine rw_off (K := _) rfl rfl rfl rfl ?_
          refine rw_pF (K := _) rfl rfl rfl rfl ?_
          refine rw_move (K := _) rfl rfl ?_
          refine rw_off (K := _) rfl rfl rfl rfl ?_
          refine rw_off (K := _) rfl rfl rfl rfl ?_
          refine rw_off (K := _) rfl rfl rfl rfl ?_
          refine rw_pF (K := _) rfl rfl rfl rfl ?_
          refine rw_assign (K := _) rfl rfl ?_
          refine rw_end ?_
          refine ret_cv Try.func21 (res1 Try.func21 rfl (rv_tmp rfl)) ?_
          simp [isConf, h1, h2, h3, h4]
      · refine rw_off (K := _) rfl rfl h3 rfl ?_
        refine rw_off (K := _) rfl rfl h3 rfl ?_
        refine rw_off (K := _) rfl rfl h3 rfl ?_
        refine rw_pF (K := _) rfl rfl h3 rfl ?_
        refine rw_move (K := _) rfl rfl ?_
        refine rw_off (K := _) rfl rfl rfl rfl ?_
        refine rw_off (K := _) rfl rfl rfl rfl ?_
        refine rw_off (K := _) rfl rfl rfl rfl ?_
        refine rw_off (K := _) rfl rfl rfl rfl ?_
        refine rw_off (K := _) rfl rfl rfl rfl ?_
        refine rw_pF (K := _) rfl rfl rfl rfl ?_
        refine rw_move (K := _) rfl rfl ?_
        refine rw_off (K := _) rfl rfl rfl rfl ?_
        refine rw_off (K := _) rfl rfl rfl rfl ?_
        refine rw_off (K := _) rfl rfl rfl rfl ?_
        refine rw_pF (K := _) rfl rfl rfl rfl ?_
        refine rw_move (K := _) rfl rfl ?_
        refine rw_off (K := _) rfl rfl rfl rfl ?_
        refine rw_off (K := _) rfl rfl rfl rfl ?_
        refine rw_off (K := _) rfl rfl rfl rfl ?_
        refine rw_pF (K := _) rfl rfl rfl rfl ?_
        refine rw_move (K := _) rfl rfl ?_
        refine rw_off (K := _) rfl rfl rfl rfl ?_
        refine rw_off (K := _) rfl rfl rfl rfl ?_
        refine rw_off (K := _) rfl rfl rfl rfl ?_
        refine rw_pF (K := _) rfl rfl rfl rfl ?_
        refine rw_assign (K := _) rfl rfl ?_
        refine rw_end ?_
        refine ret_cv Try.func21 (res1 Try.func21 rfl (rv_tmp rfl)) ?_
        simp [isConf, h1, h2, h3]
    · refine rw_off (K := _) rfl rfl h2 rfl ?_
      refine rw_off (K := _) rfl rfl h2 rfl ?_
      refine rw_off (K := _) rfl rfl h2 rfl ?_
      refine rw_off (K := _) rfl rfl h2 rfl ?_
      refine rw_off (K := _) rfl rfl h2 rfl ?_
      refine rw_pF (K := _) rfl rfl h2 rfl ?_
      refine rw_move (K := _) rfl rfl ?_
      refine rw_off (K := _) rfl rfl rfl rfl ?_
      refine rw_off (K := _) rfl rfl rfl rfl ?_
      refine rw_off (K := _) rfl rfl rfl rfl ?_
      refine rw_pF (K := _) rfl rfl rfl rfl ?_
      refine rw_move (K := _) rfl rfl ?_
      refine rw_off (K := _) rfl rfl rfl rfl ?_
      refine rw_off (K := _) rfl rfl rfl rfl ?_
      refine rw_off (K := _) rfl rfl rfl rfl ?_
      refine rw_off (K := _) rfl rfl rfl rfl ?_
      refine rw_off (K := _) rfl rfl rfl rfl ?_
      refine rw_pF (K := _) rfl rfl rfl rfl ?_
      refine rw_move (K := _) rfl rfl ?_
      refine rw_off (K := _) rfl rfl rfl rfl ?_
      refine rw_off (K := _) rfl rfl rfl rfl ?_
      refine rw_off (K := _) rfl rfl rfl rfl ?_
      refine rw_pF (K := _) rfl rfl rfl rfl ?_
      refine rw_move (K := _) rfl rfl ?_
      refine rw_off (K := _) rfl rfl rfl rfl ?_
      refine rw_off (K := _) rfl rfl rfl rfl ?_
      refine rw_off (K := _) rfl rfl rfl rfl ?_
      refine rw_pF (K := _) rfl rfl rfl rfl ?_
      refine rw_move (K := _) rfl rfl ?_
      refine rw_off (K := _) rfl rfl rfl rfl ?_
      refine rw_off (K := _) rfl rfl rfl rfl ?_
      refine rw_off (K := _) rfl rfl rfl rfl ?_
      refine rw_pF (K := _) rfl rfl rfl rfl ?_
      refine rw_assign (K := _) rfl rfl ?_
      refine rw_end ?_
      refine ret_cv Try.func21 (res1 Try.func21 rfl (rv_tmp rfl)) ?_
      simp [isConf, h1, h2]
  · refine rw_off (K := _) rfl rfl h1 rfl ?_
    refine rw_off (K := _) rfl rfl h1 rfl ?_
    refine rw_off (K := _) rfl rfl h1 rfl ?_
    refine rw_pF (K := _) rfl rfl h1 rfl ?_
    refine rw_move (K := _) rfl rfl ?_
    refine rw_off (K := _) rfl rfl rfl rfl ?_
    refine rw_off (K := _) rfl rfl rfl rfl ?_
    refine rw_off (K := _) rfl rfl rfl rfl ?_
    refine rw_off (K := _) rfl rfl rfl rfl ?_
    refine rw_off (K := _) rfl rfl rfl rfl ?_
    refine rw_pF (K := _) rfl rfl rfl rfl ?_
    refine rw_move (K := _) rfl rfl ?_
    refine rw_off (K := _) rfl rfl rfl rfl ?_
    refine rw_off (K := _) rfl rfl rfl rfl ?_
    refine rw_off (K := _) rfl rfl rfl rfl ?_
    refine rw_pF (K := _) rfl rfl rfl rfl ?_
    refine rw_move (K := _) rfl rfl ?_
    refine rw_off (K := _) rfl rfl rfl rfl ?_
    refine rw_off (K := _) rfl rfl rfl rfl ?_
    refine rw_off (K := _) rfl rfl rfl rfl ?_
    refine rw_off (K := _) rfl rfl rfl rfl ?_
    refine rw_off (K := _) rfl rfl rfl rfl ?_
    refine rw_pF (K := _) rfl rfl rfl rfl ?_
    refine rw_move (K := _) rfl rfl ?_
    refine rw_off (K := _) rfl rfl rfl rfl ?_
    refine rw_off (K := _) rfl rfl rfl rfl ?_
    refine rw_off (K := _) rfl rfl rfl rfl ?_
    refine rw_pF (K := _) rfl rfl rfl rfl ?_
    refine rw_move (K := _) rfl rfl ?_
    refine rw_off (K := _) rfl rfl rfl rfl ?_
    refine rw_off (K := _) rfl rfl rfl rfl ?_
    refine rw_off (K := _) rfl rfl rfl rfl ?_
    refine rw_pF (K := _) rfl rfl rfl rfl ?_
    refine rw_move (K := _) rfl rfl ?_
    refine rw_off (K := _) rfl rfl rfl rfl ?_
    refine rw_off (K := _) rfl rfl rfl rfl ?_
    refine rw_off (K := _) rfl rfl rfl rfl ?_
    refine rw_pF (K := _) rfl rfl rfl rfl ?_
    refine rw_assign (K := _) rfl rfl ?_
    refine rw_end ?_
    refine ret_cv Try.func21 (res1 Try.func21 rfl (rv_tmp rfl)) ?_
    simp [isConf, h1]

theorem spec_DefaultConf (w : World) : CV Try.prog 24 [] w (.agg defaultConf.cells.toArray) := by
  refine cv_of Try.func24 rfl rfl rfl ?_
  refine gw_seq ?_
  refine gw_region ?_
  refine rw_alloc (K := _) rfl tyZ_impl_Conf (fun b1 => ?_)
  refine rw_end ?_
  refine gw_seq ?_
  refine gw_region ?_
  refine rw_build (K := _) [_, _, _, _, _, _, _, _] rfl tyB_impl_Conf tyZ_impl_Conf rfl rfl ?_
  refine rw_store (K := _) (i := 0) [_, _, _, _, _, _, _, _] [_, _, _, _, _, _, _, _] tyS_impl_Conf.sz rfl rfl rfl rfl rfl rfl rfl rfl ?_
  refine rw_end ?_
  refine ret_cv Try.func24 (res1 Try.func24 rfl (rv_s (i := 0) [_, _, _, _, _, _, _, _] tyS_impl_Conf rfl rfl rfl rfl)) ?_
  rfl

theorem spec_IsAllow (a : Allow) (w : World) : CV Try.prog 60 [.agg a.cells.toArray] w (.bool (isAllow a)) := by
  refine cv_of Try.func60 rfl rfl rfl ?_
  refine gw_seq ?_
  refine gw_region ?_
  refine rw_box (K := _) [_, _, _, _] rfl rfl rfl (fun b1 => ?_)
  refine rw_assign (K := _) rfl rfl ?_
  refine rw_end ?_
  refine gw_seq ?_
  refine gw_region ?_
  refine rw_fieldAddr (K := _) rfl tyF_impl_Allow_0 rfl ?_
  refine rw_load (K := _) (i := 0) rfl tyP_int rfl rfl rfl ?_
  refine rw_cv (K := _) rfl fun_spec_l1In rfl (fun w hs => spec_l1In _ _ _ w) ?_
  refine rw_move (K := _) rfl rfl ?_
  refine rw_case (j := 6) rfl (fun h1 => ?_) (fun h1 => ?_)
  · refine rw_on (K := _) rfl rfl h1 ?_
    refine rw_fieldAddr (K := _) rfl tyF_impl_Allow_1 rfl ?_
    refine rw_on (K := _) rfl rfl h1 ?_
    refine rw_load (K := _) (i := 0) rfl tyP_int rfl rfl rfl ?_
    refine rw_on (K := _) rfl rfl h1 ?_
    refine rw_fieldAddr (K := _) rfl tyF_impl_Allow_0 rfl ?_
    refine rw_on (K := _) rfl rfl h1 ?_
    refine rw_load (K := _) (i := 0) rfl tyP_int rfl rfl rfl ?_
    refine rw_on (K := _) rfl rfl h1 ?_
    refine rw_cv (K := _) rfl fun_spec_l1In rfl (fun w hs => spec_l1In _ _ _ w) ?_
    refine rw_pT (K := _) rfl rfl h1 rfl ?_
    refine rw_move (K := _) rfl rfl ?_
    refine rw_case (j := 13) rfl (fun h2 => ?_) (fun h2 => ?_)
    · refine rw_on (K := _) rfl rfl h2 ?_
      refine rw_fieldAddr (K := _) rfl tyF_impl_Allow_2 rfl ?_
      refine rw_on (K := _) rfl rfl h2 ?_
      refine rw_load (K := _) (i := 0) rfl tyP_int rfl rfl rfl ?_
      refine rw_on (K := _) rfl rfl h2 ?_
      refine rw_fieldAddr (K := _) rfl tyF_impl_Allow_1 rfl ?_
      refine rw_on (K := _) rfl rfl h2 ?_
      refine rw_load (K := _) (i := 0) rfl tyP_int rfl rfl rfl ?_
      refine rw_on (K := _) rfl rfl h2 ?_
      refine rw_cv (K := _) rfl fun_spec_l1In rfl (fun w hs => spec_l1In _ _ _ w) ?_
      refine rw_pT (K := _) rfl rfl h2 rfl ?_
      refine rw_move (K := _) rfl rfl ?_
      refine rw_case (j := 20) rfl (fun h3 => ?_) (fun h3 => ?_)
      · refine rw_on (K := _) rfl rfl h3 ?_
        refine rw_fieldAddr (K := _) rfl tyF_impl_Allow_3 rfl ?_
        refine rw_on (K := _) rfl rfl h3 ?_
        refine rw_load (K := _) (i := 0) rfl tyP_int rfl rfl rfl ?_
        refine rw_on (K := _) rfl rfl h3 ?_
        refine rw_fieldAddr (K := _) rfl tyF_impl_Allow_2 rfl ?_
        refine rw_on (K := _) rfl rfl h3 ?_
        refine rw_load (K := _) (i := 0) rfl tyP_int rfl rfl rfl ?_
        refine rw_on (K := _) rfl rfl h3 ?_
        refine rw_cv (K := _) rfl fun_spec_l1In rfl (fun w hs => spec_l1In _ _ _ w) ?_
        refine rw_pT (K := _) rfl rfl h3 rfl ?_
        refine rw_move (K := _) rfl rfl ?_
        refine rw_case (j := 27) rfl (fun h4 => ?_) (fun h4 => ?_)
        · refine rw_on (K := _) rfl rfl h4 ?_
          refine rw_fieldAddr (K := _) rfl tyF_impl_Allow_1 rfl ?_
          refine rw_on (K := _) rfl rfl h4 ?_
          refine rw_load (K := _) (i := 0) rfl tyP_int rfl rfl rfl ?_
          refine rw_on (K := _) rfl rfl h4 ?_
          refine rw_fieldAddr (K := _) rfl tyF_impl_Allow_3 rfl ?_
          refine rw_on (K := _) rfl rfl h4 ?_
          refine rw_load (K := _) (i := 0) rfl tyP_int rfl rfl rfl ?_
          refine rw_on (K := _) rfl rfl h4 ?_
          refine rw_fieldAddr (K := _) rfl tyF_impl_Allow_0 rfl ?_
          refine rw_on (K := _) rfl rfl h4 ?_
          refine rw_load (K := _) (i := 0) rfl tyP_int rfl rfl rfl ?_
          refine rw_on (K := _) rfl rfl h4 ?_
          refine rw_add (K := _) rfl rfl rfl ?_
          refine rw_on (K := _) rfl rfl h4 ?_
          refine rw_leq (K := _) rfl rfl rfl ?_
          refine rw_pT (K := _) rfl rfl h4 rfl ?_
          refine rw_assign (K := _) rfl rfl ?_
          refine rw_end ?_
          refine ret_cv Try.func60 (res1 Try.func60 rfl (rv_tmp rfl)) ?_
          simp only [isAllow, h1, h2, h3, h4] <;> rfl
        · refine rw_off (K := _) rfl rfl h4 rfl ?_
          refine rw_off (K := _) rfl rfl h4 rfl ?_
          refine rw_off (K := _) rfl rfl h4 rfl ?_
          refine rw_off (K := _) rfl rfl h4 rfl ?_
          refine rw_off (K := _) rfl rfl h4 rfl ?_
          refine rw_off (K := _) rfl rfl h4 rfl ?_
          refine rw_off (K := _) rfl rfl h4 rfl ?_
          refine rw_off (K := _) rfl rfl h4 rfl ?_
          refine rw_pF (K := _) rfl rfl h4 rfl ?_
          refine rw_assign (K := _) rfl rfl ?_
          refine rw_end ?_
          refine ret_cv Try.func60 (res1 Try.func60 rfl (rv_tmp rfl)) ?_
          simp only [isAllow, h1, h2, h3, h4] <;> rfl
      · refine rw_off (K := _) rfl rfl h3 rfl ?_
        refine rw_off (K := _) rfl rfl h3 rfl ?_
        refine rw_off (K := _) rfl rfl h3 rfl ?_
        refine rw_off (K := _) rfl rfl h3 rfl ?_
        refine rw_off (K := _) rfl rfl h3 rfl ?_
        refine rw_pF (K := _) rfl rfl h3 rfl ?_
        refine rw_move (K := _) rfl rfl ?_
        refine rw_off (K := _) rfl rfl rfl rfl ?_
        refine rw_off (K := _) rfl rfl rfl rfl ?_
        refine rw_off (K := _) rfl rfl rfl rfl ?_
        refine rw_off (K := _) rfl rfl rfl rfl ?_
        refine rw_off (K := _) rfl rfl rfl rfl ?_
        refine rw_off (K := _) rfl rfl rfl rfl ?_
        refine rw_off (K := _) rfl rfl rfl rfl ?_
        refine rw_off (K := _) rfl rfl rfl rfl ?_
        refine rw_pF (K := _) rfl rfl rfl rfl ?_
        refine rw_assign (K := _) rfl rfl ?_
        refine rw_end ?_
        refine ret_cv Try.func60 (res1 Try.func60 rfl (rv_tmp rfl)) ?_
        simp only [isAllow, h1, h2, h3] <;> rfl
    · refine rw_off (K := _) rfl rfl h2 rfl ?_
      refine rw_off (K := _) rfl rfl h2 rfl ?_
      refine rw_off (K := _) rfl rfl h2 rfl ?_
      refine rw_off (K := _) rfl rfl h2 rfl ?_
      refine rw_off (K := _) rfl rfl h2 rfl ?_
      refine rw_pF (K := _) rfl rfl h2 rfl ?_
      refine rw_move (K := _) rfl rfl ?_
      refine rw_off (K := _) rfl rfl rfl rfl ?_
      refine rw_off (K := _) rfl rfl rfl rfl ?_
      refine rw_off (K := _) rfl rfl rfl rfl ?_
      refine rw_off (K := _) rfl rfl rfl rfl ?_
      refine rw_off (K := _) rfl rfl rfl rfl ?_
      refine rw_pF (K := _) rfl rfl rfl rfl ?_
      refine rw_move (K := _) rfl rfl ?_
      refine rw_off (K := _) rfl rfl rfl rfl ?_
      refine rw_off (K := _) rfl rfl rfl rfl ?_
      refine rw_off (K := _) rfl rfl rfl rfl ?_
      refine rw_off (K := _) rfl rfl rfl rfl ?_
      refine rw_off (K := _) rfl rfl rfl rfl ?_
      refine rw_off (K := _) rfl rfl rfl rfl ?_
      refine rw_off (K := _) rfl rfl rfl rfl ?_
      refine rw_off (K := _) rfl rfl rfl rfl ?_
      refine rw_pF (K := _) rfl rfl rfl rfl ?_
      refine rw_assign (K := _) rfl rfl ?_
      refine rw_end ?_
      refine ret_cv Try.func60 (res1 Try.func60 rfl (rv_tmp rfl)) ?_
      simp only [isAllow, h1, h2] <;> rfl
  · refine rw_off (K := _) rfl rfl h1 rfl ?_
    refine rw_off (K := _) rfl rfl h1 rfl ?_
    refine rw_off (K := _) rfl rfl h1 rfl ?_
    refine rw_off (K := _) rfl rfl h1 rfl ?_
    refine rw_off (K := _) rfl rfl h1 rfl ?_
    refine rw_pF (K := _) rfl rfl h1 rfl ?_
    refine rw_move (K := _) rfl rfl ?_
    refine rw_off (K := _) rfl rfl rfl rfl ?_
    refine rw_off (K := _) rfl rfl rfl rfl ?_
    refine rw_off (K := _) rfl rfl rfl rfl ?_
    refine rw_off (K := _) rfl rfl rfl rfl ?_
    refine rw_off (K := _) rfl rfl rfl rfl ?_
    refine rw_pF (K := _) rfl rfl rfl rfl ?_
    refine rw_move (K := _) rfl rfl ?_
    refine rw_off (K := _) rfl rfl rfl rfl ?_
    refine rw_off (K := _) rfl rfl rfl rfl ?_
    refine rw_off (K := _) rfl rfl rfl rfl ?_
    refine rw_off (K := _) rfl rfl rfl rfl ?_
    refine rw_off (K := _) rfl rfl rfl rfl ?_
    refine rw_pF (K := _) rfl rfl rfl rfl ?_
    refine rw_move (K := _) rfl rfl ?_
    refine rw_off (K := _) rfl rfl rfl rfl ?_
    refine rw_off (K := _) rfl rfl rfl rfl ?_
    refine rw_off (K := _) rfl rfl rfl rfl ?_
    refine rw_off (K := _) rfl rfl rfl rfl ?_
    refine rw_off (K := _) rfl rfl rfl rfl ?_
    refine rw_off (K := _) rfl rfl rfl rfl ?_
    refine rw_off (K := _) rfl rfl rfl rfl ?_
    refine rw_off (K := _) rfl rfl rfl rfl ?_
    refine rw_pF (K := _) rfl rfl rfl rfl ?_
    refine rw_assign (K := _) rfl rfl ?_
    refine rw_end ?_
    refine ret_cv Try.func60 (res1 Try.func60 rfl (rv_tmp rfl)) ?_
    simp only [isAllow, h1] <;> rfl

theorem spec_CloseOne (a : Allow) (w : World) : CV Try.prog 31 [.agg a.cells.toArray] w (.tuple #[.agg (closeOne a).1.cells.toArray, .bool (closeOne a).2]) := by
  refine cv_of Try.func31 rfl rfl rfl ?_
  refine gw_seq ?_
  refine gw_region ?_
  refine rw_box (K := _) [_, _, _, _] rfl rfl rfl (fun b1 => ?_)
  refine rw_alloc (K := _) rfl tyZ_impl_Allow (fun b2 => ?_)
  refine rw_assign (K := _) rfl rfl ?_
  refine rw_end ?_
  refine gw_seq ?_
  refine gw_seq ?_
  refine gw_region ?_
  refine rw_load_s (K := _) (i := 1) [_, _, _, _] rfl tyS_impl_Allow rfl rfl rfl rfl ?_
  refine rw_cv (K := _) rfl fun_spec_IsAllow rfl (fun w hs => spec_IsAllow _ w) ?_
  refine rw_not (K := _) rfl rfl ?_
  refine rw_move (K := _) rfl rfl ?_
  refine rw_case (j := 7) rfl (fun h1 => ?_) (fun h1 => ?_)
  · replace h1 := of_not_T h1
    refine rw_off (K := _) rfl rfl (not_F h1) rfl ?_
    refine rw_off (K := _) rfl rfl (not_F h1) rfl ?_
    refine rw_off (K := _) rfl rfl (not_F h1) rfl ?_
    refine rw_off (K := _) rfl rfl (not_F h1) rfl ?_
    refine rw_off (K := _) rfl rfl (not_F h1) rfl ?_
    refine rw_pT (K := _) rfl rfl (not_F h1) rfl ?_
    refine rw_end ?_
    refine gw_condT rfl rfl ?_
    refine gw_seq ?_
    refine gw_region ?_
    refine rw_load_s (K := _) (i := 1) [_, _, _, _] rfl tyS_impl_Allow rfl rfl rfl rfl ?_
    refine rw_store (K := _) (i := 0) [_, _, _, _] [_, _, _, _] tyS_impl_Allow.sz rfl rfl rfl rfl rfl rfl rfl rfl ?_
    refine rw_assign (K := _) rfl rfl ?_
    refine rw_end ?_
    refine ret_cv Try.func31 (res2 Try.func31 rfl (rv_s (i := 0) [_, _, _, _] tyS_impl_Allow rfl rfl rfl rfl) (rv_tmp rfl)) ?_
    simp only [closeOne, h1] <;> rfl
  · replace h1 := of_not_F h1
    refine rw_on (K := _) rfl rfl (not_T h1) ?_
    refine rw_fieldAddr (K := _) rfl tyF_impl_Allow_3 rfl ?_
    refine rw_on (K := _) rfl rfl (not_T h1) ?_
    refine rw_load (K := _) (i := 1) rfl tyP_int rfl rfl rfl ?_
    refine rw_on (K := _) rfl rfl (not_T h1) ?_
    refine rw_fieldAddr (K := _) rfl tyF_impl_Allow_2 rfl ?_
    refine rw_on (K := _) rfl rfl (not_T h1) ?_
    refine rw_load (K := _) (i := 1) rfl tyP_int rfl rfl rfl ?_
    refine rw_on (K := _) rfl rfl (not_T h1) ?_
    refine rw_eql (K := _) rfl rfl rfl ?_
    refine rw_pF (K := _) rfl rfl (not_T h1) rfl ?_
    refine rw_end ?_
    refine gw_cond rfl (fun h2 => ?_) (fun h2 => ?_)
    · refine gw_seq ?_
      refine gw_region ?_
      refine rw_load_s (K := _) (i := 1) [_, _, _, _] rfl tyS_impl_Allow rfl rfl rfl rfl ?_
      refine rw_store (K := _) (i := 0) [_, _, _, _] [_, _, _, _] tyS_impl_Allow.sz rfl rfl rfl rfl rfl rfl rfl rfl ?_
      refine rw_assign (K := _) rfl rfl ?_
      refine rw_end ?_
      refine ret_cv Try.func31 (res2 Try.func31 rfl (rv_s (i := 0) [_, _, _, _] tyS_impl_Allow rfl rfl rfl rfl) (rv_tmp rfl)) ?_
      simp only [closeOne, h1, h2] <;> rfl
    · refine gw_skip ?_
      refine gw_seq ?_
      refine gw_region ?_
      refine rw_fieldAddr (K := _) rfl tyF_impl_Allow_3 rfl ?_
      refine rw_load (K := _) (i := 1) rfl tyP_int rfl rfl rfl ?_
      refine rw_add (K := _) rfl rfl rfl ?_
      refine rw_fieldAddr (K := _) rfl tyF_impl_Allow_3 rfl ?_
      refine rw_store (K := _) (i := 1) [_] [_, _, _, _] tyP_int.sz rfl rfl rfl rfl rfl rfl rfl rfl ?_
      refine rw_end ?_
      refine gw_seq ?_
      refine gw_region ?_
      refine rw_load_s (K := _) (i := 1) [_, _, _, _] rfl tyS_impl_Allow rfl rfl rfl rfl ?_
      refine rw_store (K := _) (i := 0) [_, _, _, _] [_, _, _, _] tyS_impl_Allow.sz rfl rfl rfl rfl rfl rfl rfl rfl ?_
      refine rw_assign (K := _) rfl rfl ?_
      refine rw_end ?_
      refine ret_cv Try.func31 (res2 Try.func31 rfl (rv_s (i := 0) [_, _, _, _] tyS_impl_Allow rfl rfl rfl rfl) (rv_tmp rfl)) ?_
      simp only [closeOne, h1, h2] <;> rfl

theorem laws_toPriority (a : Priority) (w : World) : CV Try.prog 16 [.agg a.cells.toArray] w (.agg a.cells.toArray) := by
  refine cv_of Try.func16 rfl rfl rfl ?_
  refine gw_seq ?_
  refine gw_region ?_
  refine rw_box (K := _) [_, _] rfl rfl rfl (fun b1 => ?_)
  refine rw_alloc (K := _) rfl tyZ_impl_Priority (fun b2 => ?_)
  refine rw_end ?_
  refine gw_seq ?_
  refine gw_region ?_
  refine rw_alloc (K := _) rfl tyZ_impl_Priority (fun b3 => ?_)
  refine rw_end ?_
  refine gw_seq ?_
  refine gw_region ?_
  refine rw_fieldAddr (K := _) rfl tyF_laws_Priority_0 rfl ?_
  refine rw_load (K := _) (i := 2) rfl tyP_int rfl rfl rfl ?_
  refine rw_fieldAddr (K := _) rfl tyF_impl_Priority_0 rfl ?_
  refine rw_store (K := _) (i := 0) [_] [_, _] tyP_int.sz rfl rfl rfl rfl rfl rfl rfl rfl ?_
  refine rw_end ?_
  refine gw_seq ?_
  refine gw_region ?_
  refine rw_fieldAddr (K := _) rfl tyF_laws_Priority_1 rfl ?_
  refine rw_load (K := _) (i := 2) rfl tyP_bool rfl rfl rfl ?_
  refine rw_fieldAddr (K := _) rfl tyF_impl_Priority_1 rfl ?_
  refine rw_store (K := _) (i := 0) [_] [_, _] tyP_bool.sz rfl rfl rfl rfl rfl rfl rfl rfl ?_
  refine rw_end ?_
  refine gw_seq ?_
  refine gw_region ?_
  refine rw_load_s (K := _) (i := 0) [_, _] rfl tyS_impl_Priority rfl rfl rfl rfl ?_
  refine rw_store (K := _) (i := 1) [_, _] [_, _] tyS_impl_Priority.sz rfl rfl rfl rfl rfl rfl rfl rfl ?_
  refine rw_end ?_
  refine ret_cv Try.func16 (res1 Try.func16 rfl (rv_s (i := 1) [_, _] tyS_impl_Priority rfl rfl rfl rfl)) ?_
  rfl

theorem laws_toConf (a : Conf) (w : World) : CV Try.prog 22 [.agg a.cells.toArray] w (.agg a.cells.toArray) := by
  refine cv_of Try.func22 rfl rfl rfl ?_
  refine gw_seq ?_
  refine gw_region ?_
  refine rw_box (K := _) [_, _, _, _, _, _, _, _] rfl rfl rfl (fun b1 => ?_)
  refine rw_alloc (K := _) rfl tyZ_impl_Conf (fun b2 => ?_)
  refine rw_end ?_
  refine gw_seq ?_
  refine gw_region ?_
  refine rw_alloc (K := _) rfl tyZ_impl_Conf (fun b3 => ?_)
  refine rw_end ?_
  refine gw_seq ?_
  refine gw_region ?_
  refine rw_fieldAddr (K := _) rfl tyF_laws_Conf_0 rfl ?_
  refine rw_load (K := _) (i := 2) rfl tyP_int rfl rfl rfl ?_
  refine rw_fieldAddr (K := _) rfl tyF_impl_Conf_0 rfl ?_
  refine rw_store (K := _) (i := 0) [_] [_, _, _, _, _, _, _, _] tyP_int.sz rfl rfl rfl rfl rfl rfl rfl rfl ?_
  refine rw_end ?_
  refine gw_seq ?_
  refine gw_region ?_
  refine rw_fieldAddr (K := _) rfl tyF_laws_Conf_1 rfl ?_
  refine rw_load (K := _) (i := 2) rfl tyP_int rfl rfl rfl ?_
  refine rw_fieldAddr (K := _) rfl tyF_impl_Conf_1 rfl ?_
  refine rw_store (K := _) (i := 0) [_] [_, _, _, _, _, _, _, _] tyP_int.sz rfl rfl rfl rfl rfl rfl rfl rfl ?_
  refine rw_end ?_
  refine gw_seq ?_
  refine gw_region ?_
  refine rw_fieldAddr (K := _) rfl tyF_laws_Conf_2 rfl ?_
  refine rw_load (K := _) (i := 2) rfl tyP_int rfl rfl rfl ?_
  refine rw_fieldAddr (K := _) rfl tyF_impl_Conf_2 rfl ?_
  refine rw_store (K := _) (i := 0) [_] [_, _, _, _, _, _, _, _] tyP_int.sz rfl rfl rfl rfl rfl rfl rfl rfl ?_
  refine rw_end ?_
  refine gw_seq ?_
  refine gw_region ?_
  refine rw_fieldAddr (K := _) rfl tyF_laws_Conf_3 rfl ?_
  refine rw_load (K := _) (i := 2) rfl tyP_int rfl rfl rfl ?_
  refine rw_fieldAddr (K := _) rfl tyF_impl_Conf_3 rfl ?_
  refine rw_store (K := _) (i := 0) [_] [_, _, _, _, _, _, _, _] tyP_int.sz rfl rfl rfl rfl rfl rfl rfl rfl ?_
  refine rw_end ?_
  refine gw_seq ?_
  refine gw_region ?_
  refine rw_fieldAddr (K := _) rfl tyF_laws_Conf_4 rfl ?_
  refine rw_load (K := _) (i := 2) rfl tyP_int rfl rfl rfl ?_
  refine rw_fieldAddr (K := _) rfl tyF_impl_Conf_4 rfl ?_
  refine rw_store (K := _) (i := 0) [_] [_, _, _, _, _, _, _, _] tyP_int.sz rfl rfl rfl rfl rfl rfl rfl rfl ?_
  refine rw_end ?_
  refine gw_seq ?_
  refine gw_region ?_
  refine rw_fieldAddr (K := _) rfl tyF_laws_Conf_5 rfl ?_
  refine rw_load (K := _) (i := 2) rfl tyP_int rfl rfl rfl ?_
  refine rw_fieldAddr (K := _) rfl tyF_impl_Conf_5 rfl ?_
  refine rw_store (K := _) (i := 0) [_] [_, _, _, _, _, _, _, _] tyP_int.sz rfl rfl rfl rfl rfl rfl rfl rfl ?_
  refine rw_end ?_
  refine gw_seq ?_
  refine gw_region ?_
  refine rw_fieldAddr (K := _) rfl tyF_laws_Conf_6 rfl ?_
  refine rw_load (K := _) (i := 2) rfl tyP_int rfl rfl rfl ?_
  refine rw_fieldAddr (K := _) rfl tyF_impl_Conf_6 rfl ?_
  refine rw_store (K := _) (i := 0) [_] [_, _, _, _, _, _, _, _] tyP_int.sz rfl rfl rfl rfl rfl rfl rfl rfl ?_
  refine rw_end ?_
  refine gw_seq ?_
  refine gw_region ?_
  refine rw_fieldAddr (K := _) rfl tyF_laws_Conf_7 rfl ?_
  refine rw_load (K := _) (i := 2) rfl tyP_int rfl rfl rfl ?_
  refine rw_fieldAddr (K := _) rfl tyF_impl_Conf_7 rfl ?_
  refine rw_store (K := _) (i := 0) [_] [_, _, _, _, _, _, _, _] tyP_int.sz rfl rfl rfl rfl rfl rfl rfl rfl ?_
  refine rw_end ?_
  refine gw_seq ?_
  refine gw_region ?_
  refine rw_load_s (K := _) (i := 0) [_, _, _, _, _, _, _, _] rfl tyS_impl_Conf rfl rfl rfl rfl ?_
  refine rw_store (K := _) (i := 1) [_, _, _, _, _, _, _, _] [_, _, _, _, _, _, _, _] tyS_impl_Conf.sz rfl rfl rfl rfl rfl rfl rfl rfl ?_
  refine rw_end ?_
  refine ret_cv Try.func22 (res1 Try.func22 rfl (rv_s (i := 1) [_, _, _, _, _, _, _, _] tyS_impl_Conf rfl rfl rfl rfl)) ?_
  rfl

theorem laws_toAllow (a : Allow) (w : World) : CV Try.prog 32 [.agg a.cells.toArray] w (.agg a.cells.toArray) := by
  refine cv_of Try.func32 rfl rfl rfl ?_
  refine gw_seq ?_
  refine gw_region ?_
  refine rw_box (K := _) [_, _, _, _] rfl rfl rfl (fun b1 => ?_)
  refine rw_alloc (K := _) rfl tyZ_impl_Allow (fun b2 => ?_)
  refine rw_end ?_
  refine gw_seq ?_
  refine gw_region ?_
  refine rw_alloc (K := _) rfl tyZ_impl_Allow (fun b3 => ?_)
  refine rw_end ?_
  refine gw_seq ?_
  refine gw_region ?_
  refine rw_fieldAddr (K := _) rfl tyF_laws_Allow_0 rfl ?_
  refine rw_load (K := _) (i := 2) rfl tyP_int rfl rfl rfl ?_
  refine rw_fieldAddr (K := _) rfl tyF_impl_Allow_0 rfl ?_
  refine rw_store (K := _) (i := 0) [_] [_, _, _, _] tyP_int.sz rfl rfl rfl rfl rfl rfl rfl rfl ?_
  refine rw_end ?_
  refine gw_seq ?_
  refine gw_region ?_
  refine rw_fieldAddr (K := _) rfl tyF_laws_Allow_1 rfl ?_
  refine rw_load (K := _) (i := 2) rfl tyP_int rfl rfl rfl ?_
  refine rw_fieldAddr (K := _) rfl tyF_impl_Allow_1 rfl ?_
  refine rw_store (K := _) (i := 0) [_] [_, _, _, _] tyP_int.sz rfl rfl rfl rfl rfl rfl rfl rfl ?_
  refine rw_end ?_
  refine gw_seq ?_
  refine gw_region ?_
  refine rw_fieldAddr (K := _) rfl tyF_laws_Allow_2 rfl ?_
  refine rw_load (K := _) (i := 2) rfl tyP_int rfl rfl rfl ?_
  refine rw_fieldAddr (K := _) rfl tyF_impl_Allow_2 rfl ?_
  refine rw_store (K := _) (i := 0) [_] [_, _, _, _] tyP_int.sz rfl rfl rfl rfl rfl rfl rfl rfl ?_
  refine rw_end ?_
  refine gw_seq ?_
  refine gw_region ?_
  refine rw_fieldAddr (K := _) rfl tyF_laws_Allow_3 rfl ?_
  refine rw_load (K := _) (i := 2) rfl tyP_int rfl rfl rfl ?_
  refine rw_fieldAddr (K := _) rfl tyF_impl_Allow_3 rfl ?_
  refine rw_store (K := _) (i := 0) [_] [_, _, _, _] tyP_int.sz rfl rfl rfl rfl rfl rfl rfl rfl ?_
  refine rw_end ?_
  refine gw_seq ?_
  refine gw_region ?_
  refine rw_load_s (K := _) (i := 0) [_, _, _, _] rfl tyS_impl_Allow rfl rfl rfl rfl ?_
  refine rw_store (K := _) (i := 1) [_, _, _, _] [_, _, _, _] tyS_impl_Allow.sz rfl rfl rfl rfl rfl rfl rfl rfl ?_
  refine rw_end ?_
  refine ret_cv Try.func32 (res1 Try.func32 rfl (rv_s (i := 1) [_, _, _, _] tyS_impl_Allow rfl rfl rfl rfl)) ?_
  rfl

theorem laws_toCount (a : Count) (w : World) : CV Try.prog 43 [.agg a.cells.toArray] w (.agg a.cells.toArray) := by
  refine cv_of Try.func43 rfl rfl rfl ?_
  refine gw_seq ?_
  refine gw_region ?_
  refine rw_box (K := _) [_, _, _] rfl rfl rfl (fun b1 => ?_)
  refine rw_alloc (K := _) rfl tyZ_impl_Count (fun b2 => ?_)
  refine rw_end ?_
  refine gw_seq ?_
  refine gw_region ?_
  refine rw_alloc (K := _) rfl tyZ_impl_Count (fun b3 => ?_)
  refine rw_end ?_
  refine gw_seq ?_
  refine gw_region ?_
  refine rw_fieldAddr (K := _) rfl tyF_laws_Count_0 rfl ?_
  refine rw_load (K := _) (i := 2) rfl tyP_int rfl rfl rfl ?_
  refine rw_fieldAddr (K := _) rfl tyF_impl_Count_0 rfl ?_
  refine rw_store (K := _) (i := 0) [_] [_, _, _] tyP_int.sz rfl rfl rfl rfl rfl rfl rfl rfl ?_
  refine rw_end ?_
  refine gw_seq ?_
  refine gw_region ?_
  refine rw_fieldAddr (K := _) rfl tyF_laws_Count_1 rfl ?_
  refine rw_load (K := _) (i := 2) rfl tyP_int rfl rfl rfl ?_
  refine rw_fieldAddr (K := _) rfl tyF_impl_Count_1 rfl ?_
  refine rw_store (K := _) (i := 0) [_] [_, _, _] tyP_int.sz rfl rfl rfl rfl rfl rfl rfl rfl ?_
  refine rw_end ?_
  refine gw_seq ?_
  refine gw_region ?_
  refine rw_fieldAddr (K := _) rfl tyF_laws_Count_2 rfl ?_
  refine rw_load (K := _) (i := 2) rfl tyP_int rfl rfl rfl ?_
  refine rw_fieldAddr (K := _) rfl tyF_impl_Count_2 rfl ?_
  refine rw_store (K := _) (i := 0) [_] [_, _, _] tyP_int.sz rfl rfl rfl rfl rfl rfl rfl rfl ?_
  refine rw_end ?_
  refine gw_seq ?_
  refine gw_region ?_
  refine rw_load_s (K := _) (i := 0) [_, _, _] rfl tyS_impl_Count rfl rfl rfl rfl ?_
  refine rw_store (K := _) (i := 1) [_, _, _] [_, _, _] tyS_impl_Count.sz rfl rfl rfl rfl rfl rfl rfl rfl ?_
  refine rw_end ?_
  refine ret_cv Try.func43 (res1 Try.func43 rfl (rv_s (i := 1) [_, _, _] tyS_impl_Count rfl rfl rfl rfl)) ?_
  rfl

theorem laws_toPiece (a : Piece) (w : World) : CV Try.prog 39 [.agg a.cells.toArray] w (.agg a.cells.toArray) := by
  refine cv_of Try.func39 rfl rfl rfl ?_
  refine gw_seq ?_
  refine gw_region ?_
  refine rw_box (K := _) [_, _, _] rfl rfl rfl (fun b1 => ?_)
  refine rw_alloc (K := _) rfl tyZ_impl_Piece (fun b2 => ?_)
  refine rw_end ?_
  refine gw_seq ?_
  refine gw_region ?_
  refine rw_alloc (K := _) rfl tyZ_impl_Piece (fun b3 => ?_)
  refine rw_end ?_
  refine gw_seq ?_
  refine gw_region ?_
  refine rw_fieldAddr (K := _) rfl tyF_laws_Piece_0 rfl ?_
  refine rw_load (K := _) (i := 2) rfl tyP_int rfl rfl rfl ?_
  refine rw_fieldAddr (K := _) rfl tyF_impl_Piece_0 rfl ?_
  refine rw_store (K := _) (i := 0) [_] [_, _, _] tyP_int.sz rfl rfl rfl rfl rfl rfl rfl rfl ?_
  refine rw_end ?_
  refine gw_seq ?_
  refine gw_region ?_
  refine rw_fieldAddr (K := _) rfl tyF_laws_Piece_1 rfl ?_
  refine rw_load (K := _) (i := 2) rfl tyP_string rfl rfl rfl ?_
  refine rw_fieldAddr (K := _) rfl tyF_impl_Piece_1 rfl ?_
  refine rw_store (K := _) (i := 0) [_] [_, _, _] tyP_string.sz rfl rfl rfl rfl rfl rfl rfl rfl ?_
  refine rw_end ?_
  refine gw_seq ?_
  refine gw_region ?_
  refine rw_fieldAddr (K := _) rfl tyF_laws_Piece_2 rfl ?_
  refine rw_load (K := _) (i := 2) rfl tyP_bool rfl rfl rfl ?_
  refine rw_fieldAddr (K := _) rfl tyF_impl_Piece_2 rfl ?_
  refine rw_store (K := _) (i := 0) [_] [_, _, _] tyP_bool.sz rfl rfl rfl rfl rfl rfl rfl rfl ?_
  refine rw_end ?_
  refine gw_seq ?_
  refine gw_region ?_
  refine rw_load_s (K := _) (i := 0) [_, _, _] rfl tyS_impl_Piece rfl rfl rfl rfl ?_
  refine rw_store (K := _) (i := 1) [_, _, _] [_, _, _] tyS_impl_Piece.sz rfl rfl rfl rfl rfl rfl rfl rfl ?_
  refine rw_end ?_
  refine ret_cv Try.func39 (res1 Try.func39 rfl (rv_s (i := 1) [_, _, _] tyS_impl_Piece rfl rfl rfl rfl)) ?_
  rfl

theorem laws_eqPriority (a : Priority) (w : World) : CV Try.prog 20 [.agg a.cells.toArray, .agg a.cells.toArray] w (.bool true) := by
  refine cv_of Try.func20 rfl rfl rfl ?_
  refine gw_seq ?_
  refine gw_region ?_
  refine rw_box (K := _) [_, _] rfl rfl rfl (fun b1 => ?_)
  refine rw_box (K := _) [_, _] rfl rfl rfl (fun b2 => ?_)
  refine rw_assign (K := _) rfl rfl ?_
  refine rw_end ?_
  refine gw_seq ?_
  refine gw_seq ?_
  refine gw_region ?_
  refine rw_fieldAddr (K := _) rfl tyF_impl_Priority_0 rfl ?_
  refine rw_load (K := _) (i := 1) rfl tyP_int rfl rfl rfl ?_
  refine rw_fieldAddr (K := _) rfl tyF_impl_Priority_0 rfl ?_
  refine rw_load (K := _) (i := 0) rfl tyP_int rfl rfl rfl ?_
  refine rw_neqSelf (K := _) rfl rfl rfl ?_
  refine rw_end ?_
  refine gw_condF rfl rfl ?_
  refine gw_skip ?_
  refine gw_seq ?_
  refine gw_seq ?_
  refine gw_region ?_
  refine rw_fieldAddr (K := _) rfl tyF_impl_Priority_1 rfl ?_
  refine rw_load (K := _) (i := 1) rfl tyP_bool rfl rfl rfl ?_
  refine rw_fieldAddr (K := _) rfl tyF_impl_Priority_1 rfl ?_
  refine rw_load (K := _) (i := 0) rfl tyP_bool rfl rfl rfl ?_
  refine rw_neqSelfB (K := _) (by kernel_rfl) rfl rfl rfl ?_
  refine rw_end ?_
  refine gw_condF rfl rfl ?_
  refine gw_skip ?_
  refine gw_seq ?_
  refine gw_region ?_
  refine rw_assign (K := _) rfl rfl ?_
  refine rw_end ?_
  refine ret_cv Try.func20 (res1 Try.func20 rfl (rv_tmp rfl)) ?_
  rfl

theorem laws_eqConf (a : Conf) (w : World) : CV Try.prog 26 [.agg a.cells.toArray, .agg a.cells.toArray] w (.bool true) := by
  refine cv_of Try.func26 rfl rfl rfl ?_
  refine gw_seq ?_
  refine gw_region ?_
  refine rw_box (K := _) [_, _, _, _, _, _, _, _] rfl rfl rfl (fun b1 => ?_)
  refine rw_box (K := _) [_, _, _, _, _, _, _, _] rfl rfl rfl (fun b2 => ?_)
  refine rw_assign (K := _) rfl rfl ?_
  refine rw_end ?_
  refine gw_seq ?_
  refine gw_seq ?_
  refine gw_region ?_
  refine rw_fieldAddr (K := _) rfl tyF_impl_Conf_0 rfl ?_
  refine rw_load (K := _) (i := 1) rfl tyP_int rfl rfl rfl ?_
  refine rw_fieldAddr (K := _) rfl tyF_impl_Conf_0 rfl ?_
  refine rw_load (K := _) (i := 0) rfl tyP_int rfl rfl rfl ?_
  refine rw_neqSelf (K := _) rfl rfl rfl ?_
  refine rw_end ?_
  refine gw_condF rfl rfl ?_
  refine gw_skip ?_
  refine gw_seq ?_
  refine gw_seq ?_
  refine gw_region ?_
  refine rw_fieldAddr (K := _) rfl tyF_impl_Conf_1 rfl ?_
  refine rw_load (K := _) (i := 1) rfl tyP_int rfl rfl rfl ?_
  refine rw_fieldAddr (K := _) rfl tyF_impl_Conf_1 rfl ?_
  refine rw_load (K := _) (i := 0) rfl tyP_int rfl rfl rfl ?_
  refine rw_neqSelf (K := _) rfl rfl rfl ?_
  refine rw_end ?_
  refine gw_condF rfl rfl ?_
  refine gw_skip ?_
  refine gw_seq ?_
  refine gw_seq ?_
  refine gw_region ?_
  refine rw_fieldAddr (K := _) rfl tyF_impl_Conf_2 rfl ?_
  refine rw_load (K := _) (i := 1) rfl tyP_int rfl rfl rfl ?_
  refine rw_fieldAddr (K := _) rfl tyF_impl_Conf_2 rfl ?_
  refine rw_load (K := _) (i := 0) rfl tyP_int rfl rfl rfl ?_
  refine rw_neqSelf (K := _) rfl rfl rfl ?_
  refine rw_end ?_
  refine gw_condF rfl rfl ?_
  refine gw_skip ?_
  refine gw_seq ?_
  refine gw_seq ?_
  refine gw_region ?_
  refine rw_fieldAddr (K := _) rfl tyF_impl_Conf_3 rfl ?_
  refine rw_load (K := _) (i := 1) rfl tyP_int rfl rfl rfl ?_
  refine rw_fieldAddr (K := _) rfl tyF_impl_Conf_3 rfl ?_
  refine rw_load (K := _) (i := 0) rfl tyP_int rfl rfl rfl ?_
  refine rw_neqSelf (K := _) rfl rfl rfl ?_
  refine rw_end ?_
  refine gw_condF rfl rfl ?_
  refine gw_skip ?_
  refine gw_seq ?_
  refine gw_seq ?_
  refine gw_region ?_
  refine rw_fieldAddr (K := _) rfl tyF_impl_Conf_4 rfl ?_
  refine rw_load (K := _) (i := 1) rfl tyP_int rfl rfl rfl ?_
  refine rw_fieldAddr (K := _) rfl tyF_impl_Conf_4 rfl ?_
  refine rw_load (K := _) (i := 0) rfl tyP_int rfl rfl rfl ?_
  refine rw_neqSelf (K := _) rfl rfl rfl ?_
  refine rw_end ?_
  refine gw_condF rfl rfl ?_
  refine gw_skip ?_
  refine gw_seq ?_
  refine gw_seq ?_
  refine gw_region ?_
  refine rw_fieldAddr (K := _) rfl tyF_impl_Conf_5 rfl ?_
  refine rw_load (K := _) (i := 1) rfl tyP_int rfl rfl rfl ?_
  refine rw_fieldAddr (K := _) rfl tyF_impl_Conf_5 rfl ?_
  refine rw_load (K := _) (i := 0) rfl tyP_int rfl rfl rfl ?_
  refine rw_neqSelf (K := _) rfl rfl rfl ?_
  refine rw_end ?_
  refine gw_condF rfl rfl ?_
  refine gw_skip ?_
  refine gw_seq ?_
  refine gw_seq ?_
  refine gw_region ?_
  refine rw_fieldAddr (K := _) rfl tyF_impl_Conf_6 rfl ?_
  refine rw_load (K := _) (i := 1) rfl tyP_int rfl rfl rfl ?_
  refine rw_fieldAddr (K := _) rfl tyF_impl_Conf_6 rfl ?_
  refine rw_load (K := _) (i := 0) rfl tyP_int rfl rfl rfl ?_
  refine rw_neqSelf (K := _) rfl rfl rfl ?_
  refine rw_end ?_
  refine gw_condF rfl rfl ?_
  refine gw_skip ?_
  refine gw_seq ?_
  refine gw_seq ?_
  refine gw_region ?_
  refine rw_fieldAddr (K := _) rfl tyF_impl_Conf_7 rfl ?_
  refine rw_load (K := _) (i := 1) rfl tyP_int rfl rfl rfl ?_
  refine rw_fieldAddr (K := _) rfl tyF_impl_Conf_7 rfl ?_
  refine rw_load (K := _) (i := 0) rfl tyP_int rfl rfl rfl ?_
  refine rw_neqSelf (K := _) rfl rfl rfl ?_
  refine rw_end ?_
  refine gw_condF rfl rfl ?_
  refine gw_skip ?_
  refine gw_seq ?_
  refine gw_region ?_
  refine rw_assign (K := _) rfl rfl ?_
  refine rw_end ?_
  refine ret_cv Try.func26 (res1 Try.func26 rfl (rv_tmp rfl)) ?_
  rfl

theorem laws_eqAllow (a : Allow) (w : World) : CV Try.prog 34 [.agg a.cells.toArray, .agg a.cells.toArray] w (.bool true) := by
  refine cv_of Try.func34 rfl rfl rfl ?_
  refine gw_seq ?_
  refine gw_region ?_
  refine rw_box (K := _) [_, _, _, _] rfl rfl rfl (fun b1 => ?_)
  refine rw_box (K := _) [_, _, _, _] rfl rfl rfl (fun b2 => ?_)
  refine rw_assign (K := _) rfl rfl ?_
  refine rw_end ?_
  refine gw_seq ?_
  refine gw_seq ?_
  refine gw_region ?_
  refine rw_fieldAddr (K := _) rfl tyF_impl_Allow_0 rfl ?_
  refine rw_load (K := _) (i := 1) rfl tyP_int rfl rfl rfl ?_
  refine rw_fieldAddr (K := _) rfl tyF_impl_Allow_0 rfl ?_
  refine rw_load (K := _) (i := 0) rfl tyP_int rfl rfl rfl ?_
  refine rw_neqSelf (K := _) rfl rfl rfl ?_
  refine rw_end ?_
  refine gw_condF rfl rfl ?_
  refine gw_skip ?_
  refine gw_seq ?_
  refine gw_seq ?_
  refine gw_region ?_
  refine rw_fieldAddr (K := _) rfl tyF_impl_Allow_1 rfl ?_
  refine rw_load (K := _) (i := 1) rfl tyP_int rfl rfl rfl ?_
  refine rw_fieldAddr (K := _) rfl tyF_impl_Allow_1 rfl ?_
  refine rw_load (K := _) (i := 0) rfl tyP_int rfl rfl rfl ?_
  refine rw_neqSelf (K := _) rfl rfl rfl ?_
  refine rw_end ?_
  refine gw_condF rfl rfl ?_
  refine gw_skip ?_
  refine gw_seq ?_
  refine gw_seq ?_
  refine gw_region ?_
  refine rw_fieldAddr (K := _) rfl tyF_impl_Allow_2 rfl ?_
  refine rw_load (K := _) (i := 1) rfl tyP_int rfl rfl rfl ?_
  refine rw_fieldAddr (K := _) rfl tyF_impl_Allow_2 rfl ?_
  refine rw_load (K := _) (i := 0) rfl tyP_int rfl rfl rfl ?_
  refine rw_neqSelf (K := _) rfl rfl rfl ?_
  refine rw_end ?_
  refine gw_condF rfl rfl ?_
  refine gw_skip ?_
  refine gw_seq ?_
  refine gw_seq ?_
  refine gw_region ?_
  refine rw_fieldAddr (K := _) rfl tyF_impl_Allow_3 rfl ?_
  refine rw_load (K := _) (i := 1) rfl tyP_int rfl rfl rfl ?_
  refine rw_fieldAddr (K := _) rfl tyF_impl_Allow_3 rfl ?_
  refine rw_load (K := _) (i := 0) rfl tyP_int rfl rfl rfl ?_
  refine rw_neqSelf (K := _) rfl rfl rfl ?_
  refine rw_end ?_
  refine gw_condF rfl rfl ?_
  refine gw_skip ?_
  refine gw_seq ?_
  refine gw_region ?_
  refine rw_assign (K := _) rfl rfl ?_
  refine rw_end ?_
  refine ret_cv Try.func34 (res1 Try.func34 rfl (rv_tmp rfl)) ?_
  rfl

theorem laws_eqCount (a : Count) (w : World) : CV Try.prog 45 [.agg a.cells.toArray, .agg a.cells.toArray] w (.bool true) := by
  refine cv_of Try.func45 rfl rfl rfl ?_
  refine gw_seq ?_
  refine gw_region ?_
  refine rw_box (K := _) [_, _, _] rfl rfl rfl (fun b1 => ?_)
  refine rw_box (K := _) [_, _, _] rfl rfl rfl (fun b2 => ?_)
  refine rw_assign (K := _) rfl rfl ?_
  refine rw_end ?_
  refine gw_seq ?_
  refine gw_seq ?_
  refine gw_region ?_
  refine rw_fieldAddr (K := _) rfl tyF_impl_Count_0 rfl ?_
  refine rw_load (K := _) (i := 1) rfl tyP_int rfl rfl rfl ?_
  refine rw_fieldAddr (K := _) rfl tyF_impl_Count_0 rfl ?_
  refine rw_load (K := _) (i := 0) rfl tyP_int rfl rfl rfl ?_
  refine rw_neqSelf (K := _) rfl rfl rfl ?_
  refine rw_end ?_
  refine gw_condF rfl rfl ?_
  refine gw_skip ?_
  refine gw_seq ?_
  refine gw_seq ?_
  refine gw_region ?_
  refine rw_fieldAddr (K := _) rfl tyF_impl_Count_1 rfl ?_
  refine rw_load (K := _) (i := 1) rfl tyP_int rfl rfl rfl ?_
  refine rw_fieldAddr (K := _) rfl tyF_impl_Count_1 rfl ?_
  refine rw_load (K := _) (i := 0) rfl tyP_int rfl rfl rfl ?_
  refine rw_neqSelf (K := _) rfl rfl rfl ?_
  refine rw_end ?_
  refine gw_condF rfl rfl ?_
  refine gw_skip ?_
  refine gw_seq ?_
  refine gw_seq ?_
  refine gw_region ?_
  refine rw_fieldAddr (K := _) rfl tyF_impl_Count_2 rfl ?_
  refine rw_load (K := _) (i := 1) rfl tyP_int rfl rfl rfl ?_
  refine rw_fieldAddr (K := _) rfl tyF_impl_Count_2 rfl ?_
  refine rw_load (K := _) (i := 0) rfl tyP_int rfl rfl rfl ?_
  refine rw_neqSelf (K := _) rfl rfl rfl ?_
  refine rw_end ?_
  refine gw_condF rfl rfl ?_
  refine gw_skip ?_
  refine gw_seq ?_
  refine gw_region ?_
  refine rw_assign (K := _) rfl rfl ?_
  refine rw_end ?_
  refine ret_cv Try.func45 (res1 Try.func45 rfl (rv_tmp rfl)) ?_
  rfl

theorem laws_eqFrame (a : Frame') (w : World) : CV Try.prog 41 [.agg a.cells.toArray, .agg a.cells.toArray] w (.bool true) := by
  refine cv_of Try.func41 rfl rfl rfl ?_
  refine gw_seq ?_
  refine gw_region ?_
  refine rw_box (K := _) [_, _, _, _, _, _, _, _, _] rfl rfl rfl (fun b1 => ?_)
  refine rw_box (K := _) [_, _, _, _, _, _, _, _, _] rfl rfl rfl (fun b2 => ?_)
  refine rw_assign (K := _) rfl rfl ?_
  refine rw_end ?_
  refine gw_seq ?_
  refine gw_seq ?_
  refine gw_region ?_
  refine rw_fieldAddr (K := _) rfl tyF_impl_Frame_0 rfl ?_
  refine rw_load (K := _) (i := 1) rfl tyP_int rfl rfl rfl ?_
  refine rw_fieldAddr (K := _) rfl tyF_impl_Frame_0 rfl ?_
  refine rw_load (K := _) (i := 0) rfl tyP_int rfl rfl rfl ?_
  refine rw_neqSelf (K := _) rfl rfl rfl ?_
  refine rw_end ?_
  refine gw_condF rfl rfl ?_
  refine gw_skip ?_
  refine gw_seq ?_
  refine gw_seq ?_
  refine gw_region ?_
  refine rw_fieldAddr (K := _) rfl tyF_impl_Frame_1 rfl ?_
  refine rw_load (K := _) (i := 1) rfl tyP_int rfl rfl rfl ?_
  refine rw_fieldAddr (K := _) rfl tyF_impl_Frame_1 rfl ?_
  refine rw_load (K := _) (i := 0) rfl tyP_int rfl rfl rfl ?_
  refine rw_neqSelf (K := _) rfl rfl rfl ?_
  refine rw_end ?_
  refine gw_condF rfl rfl ?_
  refine gw_skip ?_
  refine gw_seq ?_
  refine gw_seq ?_
  refine gw_region ?_
  refine rw_fieldAddr (K := _) rfl tyF_impl_Frame_2 rfl ?_
  refine rw_load (K := _) (i := 1) rfl tyP_int rfl rfl rfl ?_
  refine rw_fieldAddr (K := _) rfl tyF_impl_Frame_2 rfl ?_
  refine rw_load (K := _) (i := 0) rfl tyP_int rfl rfl rfl ?_
  refine rw_neqSelf (K := _) rfl rfl rfl ?_
  refine rw_end ?_
  refine gw_condF rfl rfl ?_
  refine gw_skip ?_
  refine gw_seq ?_
  refine gw_seq ?_
  refine gw_region ?_
  refine rw_fieldAddr (K := _) rfl tyF_impl_Frame_3 rfl ?_
  refine rw_load (K := _) (i := 1) rfl tyP_string rfl rfl rfl ?_
  refine rw_fieldAddr (K := _) rfl tyF_impl_Frame_3 rfl ?_
  refine rw_load (K := _) (i := 0) rfl tyP_string rfl rfl rfl ?_
  refine rw_neqSelfS (K := _) rfl rfl rfl ?_
  refine rw_end ?_
  refine gw_condF rfl rfl ?_
  refine gw_skip ?_
  refine gw_seq ?_
  refine gw_seq ?_
  refine gw_region ?_
  refine rw_fieldAddr (K := _) rfl tyF_impl_Frame_4 rfl ?_
  refine rw_load (K := _) (i := 1) rfl tyP_bool rfl rfl rfl ?_
  refine rw_fieldAddr (K := _) rfl tyF_impl_Frame_4 rfl ?_
  refine rw_load (K := _) (i := 0) rfl tyP_bool rfl rfl rfl ?_
  refine rw_neqSelfB (K := _) (by kernel_rfl) rfl rfl rfl ?_
  refine rw_end ?_
  refine gw_condF rfl rfl ?_
  refine gw_skip ?_
  refine gw_seq ?_
  refine gw_seq ?_
  refine gw_region ?_
  refine rw_fieldAddr (K := _) rfl tyF_impl_Frame_5 rfl ?_
  refine rw_load (K := _) (i := 1) rfl tyP_int rfl rfl rfl ?_
  refine rw_fieldAddr (K := _) rfl tyF_impl_Frame_5 rfl ?_
  refine rw_load (K := _) (i := 0) rfl tyP_int rfl rfl rfl ?_
  refine rw_neqSelf (K := _) rfl rfl rfl ?_
  refine rw_end ?_
  refine gw_condF rfl rfl ?_
  refine gw_skip ?_
  refine gw_seq ?_
  refine gw_seq ?_
  refine gw_region ?_
  refine rw_fieldAddr (K := _) rfl tyF_impl_Frame_6 rfl ?_
  refine rw_load (K := _) (i := 1) rfl tyP_int rfl rfl rfl ?_
  refine rw_fieldAddr (K := _) rfl tyF_impl_Frame_6 rfl ?_
  refine rw_load (K := _) (i := 0) rfl tyP_int rfl rfl rfl ?_
  refine rw_neqSelf (K := _) rfl rfl rfl ?_
  refine rw_end ?_
  refine gw_condF rfl rfl ?_
  refine gw_skip ?_
  refine gw_seq ?_
  refine gw_seq ?_
  refine gw_region ?_
  refine rw_fieldAddr (K := _) rfl tyF_impl_Frame_7 rfl ?_
  refine rw_load (K := _) (i := 1) rfl tyP_int rfl rfl rfl ?_
  refine rw_fieldAddr (K := _) rfl tyF_impl_Frame_7 rfl ?_
  refine rw_load (K := _) (i := 0) rfl tyP_int rfl rfl rfl ?_
  refine rw_neqSelf (K := _) rfl rfl rfl ?_
  refine rw_end ?_
  refine gw_condF rfl rfl ?_
  refine gw_skip ?_
  refine gw_seq ?_
  refine gw_seq ?_
  refine gw_region ?_
  refine rw_fieldAddr (K := _) rfl tyF_impl_Frame_8 rfl ?_
  refine rw_load (K := _) (i := 1) rfl tyP_bool rfl rfl rfl ?_
  refine rw_fieldAddr (K := _) rfl tyF_impl_Frame_8 rfl ?_
  refine rw_load (K := _) (i := 0) rfl tyP_bool rfl rfl rfl ?_
  refine rw_neqSelfB (K := _) (by kernel_rfl) rfl rfl rfl ?_
  refine rw_end ?_
  refine gw_condF rfl rfl ?_
  refine gw_skip ?_
  refine gw_seq ?_
  refine gw_region ?_
  refine rw_assign (K := _) rfl rfl ?_
  refine rw_end ?_
  refine ret_cv Try.func41 (res1 Try.func41 rfl (rv_tmp rfl)) ?_
  rfl

theorem law_FnExactIsPriority (p : Priority) (w : World) : CV Try.prog 3 [.agg p.cells.toArray] w (.bool true) := by
  refine cv_of Try.func3 rfl rfl rfl ?_
  refine gw_seq ?_
  refine gw_region ?_
  refine rw_box (K := _) [_, _] rfl rfl rfl (fun b1 => ?_)
  refine rw_assign (K := _) rfl rfl ?_
  refine rw_end ?_
  refine gw_seq ?_
  refine gw_region ?_
  refine rw_load_s (K := _) (i := 0) [_, _] rfl tyS_laws_Priority rfl rfl rfl rfl ?_
  refine rw_cv (K := _) rfl fun_laws_toPriority rfl (fun w hs => laws_toPriority _ w) ?_
  refine rw_cv (K := _) rfl fun_spec_IsPriority rfl (fun w hs => spec_IsPriority _ w) ?_
  refine rw_assign (K := _) rfl rfl ?_
  refine rw_end ?_
  refine gw_seq ?_
  refine gw_region ?_
  refine rw_load_s (K := _) (i := 0) [_, _] rfl tyS_laws_Priority rfl rfl rfl rfl ?_
  refine rw_cv (K := _) rfl fun_laws_toPriority rfl (fun w hs => laws_toPriority _ w) ?_
  refine rw_cv (K := _) rfl fun_impl_IsPriority rfl (fun w hs => impl_IsPriority _ w) ?_
  refine rw_assign (K := _) rfl rfl ?_
  refine rw_end ?_
  refine gw_seq ?_
  refine gw_seq ?_
  refine gw_region ?_
  refine rw_move (K := _) rfl rfl ?_
  refine rw_move (K := _) rfl rfl ?_
  refine rw_neqSelfB (K := _) (by kernel_rfl) rfl rfl rfl ?_
  refine rw_end ?_
  refine gw_condF rfl rfl ?_
  refine gw_skip ?_
  refine gw_seq ?_
  refine gw_region ?_
  refine rw_assign (K := _) rfl rfl ?_
  refine rw_end ?_
  refine ret_cv Try.func3 (res1 Try.func3 rfl (rv_tmp rfl)) ?_
  rfl

theorem law_FnExactDefaultPriority  (w : World) : CV Try.prog 4 [] w (.bool true) := by
  refine cv_of Try.func4 rfl rfl rfl ?_
  refine gw_seq ?_
  refine gw_region ?_
  refine rw_assign (K := _) rfl rfl ?_
  refine rw_end ?_
  refine gw_seq ?_
  refine gw_region ?_
  refine rw_cv (K := _) rfl fun_spec_DefaultPriority rfl (fun w hs => spec_DefaultPriority w) ?_
  refine rw_alloc (K := _) rfl tyZ_impl_Priority (fun b1 => ?_)
  refine rw_store (K := _) (i := 0) [_, _] [_, _] tyS_impl_Priority.sz rfl rfl rfl rfl rfl rfl rfl rfl ?_
  refine rw_end ?_
  refine gw_seq ?_
  refine gw_region ?_
  refine rw_cv (K := _) rfl fun_impl_DefaultPriority rfl (fun w hs => impl_DefaultPriority w) ?_
  refine rw_alloc (K := _) rfl tyZ_impl_Priority (fun b2 => ?_)
  refine rw_store (K := _) (i := 0) [_, _] [_, _] tyS_impl_Priority.sz rfl rfl rfl rfl rfl rfl rfl rfl ?_
  refine rw_end ?_
  refine gw_seq ?_
  refine gw_seq ?_
  refine gw_region ?_
  refine rw_load_s (K := _) (i := 0) [_, _] rfl tyS_impl_Priority rfl rfl rfl rfl ?_
  refine rw_load_s (K := _) (i := 1) [_, _] rfl tyS_impl_Priority rfl rfl rfl rfl ?_
  refine rw_cv (K := _) rfl fun_laws_eqPriority rfl (fun w hs => laws_eqPriority _ w) ?_
  refine rw_not (K := _) rfl rfl ?_
  refine rw_end ?_
  refine gw_condF rfl (not_T rfl) ?_
  refine gw_skip ?_
  refine gw_seq ?_
  refine gw_region ?_
  refine rw_assign (K := _) rfl rfl ?_
  refine rw_end ?_
  refine ret_cv Try.func4 (res1 Try.func4 rfl (rv_tmp rfl)) ?_
  rfl

theorem law_FnExactIsConf (c : Conf) (w : World) : CV Try.prog 5 [.agg c.cells.toArray] w (.bool true) := by
  refine cv_of Try.func5 rfl rfl rfl ?_
  refine gw_seq ?_
  refine gw_region ?_
  refine rw_box (K := _) [_, _, _, _, _, _, _, _] rfl rfl rfl (fun b1 => ?_)
  refine rw_assign (K := _) rfl rfl ?_
  refine rw_end ?_
  refine gw_seq ?_
  refine gw_region ?_
  refine rw_load_s (K := _) (i := 0) [_, _, _, _, _, _, _, _] rfl tyS_laws_Conf rfl rfl rfl rfl ?_
  refine rw_cv (K := _) rfl fun_laws_toConf rfl (fun w hs => laws_toConf _ w) ?_
  refine rw_cv (K := _) rfl fun_spec_IsConf rfl (fun w hs => spec_IsConf _ w) ?_
  refine rw_assign (K := _) rfl rfl ?_
  refine rw_end ?_
  refine gw_seq ?_
  refine gw_region ?_
  refine rw_load_s (K := _) (i := 0) [_, _, _, _, _, _, _, _] rfl tyS_laws_Conf rfl rfl rfl rfl ?_
  refine rw_cv (K := _) rfl fun_laws_toConf rfl (fun w hs => laws_toConf _ w) ?_
  refine rw_cv (K := _) rfl fun_impl_IsConf rfl (fun w hs => impl_IsConf _ w) ?_
  refine rw_assign (K := _) rfl rfl ?_
  refine rw_end ?_
  refine gw_seq ?_
  refine gw_seq ?_
  refine gw_region ?_
  refine rw_move (K := _) rfl rfl ?_
  refine rw_move (K := _) rfl rfl ?_
  refine rw_neqSelfB (K := _) (by kernel_rfl) rfl rfl rfl ?_
  refine rw_end ?_
  refine gw_condF rfl rfl ?_
  refine gw_skip ?_
  refine gw_seq ?_
  refine gw_region ?_
  refine rw_assign (K := _) rfl rfl ?_
  refine rw_end ?_
  refine ret_cv Try.func5 (res1 Try.func5 rfl (rv_tmp rfl)) ?_
  rfl

theorem law_FnExactDefaultConf  (w : World) : CV Try.prog 6 [] w (.bool true) := by
  refine cv_of Try.func6 rfl rfl rfl ?_
  refine gw_seq ?_
  refine gw_region ?_
  refine rw_assign (K := _) rfl rfl ?_
  refine rw_end ?_
  refine gw_seq ?_
  refine gw_region ?_
  refine rw_cv (K := _) rfl fun_spec_DefaultConf rfl (fun w hs => spec_DefaultConf w) ?_
  refine rw_alloc (K := _) rfl tyZ_impl_Conf (fun b1 => ?_)
  refine rw_store (K := _) (i := 0) [_, _, _, _, _, _, _, _] [_, _, _, _, _, _, _, _] tyS_impl_Conf.sz rfl rfl rfl rfl rfl rfl rfl rfl ?_
  refine rw_end ?_
  refine gw_seq ?_
  refine gw_region ?_
  refine rw_cv (K := _) rfl fun_impl_DefaultConf rfl (fun w hs => impl_DefaultConf w) ?_
  refine rw_alloc (K := _) rfl tyZ_impl_Conf (fun b2 => ?_)
  refine rw_store (K := _) (i := 0) [_, _, _, _, _, _, _, _] [_, _, _, _, _, _, _, _] tyS_impl_Conf.sz rfl rfl rfl rfl rfl rfl rfl rfl ?_
  refine rw_end ?_
  refine gw_seq ?_
  refine gw_seq ?_
  refine gw_region ?_
  refine rw_load_s (K := _) (i := 0) [_, _, _, _, _, _, _, _] rfl tyS_impl_Conf rfl rfl rfl rfl ?_
  refine rw_load_s (K := _) (i := 1) [_, _, _, _, _, _, _, _] rfl tyS_impl_Conf rfl rfl rfl rfl ?_
  refine rw_cv (K := _) rfl fun_laws_eqConf rfl (fun w hs => laws_eqConf _ w) ?_
  refine rw_not (K := _) rfl rfl ?_
  refine rw_end ?_
  refine gw_condF rfl (not_T rfl) ?_
  refine gw_skip ?_
  refine gw_seq ?_
  refine gw_region ?_
  refine rw_assign (K := _) rfl rfl ?_
  refine rw_end ?_
  refine ret_cv Try.func6 (res1 Try.func6 rfl (rv_tmp rfl)) ?_
  rfl

theorem law_FnExactCloseOne (a : Allow) (w : World) : CV Try.prog 8 [.agg a.cells.toArray] w (.bool true) := by
  refine cv_of Try.func8 rfl rfl rfl ?_
  refine gw_seq ?_
  refine gw_region ?_
  refine rw_box (K := _) [_, _, _, _] rfl rfl rfl (fun b1 => ?_)
  refine rw_assign (K := _) rfl rfl ?_
  refine rw_end ?_
  refine gw_seq ?_
  refine gw_region ?_
  refine rw_load_s (K := _) (i := 0) [_, _, _, _] rfl tyS_laws_Allow rfl rfl rfl rfl ?_
  refine rw_cv (K := _) rfl fun_laws_toAllow rfl (fun w hs => laws_toAllow _ w) ?_
  refine rw_cv (K := _) rfl fun_spec_CloseOne rfl (fun w hs => spec_CloseOne _ w) ?_
  refine rw_move (K := _) rfl rfl ?_
  refine rw_extract (K := _) rfl rfl rfl ?_
  refine rw_extract (K := _) rfl rfl rfl ?_
  refine rw_alloc (K := _) rfl tyZ_impl_Allow (fun b2 => ?_)
  refine rw_store (K := _) (i := 0) [_, _, _, _] [_, _, _, _] tyS_impl_Allow.sz rfl rfl rfl rfl rfl rfl rfl rfl ?_
  refine rw_assign (K := _) rfl rfl ?_
  refine rw_end ?_
  refine gw_seq ?_
  refine gw_region ?_
  refine rw_load_s (K := _) (i := 1) [_, _, _, _] rfl tyS_laws_Allow rfl rfl rfl rfl ?_
  refine rw_cv (K := _) rfl fun_laws_toAllow rfl (fun w hs => laws_toAllow _ w) ?_
  refine rw_cv (K := _) rfl fun_impl_CloseOne rfl (fun w hs => impl_CloseOne _ w) ?_
  refine rw_move (K := _) rfl rfl ?_
  refine rw_extract (K := _) rfl rfl rfl ?_
  refine rw_extract (K := _) rfl rfl rfl ?_
  refine rw_alloc (K := _) rfl tyZ_impl_Allow (fun b3 => ?_)
  refine rw_store (K := _) (i := 0) [_, _, _, _] [_, _, _, _] tyS_impl_Allow.sz rfl rfl rfl rfl rfl rfl rfl rfl ?_
  refine rw_assign (K := _) rfl rfl ?_
  refine rw_end ?_
  refine gw_seq ?_
  refine gw_seq ?_
  refine gw_region ?_
  refine rw_load_s (K := _) (i := 0) [_, _, _, _] rfl tyS_impl_Allow rfl rfl rfl rfl ?_
  refine rw_load_s (K := _) (i := 1) [_, _, _, _] rfl tyS_impl_Allow rfl rfl rfl rfl ?_
  refine rw_cv (K := _) rfl fun_laws_eqAllow rfl (fun w hs => laws_eqAllow _ w) ?_
  refine rw_not (K := _) rfl rfl ?_
  refine rw_move (K := _) rfl rfl ?_
  refine rw_on (K := _) rfl rfl (not_T rfl) ?_
  refine rw_move (K := _) rfl rfl ?_
  refine rw_on (K := _) rfl rfl (not_T rfl) ?_
  refine rw_move (K := _) rfl rfl ?_
  refine rw_on (K := _) rfl rfl (not_T rfl) ?_
  refine rw_neqSelfB (K := _) (by kernel_rfl) rfl rfl rfl ?_
  refine rw_pF (K := _) rfl rfl (not_T rfl) rfl ?_
  refine rw_end ?_
  refine gw_condF rfl rfl ?_
  refine gw_skip ?_
  refine gw_seq ?_
  refine gw_region ?_
  refine rw_assign (K := _) rfl rfl ?_
  refine rw_end ?_
  refine ret_cv Try.func8 (res1 Try.func8 rfl (rv_tmp rfl)) ?_
  rfl
end Go.Proofs.Ytcdabfkankcodaa
