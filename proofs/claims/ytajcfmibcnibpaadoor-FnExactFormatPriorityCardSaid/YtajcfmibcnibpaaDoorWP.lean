/- Walks: priorities written as text. -/
import Derived.Test.YtajcfmibcnibpaaDoorFactsP
namespace Go.Proofs.YtajcfmibcnibpaaDoor
open SL Go.RowKit
theorem laws_toPriority (a : Priority) (w : World) : CV Tryd.prog 5 [.agg a.cells.toArray] w (.agg a.cells.toArray) := by
  refine cv_of Tryd.func5 rfl rfl rfl <| SQ <| RG <| BX [_, _] rfl rfl rfl <| fun b1 => AL rfl tyZ_impl_Priority <| fun b2 => ND <| SQ <| RG <| AL rfl tyZ_impl_Priority <| fun b3 => ND <| SQ <| RG <| FA rfl tyF_laws_Priority_0 rfl <| LD (i := 2) rfl tyP_int rfl rfl rfl <| FA rfl tyF_impl_Priority_0 rfl <| ST (i := 0) [_] [_, _] tyP_int.sz rfl rfl rfl rfl rfl rfl rfl rfl <| ND <| SQ <| RG <| FA rfl tyF_laws_Priority_1 rfl <| LD (i := 2) rfl tyP_bool rfl rfl rfl <| FA rfl tyF_impl_Priority_1 rfl <| ?_
  refine ST (i := 0) [_] [_, _] tyP_bool.sz rfl rfl rfl rfl rfl rfl rfl rfl <| ND <| SQ <| RG <| LS (i := 0) [_, _] rfl tyS_impl_Priority rfl rfl rfl rfl <| ST (i := 1) [_, _] [_, _] tyS_impl_Priority.sz rfl rfl rfl rfl rfl rfl rfl rfl <| ND <| ret_cv Tryd.func5 (res1 Tryd.func5 rfl (rv_s (i := 1) [_, _] tyS_impl_Priority rfl rfl rfl rfl)) <| ?_
  rfl

theorem spec_l1In (a b c : Int) (w : World) : CV Tryd.prog 11 [.int .i64 a, .int .i64 b, .int .i64 c] w (.bool (within a b c)) := by
  refine cv_of Tryd.func11 rfl rfl rfl <| SQ <| RG <| AS rfl rfl <| ND <| SQ <| RG <| MV rfl rfl <| MV rfl rfl <| rw_geq rfl rfl rfl <| MV rfl rfl <| ?_
  refine rw_case (j := 10) rfl (fun h1 => ?_) (fun h1 => ?_)
  · refine ON rfl rfl h1 <| MV rfl rfl <| ON rfl rfl h1 <| MV rfl rfl <| ON rfl rfl h1 <| rw_leq rfl rfl rfl <| PT rfl rfl h1 rfl <| AS rfl rfl <| ND <| ret_cv Tryd.func11 (res1 Tryd.func11 rfl (rv_tmp rfl)) <| ?_
    simp only [within, h1] <;> rfl
  · refine OF rfl rfl h1 rfl <| OF rfl rfl h1 rfl <| OF rfl rfl h1 rfl <| PF rfl rfl h1 rfl <| AS rfl rfl <| ND <| ret_cv Tryd.func11 (res1 Tryd.func11 rfl (rv_tmp rfl)) <| ?_
    simp only [within, h1] <;> rfl

theorem spec_IsPriority (p : Priority) (w : World) : CV Tryd.prog 7 [.agg p.cells.toArray] w (.bool (isPriority p)) := by
  refine cv_of Tryd.func7 rfl rfl rfl <| SQ <| RG <| BX [_, _] rfl rfl rfl <| fun b1 => AS rfl rfl <| ND <| SQ <| RG <| FA rfl tyF_impl_Priority_0 rfl <| LD (i := 0) rfl tyP_int rfl rfl rfl <| CV1 rfl fun_spec_l1In rfl (fun w hs => spec_l1In _ _ _ w) <| AS rfl rfl <| ND <| ret_cv Tryd.func7 (res1 Tryd.func7 rfl (rv_tmp rfl)) <| ?_
  simp only [isPriority] <;> rfl

theorem spec_FormatInt_0 (w : World) : CV Tryd.prog 8 [.int .i64 0] w (.string ⟨#[48]⟩) := by
  refine cv_of Tryd.func8 rfl rfl rfl <| SQ <| RG <| AS rfl rfl <| ND <| SQ <| SQ <| RG <| MV rfl rfl <| EQ1 rfl rfl rfl <| ND <| CT rfl rfl <| SQ <| RG <| AS rfl rfl <| ND <| ret_cv Tryd.func8 (res1 Tryd.func8 rfl (rv_tmp rfl)) <| ?_
  rfl

theorem spec_FormatInt_1 (w : World) : CV Tryd.prog 8 [.int .i64 1] w (.string ⟨#[49]⟩) := by
  refine cv_of Tryd.func8 rfl rfl rfl <| SQ <| RG <| AS rfl rfl <| ND <| SQ <| SQ <| RG <| MV rfl rfl <| EQ1 rfl rfl rfl <| ND <| CF rfl rfl <| SK <| SQ <| RG <| AS rfl rfl <| ND <| SQ <| RG <| MV rfl rfl <| rw_lss rfl rfl rfl <| AS rfl rfl <| ND <| SQ <| BK <| gw_loop1 <| SQ <| SQ <| RG <| MV rfl rfl <| rw_neq rfl rfl rfl <| ND <| CT rfl rfl <| SK <| BK <| SQ <| RG <| MV rfl rfl <| rw_rem rfl rfl rfl (by first | decide | omega) <| AS rfl rfl <| ?_
  refine ND <| SQ <| SQ <| RG <| MV rfl rfl <| rw_lss rfl rfl rfl <| ND <| CF rfl rfl <| SK <| SQ <| RG <| MV rfl rfl <| rw_add rfl rfl rfl <| rw_convI rfl tyCI_int_uint8 rfl <| rw_slice (xs := [(0, _)]) [_] rfl tyM_S_uint8 rfl rfl rfl rfl <| fun b1 => rw_convB (i := 0) [49] rfl tyCB_S_uint8_string rfl rfl rfl rfl <| MV rfl rfl <| rw_catS rfl rfl rfl (by first | decide | (simp; done) | (simp; omega)) (by first | decide | (simp; done) | (simp; omega)) <| AS rfl rfl <| ND <| RG <| MV rfl rfl <| rw_quo rfl rfl rfl (by first | decide | omega) <| ?_
  refine AS rfl rfl <| ND <| IB <| gw_again <| SQ <| SQ <| RG <| MV rfl rfl <| rw_neq rfl rfl rfl <| ND <| CF rfl rfl <| EX rfl <| SQ <| SQ <| RG <| MV rfl rfl <| ND <| CF rfl rfl <| SK <| SQ <| RG <| MV rfl rfl <| AS rfl rfl <| ND <| ret_cv Tryd.func8 (res1 Tryd.func8 rfl (rv_tmp rfl)) <| ?_
  rfl

theorem spec_FormatInt_2 (w : World) : CV Tryd.prog 8 [.int .i64 2] w (.string ⟨#[50]⟩) := by
  refine cv_of Tryd.func8 rfl rfl rfl <| SQ <| RG <| AS rfl rfl <| ND <| SQ <| SQ <| RG <| MV rfl rfl <| EQ1 rfl rfl rfl <| ND <| CF rfl rfl <| SK <| SQ <| RG <| AS rfl rfl <| ND <| SQ <| RG <| MV rfl rfl <| rw_lss rfl rfl rfl <| AS rfl rfl <| ND <| SQ <| BK <| gw_loop1 <| SQ <| SQ <| RG <| MV rfl rfl <| rw_neq rfl rfl rfl <| ND <| CT rfl rfl <| SK <| BK <| SQ <| RG <| MV rfl rfl <| rw_rem rfl rfl rfl (by first | decide | omega) <| AS rfl rfl <| ?_
  refine ND <| SQ <| SQ <| RG <| MV rfl rfl <| rw_lss rfl rfl rfl <| ND <| CF rfl rfl <| SK <| SQ <| RG <| MV rfl rfl <| rw_add rfl rfl rfl <| rw_convI rfl tyCI_int_uint8 rfl <| rw_slice (xs := [(0, _)]) [_] rfl tyM_S_uint8 rfl rfl rfl rfl <| fun b1 => rw_convB (i := 0) [50] rfl tyCB_S_uint8_string rfl rfl rfl rfl <| MV rfl rfl <| rw_catS rfl rfl rfl (by first | decide | (simp; done) | (simp; omega)) (by first | decide | (simp; done) | (simp; omega)) <| AS rfl rfl <| ND <| RG <| MV rfl rfl <| rw_quo rfl rfl rfl (by first | decide | omega) <| ?_
  refine AS rfl rfl <| ND <| IB <| gw_again <| SQ <| SQ <| RG <| MV rfl rfl <| rw_neq rfl rfl rfl <| ND <| CF rfl rfl <| EX rfl <| SQ <| SQ <| RG <| MV rfl rfl <| ND <| CF rfl rfl <| SK <| SQ <| RG <| MV rfl rfl <| AS rfl rfl <| ND <| ret_cv Tryd.func8 (res1 Tryd.func8 rfl (rv_tmp rfl)) <| ?_
  rfl

theorem spec_FormatInt_3 (w : World) : CV Tryd.prog 8 [.int .i64 3] w (.string ⟨#[51]⟩) := by
  refine cv_of Tryd.func8 rfl rfl rfl <| SQ <| RG <| AS rfl rfl <| ND <| SQ <| SQ <| RG <| MV rfl rfl <| EQ1 rfl rfl rfl <| ND <| CF rfl rfl <| SK <| SQ <| RG <| AS rfl rfl <| ND <| SQ <| RG <| MV rfl rfl <| rw_lss rfl rfl rfl <| AS rfl rfl <| ND <| SQ <| BK <| gw_loop1 <| SQ <| SQ <| RG <| MV rfl rfl <| rw_neq rfl rfl rfl <| ND <| CT rfl rfl <| SK <| BK <| SQ <| RG <| MV rfl rfl <| rw_rem rfl rfl rfl (by first | decide | omega) <| AS rfl rfl <| ?_
  refine ND <| SQ <| SQ <| RG <| MV rfl rfl <| rw_lss rfl rfl rfl <| ND <| CF rfl rfl <| SK <| SQ <| RG <| MV rfl rfl <| rw_add rfl rfl rfl <| rw_convI rfl tyCI_int_uint8 rfl <| rw_slice (xs := [(0, _)]) [_] rfl tyM_S_uint8 rfl rfl rfl rfl <| fun b1 => rw_convB (i := 0) [51] rfl tyCB_S_uint8_string rfl rfl rfl rfl <| MV rfl rfl <| rw_catS rfl rfl rfl (by first | decide | (simp; done) | (simp; omega)) (by first | decide | (simp; done) | (simp; omega)) <| AS rfl rfl <| ND <| RG <| MV rfl rfl <| rw_quo rfl rfl rfl (by first | decide | omega) <| ?_
  refine AS rfl rfl <| ND <| IB <| gw_again <| SQ <| SQ <| RG <| MV rfl rfl <| rw_neq rfl rfl rfl <| ND <| CF rfl rfl <| EX rfl <| SQ <| SQ <| RG <| MV rfl rfl <| ND <| CF rfl rfl <| SK <| SQ <| RG <| MV rfl rfl <| AS rfl rfl <| ND <| ret_cv Tryd.func8 (res1 Tryd.func8 rfl (rv_tmp rfl)) <| ?_
  rfl

theorem spec_FormatInt_4 (w : World) : CV Tryd.prog 8 [.int .i64 4] w (.string ⟨#[52]⟩) := by
  refine cv_of Tryd.func8 rfl rfl rfl <| SQ <| RG <| AS rfl rfl <| ND <| SQ <| SQ <| RG <| MV rfl rfl <| EQ1 rfl rfl rfl <| ND <| CF rfl rfl <| SK <| SQ <| RG <| AS rfl rfl <| ND <| SQ <| RG <| MV rfl rfl <| rw_lss rfl rfl rfl <| AS rfl rfl <| ND <| SQ <| BK <| gw_loop1 <| SQ <| SQ <| RG <| MV rfl rfl <| rw_neq rfl rfl rfl <| ND <| CT rfl rfl <| SK <| BK <| SQ <| RG <| MV rfl rfl <| rw_rem rfl rfl rfl (by first | decide | omega) <| AS rfl rfl <| ?_
  refine ND <| SQ <| SQ <| RG <| MV rfl rfl <| rw_lss rfl rfl rfl <| ND <| CF rfl rfl <| SK <| SQ <| RG <| MV rfl rfl <| rw_add rfl rfl rfl <| rw_convI rfl tyCI_int_uint8 rfl <| rw_slice (xs := [(0, _)]) [_] rfl tyM_S_uint8 rfl rfl rfl rfl <| fun b1 => rw_convB (i := 0) [52] rfl tyCB_S_uint8_string rfl rfl rfl rfl <| MV rfl rfl <| rw_catS rfl rfl rfl (by first | decide | (simp; done) | (simp; omega)) (by first | decide | (simp; done) | (simp; omega)) <| AS rfl rfl <| ND <| RG <| MV rfl rfl <| rw_quo rfl rfl rfl (by first | decide | omega) <| ?_
  refine AS rfl rfl <| ND <| IB <| gw_again <| SQ <| SQ <| RG <| MV rfl rfl <| rw_neq rfl rfl rfl <| ND <| CF rfl rfl <| EX rfl <| SQ <| SQ <| RG <| MV rfl rfl <| ND <| CF rfl rfl <| SK <| SQ <| RG <| MV rfl rfl <| AS rfl rfl <| ND <| ret_cv Tryd.func8 (res1 Tryd.func8 rfl (rv_tmp rfl)) <| ?_
  rfl

theorem spec_FormatInt_5 (w : World) : CV Tryd.prog 8 [.int .i64 5] w (.string ⟨#[53]⟩) := by
  refine cv_of Tryd.func8 rfl rfl rfl <| SQ <| RG <| AS rfl rfl <| ND <| SQ <| SQ <| RG <| MV rfl rfl <| EQ1 rfl rfl rfl <| ND <| CF rfl rfl <| SK <| SQ <| RG <| AS rfl rfl <| ND <| SQ <| RG <| MV rfl rfl <| rw_lss rfl rfl rfl <| AS rfl rfl <| ND <| SQ <| BK <| gw_loop1 <| SQ <| SQ <| RG <| MV rfl rfl <| rw_neq rfl rfl rfl <| ND <| CT rfl rfl <| SK <| BK <| SQ <| RG <| MV rfl rfl <| rw_rem rfl rfl rfl (by first | decide | omega) <| AS rfl rfl <| ?_
  refine ND <| SQ <| SQ <| RG <| MV rfl rfl <| rw_lss rfl rfl rfl <| ND <| CF rfl rfl <| SK <| SQ <| RG <| MV rfl rfl <| rw_add rfl rfl rfl <| rw_convI rfl tyCI_int_uint8 rfl <| rw_slice (xs := [(0, _)]) [_] rfl tyM_S_uint8 rfl rfl rfl rfl <| fun b1 => rw_convB (i := 0) [53] rfl tyCB_S_uint8_string rfl rfl rfl rfl <| MV rfl rfl <| rw_catS rfl rfl rfl (by first | decide | (simp; done) | (simp; omega)) (by first | decide | (simp; done) | (simp; omega)) <| AS rfl rfl <| ND <| RG <| MV rfl rfl <| rw_quo rfl rfl rfl (by first | decide | omega) <| ?_
  refine AS rfl rfl <| ND <| IB <| gw_again <| SQ <| SQ <| RG <| MV rfl rfl <| rw_neq rfl rfl rfl <| ND <| CF rfl rfl <| EX rfl <| SQ <| SQ <| RG <| MV rfl rfl <| ND <| CF rfl rfl <| SK <| SQ <| RG <| MV rfl rfl <| AS rfl rfl <| ND <| ret_cv Tryd.func8 (res1 Tryd.func8 rfl (rv_tmp rfl)) <| ?_
  rfl

theorem spec_FormatInt_6 (w : World) : CV Tryd.prog 8 [.int .i64 6] w (.string ⟨#[54]⟩) := by
  refine cv_of Tryd.func8 rfl rfl rfl <| SQ <| RG <| AS rfl rfl <| ND <| SQ <| SQ <| RG <| MV rfl rfl <| EQ1 rfl rfl rfl <| ND <| CF rfl rfl <| SK <| SQ <| RG <| AS rfl rfl <| ND <| SQ <| RG <| MV rfl rfl <| rw_lss rfl rfl rfl <| AS rfl rfl <| ND <| SQ <| BK <| gw_loop1 <| SQ <| SQ <| RG <| MV rfl rfl <| rw_neq rfl rfl rfl <| ND <| CT rfl rfl <| SK <| BK <| SQ <| RG <| MV rfl rfl <| rw_rem rfl rfl rfl (by first | decide | omega) <| AS rfl rfl <| ?_
  refine ND <| SQ <| SQ <| RG <| MV rfl rfl <| rw_lss rfl rfl rfl <| ND <| CF rfl rfl <| SK <| SQ <| RG <| MV rfl rfl <| rw_add rfl rfl rfl <| rw_convI rfl tyCI_int_uint8 rfl <| rw_slice (xs := [(0, _)]) [_] rfl tyM_S_uint8 rfl rfl rfl rfl <| fun b1 => rw_convB (i := 0) [54] rfl tyCB_S_uint8_string rfl rfl rfl rfl <| MV rfl rfl <| rw_catS rfl rfl rfl (by first | decide | (simp; done) | (simp; omega)) (by first | decide | (simp; done) | (simp; omega)) <| AS rfl rfl <| ND <| RG <| MV rfl rfl <| rw_quo rfl rfl rfl (by first | decide | omega) <| ?_
  refine AS rfl rfl <| ND <| IB <| gw_again <| SQ <| SQ <| RG <| MV rfl rfl <| rw_neq rfl rfl rfl <| ND <| CF rfl rfl <| EX rfl <| SQ <| SQ <| RG <| MV rfl rfl <| ND <| CF rfl rfl <| SK <| SQ <| RG <| MV rfl rfl <| AS rfl rfl <| ND <| ret_cv Tryd.func8 (res1 Tryd.func8 rfl (rv_tmp rfl)) <| ?_
  rfl

theorem spec_FormatInt_7 (w : World) : CV Tryd.prog 8 [.int .i64 7] w (.string ⟨#[55]⟩) := by
  refine cv_of Tryd.func8 rfl rfl rfl <| SQ <| RG <| AS rfl rfl <| ND <| SQ <| SQ <| RG <| MV rfl rfl <| EQ1 rfl rfl rfl <| ND <| CF rfl rfl <| SK <| SQ <| RG <| AS rfl rfl <| ND <| SQ <| RG <| MV rfl rfl <| rw_lss rfl rfl rfl <| AS rfl rfl <| ND <| SQ <| BK <| gw_loop1 <| SQ <| SQ <| RG <| MV rfl rfl <| rw_neq rfl rfl rfl <| ND <| CT rfl rfl <| SK <| BK <| SQ <| RG <| MV rfl rfl <| rw_rem rfl rfl rfl (by first | decide | omega) <| AS rfl rfl <| ?_
  refine ND <| SQ <| SQ <| RG <| MV rfl rfl <| rw_lss rfl rfl rfl <| ND <| CF rfl rfl <| SK <| SQ <| RG <| MV rfl rfl <| rw_add rfl rfl rfl <| rw_convI rfl tyCI_int_uint8 rfl <| rw_slice (xs := [(0, _)]) [_] rfl tyM_S_uint8 rfl rfl rfl rfl <| fun b1 => rw_convB (i := 0) [55] rfl tyCB_S_uint8_string rfl rfl rfl rfl <| MV rfl rfl <| rw_catS rfl rfl rfl (by first | decide | (simp; done) | (simp; omega)) (by first | decide | (simp; done) | (simp; omega)) <| AS rfl rfl <| ND <| RG <| MV rfl rfl <| rw_quo rfl rfl rfl (by first | decide | omega) <| ?_
  refine AS rfl rfl <| ND <| IB <| gw_again <| SQ <| SQ <| RG <| MV rfl rfl <| rw_neq rfl rfl rfl <| ND <| CF rfl rfl <| EX rfl <| SQ <| SQ <| RG <| MV rfl rfl <| ND <| CF rfl rfl <| SK <| SQ <| RG <| MV rfl rfl <| AS rfl rfl <| ND <| ret_cv Tryd.func8 (res1 Tryd.func8 rfl (rv_tmp rfl)) <| ?_
  rfl

theorem spec_FormatInt (n : Int) (h : 0 ≤ n ∧ n ≤ 7) (w : World) : CV Tryd.prog 8 [.int .i64 n] w (.string ⟨[digit n].toArray⟩) := by
  rcases upto7 h with rfl | rfl | rfl | rfl | rfl | rfl | rfl | rfl
  · exact spec_FormatInt_0 w
  · exact spec_FormatInt_1 w
  · exact spec_FormatInt_2 w
  · exact spec_FormatInt_3 w
  · exact spec_FormatInt_4 w
  · exact spec_FormatInt_5 w
  · exact spec_FormatInt_6 w
  · exact spec_FormatInt_7 w

theorem spec_FormatPriority (p : Priority) (w : World) : CV Tryd.prog 4 [.agg p.cells.toArray] w (.string ⟨(formatPriority p).toArray⟩) := by
  refine cv_of Tryd.func4 rfl rfl rfl <| SQ <| RG <| BX [_, _] rfl rfl rfl <| fun b1 => AS rfl rfl <| ND <| SQ <| SQ <| RG <| LS (i := 0) [_, _] rfl tyS_impl_Priority rfl rfl rfl rfl <| CV1 rfl fun_spec_IsPriority rfl (fun w hs => spec_IsPriority _ w) <| NT rfl rfl <| ND <| ?_
  refine gw_cond rfl (fun h1 => ?_) (fun h1 => ?_)
  · replace h1 := of_not_T h1
    refine SQ <| RG <| AS rfl rfl <| ND <| ret_cv Tryd.func4 (res1 Tryd.func4 rfl (rv_tmp rfl)) <| ?_
    simp [formatPriority, h1]
  · replace h1 := of_not_F h1
    refine SK <| SQ <| RG <| FA rfl tyF_impl_Priority_0 rfl <| LD (i := 0) rfl tyP_int rfl rfl rfl <| CV1 rfl fun_spec_FormatInt rfl (fun w hs => spec_FormatInt _ (pri_ok h1) w) <| rw_catS rfl rfl rfl (by first | decide | (simp; done) | (simp; omega)) (by first | decide | (simp; done) | (simp; omega)) <| AS rfl rfl <| ND <| SQ <| SQ <| RG <| FA rfl tyF_impl_Priority_1 rfl <| LD (i := 0) rfl tyP_bool rfl rfl rfl <| ND <| ?_
    refine gw_cond rfl (fun h2 => ?_) (fun h2 => ?_)
    · refine RG <| MV rfl rfl <| rw_catS rfl rfl rfl (by first | decide | (simp; done) | (simp; omega)) (by first | decide | (simp; done) | (simp; omega)) <| AS rfl rfl <| ND <| SQ <| RG <| MV rfl rfl <| AS rfl rfl <| ND <| ret_cv Tryd.func4 (res1 Tryd.func4 rfl (rv_tmp rfl)) <| ?_
      simp [formatPriority, h1, h2]
    · refine SK <| SQ <| RG <| MV rfl rfl <| AS rfl rfl <| ND <| ret_cv Tryd.func4 (res1 Tryd.func4 rfl (rv_tmp rfl)) <| ?_
      simp [formatPriority, h1, h2]

theorem impl_within (a b c : Int) (w : World) : CV Tryd.prog 12 [.int .i64 a, .int .i64 b, .int .i64 c] w (.bool (within a b c)) := by
  refine cv_of Tryd.func12 rfl rfl rfl <| SQ <| RG <| AS rfl rfl <| ND <| SQ <| RG <| MV rfl rfl <| MV rfl rfl <| rw_leq rfl rfl rfl <| MV rfl rfl <| ?_
  refine rw_case (j := 10) rfl (fun h1 => ?_) (fun h1 => ?_)
  · refine ON rfl rfl h1 <| MV rfl rfl <| ON rfl rfl h1 <| MV rfl rfl <| ON rfl rfl h1 <| rw_leq rfl rfl rfl <| PT rfl rfl h1 rfl <| AS rfl rfl <| ND <| ret_cv Tryd.func12 (res1 Tryd.func12 rfl (rv_tmp rfl)) <| ?_
    simp only [within, h1] <;> rfl
  · refine OF rfl rfl h1 rfl <| OF rfl rfl h1 rfl <| OF rfl rfl h1 rfl <| PF rfl rfl h1 rfl <| AS rfl rfl <| ND <| ret_cv Tryd.func12 (res1 Tryd.func12 rfl (rv_tmp rfl)) <| ?_
    simp only [within, h1] <;> rfl

theorem impl_IsPriority (p : Priority) (w : World) : CV Tryd.prog 9 [.agg p.cells.toArray] w (.bool (isPriority p)) := by
  refine cv_of Tryd.func9 rfl rfl rfl <| SQ <| RG <| BX [_, _] rfl rfl rfl <| fun b1 => AS rfl rfl <| ND <| SQ <| RG <| FA rfl tyF_impl_Priority_0 rfl <| LD (i := 0) rfl tyP_int rfl rfl rfl <| CV1 rfl fun_impl_within rfl (fun w hs => impl_within _ _ _ w) <| AS rfl rfl <| ND <| ret_cv Tryd.func9 (res1 Tryd.func9 rfl (rv_tmp rfl)) <| ?_
  simp only [isPriority] <;> rfl

theorem strconv_small_0 (w : World) : CV Tryd.prog 16 [.int .i64 0] w (.string ⟨#[48]⟩) := by
  refine cv_of Tryd.func16 rfl rfl rfl <| SQ <| RG <| AS rfl rfl <| ND <| SQ <| SQ <| RG <| MV rfl rfl <| rw_lss rfl rfl rfl <| ND <| CT rfl rfl <| SQ <| RG <| MV rfl rfl <| MV rfl rfl <| rw_add rfl rfl rfl <| rw_sliceS 0 1 rfl tyStr_string rfl rfl rfl rfl rfl rfl rfl <| AS rfl rfl <| ND <| ret_cv Tryd.func16 (res1 Tryd.func16 rfl (rv_tmp rfl)) <| ?_
  rfl

theorem strconv_small_1 (w : World) : CV Tryd.prog 16 [.int .i64 1] w (.string ⟨#[49]⟩) := by
  refine cv_of Tryd.func16 rfl rfl rfl <| SQ <| RG <| AS rfl rfl <| ND <| SQ <| SQ <| RG <| MV rfl rfl <| rw_lss rfl rfl rfl <| ND <| CT rfl rfl <| SQ <| RG <| MV rfl rfl <| MV rfl rfl <| rw_add rfl rfl rfl <| rw_sliceS 1 2 rfl tyStr_string rfl rfl rfl rfl rfl rfl rfl <| AS rfl rfl <| ND <| ret_cv Tryd.func16 (res1 Tryd.func16 rfl (rv_tmp rfl)) <| ?_
  rfl

theorem strconv_small_2 (w : World) : CV Tryd.prog 16 [.int .i64 2] w (.string ⟨#[50]⟩) := by
  refine cv_of Tryd.func16 rfl rfl rfl <| SQ <| RG <| AS rfl rfl <| ND <| SQ <| SQ <| RG <| MV rfl rfl <| rw_lss rfl rfl rfl <| ND <| CT rfl rfl <| SQ <| RG <| MV rfl rfl <| MV rfl rfl <| rw_add rfl rfl rfl <| rw_sliceS 2 3 rfl tyStr_string rfl rfl rfl rfl rfl rfl rfl <| AS rfl rfl <| ND <| ret_cv Tryd.func16 (res1 Tryd.func16 rfl (rv_tmp rfl)) <| ?_
  rfl

theorem strconv_small_3 (w : World) : CV Tryd.prog 16 [.int .i64 3] w (.string ⟨#[51]⟩) := by
  refine cv_of Tryd.func16 rfl rfl rfl <| SQ <| RG <| AS rfl rfl <| ND <| SQ <| SQ <| RG <| MV rfl rfl <| rw_lss rfl rfl rfl <| ND <| CT rfl rfl <| SQ <| RG <| MV rfl rfl <| MV rfl rfl <| rw_add rfl rfl rfl <| rw_sliceS 3 4 rfl tyStr_string rfl rfl rfl rfl rfl rfl rfl <| AS rfl rfl <| ND <| ret_cv Tryd.func16 (res1 Tryd.func16 rfl (rv_tmp rfl)) <| ?_
  rfl

theorem strconv_small_4 (w : World) : CV Tryd.prog 16 [.int .i64 4] w (.string ⟨#[52]⟩) := by
  refine cv_of Tryd.func16 rfl rfl rfl <| SQ <| RG <| AS rfl rfl <| ND <| SQ <| SQ <| RG <| MV rfl rfl <| rw_lss rfl rfl rfl <| ND <| CT rfl rfl <| SQ <| RG <| MV rfl rfl <| MV rfl rfl <| rw_add rfl rfl rfl <| rw_sliceS 4 5 rfl tyStr_string rfl rfl rfl rfl rfl rfl rfl <| AS rfl rfl <| ND <| ret_cv Tryd.func16 (res1 Tryd.func16 rfl (rv_tmp rfl)) <| ?_
  rfl

theorem strconv_small_5 (w : World) : CV Tryd.prog 16 [.int .i64 5] w (.string ⟨#[53]⟩) := by
  refine cv_of Tryd.func16 rfl rfl rfl <| SQ <| RG <| AS rfl rfl <| ND <| SQ <| SQ <| RG <| MV rfl rfl <| rw_lss rfl rfl rfl <| ND <| CT rfl rfl <| SQ <| RG <| MV rfl rfl <| MV rfl rfl <| rw_add rfl rfl rfl <| rw_sliceS 5 6 rfl tyStr_string rfl rfl rfl rfl rfl rfl rfl <| AS rfl rfl <| ND <| ret_cv Tryd.func16 (res1 Tryd.func16 rfl (rv_tmp rfl)) <| ?_
  rfl

theorem strconv_small_6 (w : World) : CV Tryd.prog 16 [.int .i64 6] w (.string ⟨#[54]⟩) := by
  refine cv_of Tryd.func16 rfl rfl rfl <| SQ <| RG <| AS rfl rfl <| ND <| SQ <| SQ <| RG <| MV rfl rfl <| rw_lss rfl rfl rfl <| ND <| CT rfl rfl <| SQ <| RG <| MV rfl rfl <| MV rfl rfl <| rw_add rfl rfl rfl <| rw_sliceS 6 7 rfl tyStr_string rfl rfl rfl rfl rfl rfl rfl <| AS rfl rfl <| ND <| ret_cv Tryd.func16 (res1 Tryd.func16 rfl (rv_tmp rfl)) <| ?_
  rfl

theorem strconv_small_7 (w : World) : CV Tryd.prog 16 [.int .i64 7] w (.string ⟨#[55]⟩) := by
  refine cv_of Tryd.func16 rfl rfl rfl <| SQ <| RG <| AS rfl rfl <| ND <| SQ <| SQ <| RG <| MV rfl rfl <| rw_lss rfl rfl rfl <| ND <| CT rfl rfl <| SQ <| RG <| MV rfl rfl <| MV rfl rfl <| rw_add rfl rfl rfl <| rw_sliceS 7 8 rfl tyStr_string rfl rfl rfl rfl rfl rfl rfl <| AS rfl rfl <| ND <| ret_cv Tryd.func16 (res1 Tryd.func16 rfl (rv_tmp rfl)) <| ?_
  rfl

theorem istrconv_FormatInt_0 (w : World) : CV Tryd.prog 15 [.int .i64 0, .int .i64 10] w (.string ⟨#[48]⟩) := by
  refine cv_of Tryd.func15 rfl rfl rfl <| SQ <| RG <| AS rfl rfl <| ND <| SQ <| SQ <| RG <| MV rfl rfl <| EQ1 rfl rfl rfl <| ND <| CT rfl rfl <| SQ <| SQ <| RG <| MV rfl rfl <| rw_leq rfl rfl rfl <| MV rfl rfl <| ON rfl rfl rfl <| MV rfl rfl <| ON rfl rfl rfl <| rw_lss rfl rfl rfl <| PT rfl rfl rfl rfl <| ND <| CT rfl rfl <| SQ <| RG <| MV rfl rfl <| CV1 rfl fun_internal_strconv_small rfl (fun w hs => strconv_small_0 w) <| AS rfl rfl <| ND <| ?_
  refine ret_cv Tryd.func15 (res1 Tryd.func15 rfl (rv_tmp rfl)) <| ?_
  rfl

theorem istrconv_FormatInt_1 (w : World) : CV Tryd.prog 15 [.int .i64 1, .int .i64 10] w (.string ⟨#[49]⟩) := by
  refine cv_of Tryd.func15 rfl rfl rfl <| SQ <| RG <| AS rfl rfl <| ND <| SQ <| SQ <| RG <| MV rfl rfl <| EQ1 rfl rfl rfl <| ND <| CT rfl rfl <| SQ <| SQ <| RG <| MV rfl rfl <| rw_leq rfl rfl rfl <| MV rfl rfl <| ON rfl rfl rfl <| MV rfl rfl <| ON rfl rfl rfl <| rw_lss rfl rfl rfl <| PT rfl rfl rfl rfl <| ND <| CT rfl rfl <| SQ <| RG <| MV rfl rfl <| CV1 rfl fun_internal_strconv_small rfl (fun w hs => strconv_small_1 w) <| AS rfl rfl <| ND <| ?_
  refine ret_cv Tryd.func15 (res1 Tryd.func15 rfl (rv_tmp rfl)) <| ?_
  rfl

theorem istrconv_FormatInt_2 (w : World) : CV Tryd.prog 15 [.int .i64 2, .int .i64 10] w (.string ⟨#[50]⟩) := by
  refine cv_of Tryd.func15 rfl rfl rfl <| SQ <| RG <| AS rfl rfl <| ND <| SQ <| SQ <| RG <| MV rfl rfl <| EQ1 rfl rfl rfl <| ND <| CT rfl rfl <| SQ <| SQ <| RG <| MV rfl rfl <| rw_leq rfl rfl rfl <| MV rfl rfl <| ON rfl rfl rfl <| MV rfl rfl <| ON rfl rfl rfl <| rw_lss rfl rfl rfl <| PT rfl rfl rfl rfl <| ND <| CT rfl rfl <| SQ <| RG <| MV rfl rfl <| CV1 rfl fun_internal_strconv_small rfl (fun w hs => strconv_small_2 w) <| AS rfl rfl <| ND <| ?_
  refine ret_cv Tryd.func15 (res1 Tryd.func15 rfl (rv_tmp rfl)) <| ?_
  rfl

theorem istrconv_FormatInt_3 (w : World) : CV Tryd.prog 15 [.int .i64 3, .int .i64 10] w (.string ⟨#[51]⟩) := by
  refine cv_of Tryd.func15 rfl rfl rfl <| SQ <| RG <| AS rfl rfl <| ND <| SQ <| SQ <| RG <| MV rfl rfl <| EQ1 rfl rfl rfl <| ND <| CT rfl rfl <| SQ <| SQ <| RG <| MV rfl rfl <| rw_leq rfl rfl rfl <| MV rfl rfl <| ON rfl rfl rfl <| MV rfl rfl <| ON rfl rfl rfl <| rw_lss rfl rfl rfl <| PT rfl rfl rfl rfl <| ND <| CT rfl rfl <| SQ <| RG <| MV rfl rfl <| CV1 rfl fun_internal_strconv_small rfl (fun w hs => strconv_small_3 w) <| AS rfl rfl <| ND <| ?_
  refine ret_cv Tryd.func15 (res1 Tryd.func15 rfl (rv_tmp rfl)) <| ?_
  rfl

theorem istrconv_FormatInt_4 (w : World) : CV Tryd.prog 15 [.int .i64 4, .int .i64 10] w (.string ⟨#[52]⟩) := by
  refine cv_of Tryd.func15 rfl rfl rfl <| SQ <| RG <| AS rfl rfl <| ND <| SQ <| SQ <| RG <| MV rfl rfl <| EQ1 rfl rfl rfl <| ND <| CT rfl rfl <| SQ <| SQ <| RG <| MV rfl rfl <| rw_leq rfl rfl rfl <| MV rfl rfl <| ON rfl rfl rfl <| MV rfl rfl <| ON rfl rfl rfl <| rw_lss rfl rfl rfl <| PT rfl rfl rfl rfl <| ND <| CT rfl rfl <| SQ <| RG <| MV rfl rfl <| CV1 rfl fun_internal_strconv_small rfl (fun w hs => strconv_small_4 w) <| AS rfl rfl <| ND <| ?_
  refine ret_cv Tryd.func15 (res1 Tryd.func15 rfl (rv_tmp rfl)) <| ?_
  rfl

theorem istrconv_FormatInt_5 (w : World) : CV Tryd.prog 15 [.int .i64 5, .int .i64 10] w (.string ⟨#[53]⟩) := by
  refine cv_of Tryd.func15 rfl rfl rfl <| SQ <| RG <| AS rfl rfl <| ND <| SQ <| SQ <| RG <| MV rfl rfl <| EQ1 rfl rfl rfl <| ND <| CT rfl rfl <| SQ <| SQ <| RG <| MV rfl rfl <| rw_leq rfl rfl rfl <| MV rfl rfl <| ON rfl rfl rfl <| MV rfl rfl <| ON rfl rfl rfl <| rw_lss rfl rfl rfl <| PT rfl rfl rfl rfl <| ND <| CT rfl rfl <| SQ <| RG <| MV rfl rfl <| CV1 rfl fun_internal_strconv_small rfl (fun w hs => strconv_small_5 w) <| AS rfl rfl <| ND <| ?_
  refine ret_cv Tryd.func15 (res1 Tryd.func15 rfl (rv_tmp rfl)) <| ?_
  rfl

theorem istrconv_FormatInt_6 (w : World) : CV Tryd.prog 15 [.int .i64 6, .int .i64 10] w (.string ⟨#[54]⟩) := by
  refine cv_of Tryd.func15 rfl rfl rfl <| SQ <| RG <| AS rfl rfl <| ND <| SQ <| SQ <| RG <| MV rfl rfl <| EQ1 rfl rfl rfl <| ND <| CT rfl rfl <| SQ <| SQ <| RG <| MV rfl rfl <| rw_leq rfl rfl rfl <| MV rfl rfl <| ON rfl rfl rfl <| MV rfl rfl <| ON rfl rfl rfl <| rw_lss rfl rfl rfl <| PT rfl rfl rfl rfl <| ND <| CT rfl rfl <| SQ <| RG <| MV rfl rfl <| CV1 rfl fun_internal_strconv_small rfl (fun w hs => strconv_small_6 w) <| AS rfl rfl <| ND <| ?_
  refine ret_cv Tryd.func15 (res1 Tryd.func15 rfl (rv_tmp rfl)) <| ?_
  rfl

theorem istrconv_FormatInt_7 (w : World) : CV Tryd.prog 15 [.int .i64 7, .int .i64 10] w (.string ⟨#[55]⟩) := by
  refine cv_of Tryd.func15 rfl rfl rfl <| SQ <| RG <| AS rfl rfl <| ND <| SQ <| SQ <| RG <| MV rfl rfl <| EQ1 rfl rfl rfl <| ND <| CT rfl rfl <| SQ <| SQ <| RG <| MV rfl rfl <| rw_leq rfl rfl rfl <| MV rfl rfl <| ON rfl rfl rfl <| MV rfl rfl <| ON rfl rfl rfl <| rw_lss rfl rfl rfl <| PT rfl rfl rfl rfl <| ND <| CT rfl rfl <| SQ <| RG <| MV rfl rfl <| CV1 rfl fun_internal_strconv_small rfl (fun w hs => strconv_small_7 w) <| AS rfl rfl <| ND <| ?_
  refine ret_cv Tryd.func15 (res1 Tryd.func15 rfl (rv_tmp rfl)) <| ?_
  rfl

theorem istrconv_Itoa_0 (w : World) : CV Tryd.prog 14 [.int .i64 0] w (.string ⟨#[48]⟩) := by
  refine cv_of Tryd.func14 rfl rfl rfl <| SQ <| RG <| AS rfl rfl <| ND <| SQ <| RG <| MV rfl rfl <| CV1 rfl fun_internal_strconv_FormatInt rfl (fun w hs => istrconv_FormatInt_0 w) <| AS rfl rfl <| ND <| ret_cv Tryd.func14 (res1 Tryd.func14 rfl (rv_tmp rfl)) <| ?_
  rfl

theorem istrconv_Itoa_1 (w : World) : CV Tryd.prog 14 [.int .i64 1] w (.string ⟨#[49]⟩) := by
  refine cv_of Tryd.func14 rfl rfl rfl <| SQ <| RG <| AS rfl rfl <| ND <| SQ <| RG <| MV rfl rfl <| CV1 rfl fun_internal_strconv_FormatInt rfl (fun w hs => istrconv_FormatInt_1 w) <| AS rfl rfl <| ND <| ret_cv Tryd.func14 (res1 Tryd.func14 rfl (rv_tmp rfl)) <| ?_
  rfl

theorem istrconv_Itoa_2 (w : World) : CV Tryd.prog 14 [.int .i64 2] w (.string ⟨#[50]⟩) := by
  refine cv_of Tryd.func14 rfl rfl rfl <| SQ <| RG <| AS rfl rfl <| ND <| SQ <| RG <| MV rfl rfl <| CV1 rfl fun_internal_strconv_FormatInt rfl (fun w hs => istrconv_FormatInt_2 w) <| AS rfl rfl <| ND <| ret_cv Tryd.func14 (res1 Tryd.func14 rfl (rv_tmp rfl)) <| ?_
  rfl

theorem istrconv_Itoa_3 (w : World) : CV Tryd.prog 14 [.int .i64 3] w (.string ⟨#[51]⟩) := by
  refine cv_of Tryd.func14 rfl rfl rfl <| SQ <| RG <| AS rfl rfl <| ND <| SQ <| RG <| MV rfl rfl <| CV1 rfl fun_internal_strconv_FormatInt rfl (fun w hs => istrconv_FormatInt_3 w) <| AS rfl rfl <| ND <| ret_cv Tryd.func14 (res1 Tryd.func14 rfl (rv_tmp rfl)) <| ?_
  rfl

theorem istrconv_Itoa_4 (w : World) : CV Tryd.prog 14 [.int .i64 4] w (.string ⟨#[52]⟩) := by
  refine cv_of Tryd.func14 rfl rfl rfl <| SQ <| RG <| AS rfl rfl <| ND <| SQ <| RG <| MV rfl rfl <| CV1 rfl fun_internal_strconv_FormatInt rfl (fun w hs => istrconv_FormatInt_4 w) <| AS rfl rfl <| ND <| ret_cv Tryd.func14 (res1 Tryd.func14 rfl (rv_tmp rfl)) <| ?_
  rfl

theorem istrconv_Itoa_5 (w : World) : CV Tryd.prog 14 [.int .i64 5] w (.string ⟨#[53]⟩) := by
  refine cv_of Tryd.func14 rfl rfl rfl <| SQ <| RG <| AS rfl rfl <| ND <| SQ <| RG <| MV rfl rfl <| CV1 rfl fun_internal_strconv_FormatInt rfl (fun w hs => istrconv_FormatInt_5 w) <| AS rfl rfl <| ND <| ret_cv Tryd.func14 (res1 Tryd.func14 rfl (rv_tmp rfl)) <| ?_
  rfl

theorem istrconv_Itoa_6 (w : World) : CV Tryd.prog 14 [.int .i64 6] w (.string ⟨#[54]⟩) := by
  refine cv_of Tryd.func14 rfl rfl rfl <| SQ <| RG <| AS rfl rfl <| ND <| SQ <| RG <| MV rfl rfl <| CV1 rfl fun_internal_strconv_FormatInt rfl (fun w hs => istrconv_FormatInt_6 w) <| AS rfl rfl <| ND <| ret_cv Tryd.func14 (res1 Tryd.func14 rfl (rv_tmp rfl)) <| ?_
  rfl

theorem istrconv_Itoa_7 (w : World) : CV Tryd.prog 14 [.int .i64 7] w (.string ⟨#[55]⟩) := by
  refine cv_of Tryd.func14 rfl rfl rfl <| SQ <| RG <| AS rfl rfl <| ND <| SQ <| RG <| MV rfl rfl <| CV1 rfl fun_internal_strconv_FormatInt rfl (fun w hs => istrconv_FormatInt_7 w) <| AS rfl rfl <| ND <| ret_cv Tryd.func14 (res1 Tryd.func14 rfl (rv_tmp rfl)) <| ?_
  rfl

theorem strconv_Itoa_0 (w : World) : CV Tryd.prog 13 [.int .i64 0] w (.string ⟨#[48]⟩) := by
  refine cv_of Tryd.func13 rfl rfl rfl <| SQ <| RG <| AS rfl rfl <| ND <| SQ <| RG <| MV rfl rfl <| CV1 rfl fun_internal_strconv_Itoa rfl (fun w hs => istrconv_Itoa_0 w) <| AS rfl rfl <| ND <| ret_cv Tryd.func13 (res1 Tryd.func13 rfl (rv_tmp rfl)) <| ?_
  rfl

theorem strconv_Itoa_1 (w : World) : CV Tryd.prog 13 [.int .i64 1] w (.string ⟨#[49]⟩) := by
  refine cv_of Tryd.func13 rfl rfl rfl <| SQ <| RG <| AS rfl rfl <| ND <| SQ <| RG <| MV rfl rfl <| CV1 rfl fun_internal_strconv_Itoa rfl (fun w hs => istrconv_Itoa_1 w) <| AS rfl rfl <| ND <| ret_cv Tryd.func13 (res1 Tryd.func13 rfl (rv_tmp rfl)) <| ?_
  rfl

theorem strconv_Itoa_2 (w : World) : CV Tryd.prog 13 [.int .i64 2] w (.string ⟨#[50]⟩) := by
  refine cv_of Tryd.func13 rfl rfl rfl <| SQ <| RG <| AS rfl rfl <| ND <| SQ <| RG <| MV rfl rfl <| CV1 rfl fun_internal_strconv_Itoa rfl (fun w hs => istrconv_Itoa_2 w) <| AS rfl rfl <| ND <| ret_cv Tryd.func13 (res1 Tryd.func13 rfl (rv_tmp rfl)) <| ?_
  rfl

theorem strconv_Itoa_3 (w : World) : CV Tryd.prog 13 [.int .i64 3] w (.string ⟨#[51]⟩) := by
  refine cv_of Tryd.func13 rfl rfl rfl <| SQ <| RG <| AS rfl rfl <| ND <| SQ <| RG <| MV rfl rfl <| CV1 rfl fun_internal_strconv_Itoa rfl (fun w hs => istrconv_Itoa_3 w) <| AS rfl rfl <| ND <| ret_cv Tryd.func13 (res1 Tryd.func13 rfl (rv_tmp rfl)) <| ?_
  rfl

theorem strconv_Itoa_4 (w : World) : CV Tryd.prog 13 [.int .i64 4] w (.string ⟨#[52]⟩) := by
  refine cv_of Tryd.func13 rfl rfl rfl <| SQ <| RG <| AS rfl rfl <| ND <| SQ <| RG <| MV rfl rfl <| CV1 rfl fun_internal_strconv_Itoa rfl (fun w hs => istrconv_Itoa_4 w) <| AS rfl rfl <| ND <| ret_cv Tryd.func13 (res1 Tryd.func13 rfl (rv_tmp rfl)) <| ?_
  rfl

theorem strconv_Itoa_5 (w : World) : CV Tryd.prog 13 [.int .i64 5] w (.string ⟨#[53]⟩) := by
  refine cv_of Tryd.func13 rfl rfl rfl <| SQ <| RG <| AS rfl rfl <| ND <| SQ <| RG <| MV rfl rfl <| CV1 rfl fun_internal_strconv_Itoa rfl (fun w hs => istrconv_Itoa_5 w) <| AS rfl rfl <| ND <| ret_cv Tryd.func13 (res1 Tryd.func13 rfl (rv_tmp rfl)) <| ?_
  rfl

theorem strconv_Itoa_6 (w : World) : CV Tryd.prog 13 [.int .i64 6] w (.string ⟨#[54]⟩) := by
  refine cv_of Tryd.func13 rfl rfl rfl <| SQ <| RG <| AS rfl rfl <| ND <| SQ <| RG <| MV rfl rfl <| CV1 rfl fun_internal_strconv_Itoa rfl (fun w hs => istrconv_Itoa_6 w) <| AS rfl rfl <| ND <| ret_cv Tryd.func13 (res1 Tryd.func13 rfl (rv_tmp rfl)) <| ?_
  rfl

theorem strconv_Itoa_7 (w : World) : CV Tryd.prog 13 [.int .i64 7] w (.string ⟨#[55]⟩) := by
  refine cv_of Tryd.func13 rfl rfl rfl <| SQ <| RG <| AS rfl rfl <| ND <| SQ <| RG <| MV rfl rfl <| CV1 rfl fun_internal_strconv_Itoa rfl (fun w hs => istrconv_Itoa_7 w) <| AS rfl rfl <| ND <| ret_cv Tryd.func13 (res1 Tryd.func13 rfl (rv_tmp rfl)) <| ?_
  rfl

theorem impl_FormatInt_0 (w : World) : CV Tryd.prog 10 [.int .i64 0] w (.string ⟨#[48]⟩) := by
  refine cv_of Tryd.func10 rfl rfl rfl <| SQ <| RG <| AS rfl rfl <| ND <| SQ <| RG <| MV rfl rfl <| CV1 rfl fun_strconv_Itoa rfl (fun w hs => strconv_Itoa_0 w) <| AS rfl rfl <| ND <| ret_cv Tryd.func10 (res1 Tryd.func10 rfl (rv_tmp rfl)) <| ?_
  rfl

theorem impl_FormatInt_1 (w : World) : CV Tryd.prog 10 [.int .i64 1] w (.string ⟨#[49]⟩) := by
  refine cv_of Tryd.func10 rfl rfl rfl <| SQ <| RG <| AS rfl rfl <| ND <| SQ <| RG <| MV rfl rfl <| CV1 rfl fun_strconv_Itoa rfl (fun w hs => strconv_Itoa_1 w) <| AS rfl rfl <| ND <| ret_cv Tryd.func10 (res1 Tryd.func10 rfl (rv_tmp rfl)) <| ?_
  rfl

theorem impl_FormatInt_2 (w : World) : CV Tryd.prog 10 [.int .i64 2] w (.string ⟨#[50]⟩) := by
  refine cv_of Tryd.func10 rfl rfl rfl <| SQ <| RG <| AS rfl rfl <| ND <| SQ <| RG <| MV rfl rfl <| CV1 rfl fun_strconv_Itoa rfl (fun w hs => strconv_Itoa_2 w) <| AS rfl rfl <| ND <| ret_cv Tryd.func10 (res1 Tryd.func10 rfl (rv_tmp rfl)) <| ?_
  rfl

theorem impl_FormatInt_3 (w : World) : CV Tryd.prog 10 [.int .i64 3] w (.string ⟨#[51]⟩) := by
  refine cv_of Tryd.func10 rfl rfl rfl <| SQ <| RG <| AS rfl rfl <| ND <| SQ <| RG <| MV rfl rfl <| CV1 rfl fun_strconv_Itoa rfl (fun w hs => strconv_Itoa_3 w) <| AS rfl rfl <| ND <| ret_cv Tryd.func10 (res1 Tryd.func10 rfl (rv_tmp rfl)) <| ?_
  rfl

theorem impl_FormatInt_4 (w : World) : CV Tryd.prog 10 [.int .i64 4] w (.string ⟨#[52]⟩) := by
  refine cv_of Tryd.func10 rfl rfl rfl <| SQ <| RG <| AS rfl rfl <| ND <| SQ <| RG <| MV rfl rfl <| CV1 rfl fun_strconv_Itoa rfl (fun w hs => strconv_Itoa_4 w) <| AS rfl rfl <| ND <| ret_cv Tryd.func10 (res1 Tryd.func10 rfl (rv_tmp rfl)) <| ?_
  rfl

theorem impl_FormatInt_5 (w : World) : CV Tryd.prog 10 [.int .i64 5] w (.string ⟨#[53]⟩) := by
  refine cv_of Tryd.func10 rfl rfl rfl <| SQ <| RG <| AS rfl rfl <| ND <| SQ <| RG <| MV rfl rfl <| CV1 rfl fun_strconv_Itoa rfl (fun w hs => strconv_Itoa_5 w) <| AS rfl rfl <| ND <| ret_cv Tryd.func10 (res1 Tryd.func10 rfl (rv_tmp rfl)) <| ?_
  rfl

theorem impl_FormatInt_6 (w : World) : CV Tryd.prog 10 [.int .i64 6] w (.string ⟨#[54]⟩) := by
  refine cv_of Tryd.func10 rfl rfl rfl <| SQ <| RG <| AS rfl rfl <| ND <| SQ <| RG <| MV rfl rfl <| CV1 rfl fun_strconv_Itoa rfl (fun w hs => strconv_Itoa_6 w) <| AS rfl rfl <| ND <| ret_cv Tryd.func10 (res1 Tryd.func10 rfl (rv_tmp rfl)) <| ?_
  rfl

theorem impl_FormatInt_7 (w : World) : CV Tryd.prog 10 [.int .i64 7] w (.string ⟨#[55]⟩) := by
  refine cv_of Tryd.func10 rfl rfl rfl <| SQ <| RG <| AS rfl rfl <| ND <| SQ <| RG <| MV rfl rfl <| CV1 rfl fun_strconv_Itoa rfl (fun w hs => strconv_Itoa_7 w) <| AS rfl rfl <| ND <| ret_cv Tryd.func10 (res1 Tryd.func10 rfl (rv_tmp rfl)) <| ?_
  rfl

theorem impl_FormatInt (n : Int) (h : 0 ≤ n ∧ n ≤ 7) (w : World) : CV Tryd.prog 10 [.int .i64 n] w (.string ⟨[digit n].toArray⟩) := by
  rcases upto7 h with rfl | rfl | rfl | rfl | rfl | rfl | rfl | rfl
  · exact impl_FormatInt_0 w
  · exact impl_FormatInt_1 w
  · exact impl_FormatInt_2 w
  · exact impl_FormatInt_3 w
  · exact impl_FormatInt_4 w
  · exact impl_FormatInt_5 w
  · exact impl_FormatInt_6 w
  · exact impl_FormatInt_7 w

theorem impl_FormatPriority (p : Priority) (w : World) : CV Tryd.prog 6 [.agg p.cells.toArray] w (.string ⟨(formatPriority p).toArray⟩) := by
  refine cv_of Tryd.func6 rfl rfl rfl <| SQ <| RG <| BX [_, _] rfl rfl rfl <| fun b1 => AS rfl rfl <| ND <| SQ <| SQ <| RG <| LS (i := 0) [_, _] rfl tyS_impl_Priority rfl rfl rfl rfl <| CV1 rfl fun_impl_IsPriority rfl (fun w hs => impl_IsPriority _ w) <| NT rfl rfl <| ND <| ?_
  refine gw_cond rfl (fun h1 => ?_) (fun h1 => ?_)
  · replace h1 := of_not_T h1
    refine SQ <| RG <| AS rfl rfl <| ND <| ret_cv Tryd.func6 (res1 Tryd.func6 rfl (rv_tmp rfl)) <| ?_
    simp [formatPriority, h1]
  · replace h1 := of_not_F h1
    refine SK <| SQ <| RG <| FA rfl tyF_impl_Priority_0 rfl <| LD (i := 0) rfl tyP_int rfl rfl rfl <| CV1 rfl fun_impl_FormatInt rfl (fun w hs => impl_FormatInt _ (pri_ok h1) w) <| rw_catS rfl rfl rfl (by first | decide | (simp; done) | (simp; omega)) (by first | decide | (simp; done) | (simp; omega)) <| AS rfl rfl <| ND <| SQ <| SQ <| RG <| FA rfl tyF_impl_Priority_1 rfl <| LD (i := 0) rfl tyP_bool rfl rfl rfl <| ND <| ?_
    refine gw_cond rfl (fun h2 => ?_) (fun h2 => ?_)
    · refine RG <| MV rfl rfl <| rw_catS rfl rfl rfl (by first | decide | (simp; done) | (simp; omega)) (by first | decide | (simp; done) | (simp; omega)) <| AS rfl rfl <| ND <| SQ <| RG <| MV rfl rfl <| AS rfl rfl <| ND <| ret_cv Tryd.func6 (res1 Tryd.func6 rfl (rv_tmp rfl)) <| ?_
      simp [formatPriority, h1, h2]
    · refine SK <| SQ <| RG <| MV rfl rfl <| AS rfl rfl <| ND <| ret_cv Tryd.func6 (res1 Tryd.func6 rfl (rv_tmp rfl)) <| ?_
      simp [formatPriority, h1, h2]

theorem law_FnExactFormatPriority (a : Priority) (w : World) : CV Tryd.prog 3 [.agg a.cells.toArray] w (.bool true) := by
  refine cv_of Tryd.func3 rfl rfl rfl <| SQ <| RG <| BX [_, _] rfl rfl rfl <| fun b1 => AS rfl rfl <| ND <| SQ <| RG <| LS (i := 0) [_, _] rfl tyS_laws_Priority rfl rfl rfl rfl <| CV1 rfl fun_laws_toPriority rfl (fun w hs => laws_toPriority _ w) <| CV1 rfl fun_spec_FormatPriority rfl (fun w hs => spec_FormatPriority _ w) <| AS rfl rfl <| ND <| SQ <| RG <| LS (i := 0) [_, _] rfl tyS_laws_Priority rfl rfl rfl rfl <| CV1 rfl fun_laws_toPriority rfl (fun w hs => laws_toPriority _ w) <| CV1 rfl fun_impl_FormatPriority rfl (fun w hs => impl_FormatPriority _ w) <| ?_
  refine AS rfl rfl <| ND <| SQ <| SQ <| RG <| MV rfl rfl <| MV rfl rfl <| rw_neqSelfS rfl rfl rfl <| ND <| CF rfl rfl <| SK <| SQ <| RG <| AS rfl rfl <| ND <| ret_cv Tryd.func3 (res1 Tryd.func3 rfl (rv_tmp rfl)) <| ?_
  rfl
end Go.Proofs.YtajcfmibcnibpaaDoor
