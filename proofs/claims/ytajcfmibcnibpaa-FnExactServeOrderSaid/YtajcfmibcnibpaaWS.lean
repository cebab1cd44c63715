/- Walks: schedules. -/
import Derived.Test.YtajcfmibcnibpaaFactsS
import Derived.Test.YtajcfmibcnibpaaSched
namespace Go.Proofs.Ytajcfmibcnibpaa
open SL Go.RowKit
theorem laws_szCandidateS {w : World} {v : Value} {l : List Candidate} (hv : RdS w 3 (Pl Candidate.cells) v l) (n : Int) : CV Try.prog 7 [v, .int .i64 n] w (.int .i64 (szLen l n)) := by
  obtain ⟨A, c, rfl, hA⟩ := hv
  refine cv_of Try.func7 rfl rfl rfl <| SQ <| RG <| AS rfl rfl <| ND <| SQ <| RG <| MV rfl rfl <| MV rfl rfl <| rw_len rfl tyE_S_laws_Candidate rfl <| rw_sub rfl rfl rfl <| AS rfl rfl <| ND <| SQ <| SQ <| RG <| MV rfl rfl <| rw_lss rfl rfl rfl <| ND <| ?_
  refine gw_cond rfl (fun h1 => ?_) (fun h1 => ?_)
  · refine SQ <| RG <| AS rfl rfl <| ND <| ret_cv Try.func7 (res1 Try.func7 rfl (rv_tmp rfl)) <| ?_
    simp only [szLen, h1] <;> rfl
  · refine SK <| SQ <| RG <| MV rfl rfl <| AS rfl rfl <| ND <| ret_cv Try.func7 (res1 Try.func7 rfl (rv_tmp rfl)) <| ?_
    simp only [szLen, h1] <;> rfl

theorem laws_toPriority (a : Priority) (w : World) : CV Try.prog 64 [.agg a.cells.toArray] w (.agg a.cells.toArray) := by
  refine cv_of Try.func64 rfl rfl rfl <| SQ <| RG <| BX [_, _] rfl rfl rfl <| fun b1 => AL rfl tyZ_impl_Priority <| fun b2 => ND <| SQ <| RG <| AL rfl tyZ_impl_Priority <| fun b3 => ND <| SQ <| RG <| FA rfl tyF_laws_Priority_0 rfl <| LD (i := 2) rfl tyP_int rfl rfl rfl <| FA rfl tyF_impl_Priority_0 rfl <| ST (i := 0) [_] [_, _] tyP_int.sz rfl rfl rfl rfl rfl rfl rfl rfl <| ND <| SQ <| RG <| FA rfl tyF_laws_Priority_1 rfl <| LD (i := 2) rfl tyP_bool rfl rfl rfl <| FA rfl tyF_impl_Priority_1 rfl <| ?_
  refine ST (i := 0) [_] [_, _] tyP_bool.sz rfl rfl rfl rfl rfl rfl rfl rfl <| ND <| SQ <| RG <| LS (i := 0) [_, _] rfl tyS_impl_Priority rfl rfl rfl rfl <| ST (i := 1) [_, _] [_, _] tyS_impl_Priority.sz rfl rfl rfl rfl rfl rfl rfl rfl <| ND <| ret_cv Try.func64 (res1 Try.func64 rfl (rv_s (i := 1) [_, _] tyS_impl_Priority rfl rfl rfl rfl)) <| ?_
  rfl

theorem laws_toCandidate (a : Candidate) (w : World) : CV Try.prog 49 [.agg a.cells.toArray] w (.agg a.cells.toArray) := by
  refine cv_of Try.func49 rfl rfl rfl <| SQ <| RG <| BX [_, _, _] rfl rfl rfl <| fun b1 => AL rfl tyZ_impl_Candidate <| fun b2 => ND <| SQ <| RG <| AL rfl tyZ_impl_Candidate <| fun b3 => ND <| SQ <| RG <| FA rfl tyF_laws_Candidate_0 rfl <| LD (i := 2) rfl tyP_int rfl rfl rfl <| FA rfl tyF_impl_Candidate_0 rfl <| ST (i := 0) [_] [_, _, _] tyP_int.sz rfl rfl rfl rfl rfl rfl rfl rfl <| ND <| SQ <| RG <| FA rfl tyF_laws_Candidate_1 rfl <| LS (i := 2) [_, _] rfl tyS_laws_Priority rfl rfl rfl rfl <| ?_
  refine CV1 rfl fun_laws_toPriority rfl (fun w hs => laws_toPriority _ w) <| FA rfl tyF_impl_Candidate_1 rfl <| ST (i := 0) [_, _] [_, _, _] tyS_impl_Priority.sz rfl rfl rfl rfl rfl rfl rfl rfl <| ND <| SQ <| RG <| LS (i := 0) [_, _, _] rfl tyS_impl_Candidate rfl rfl rfl rfl <| ST (i := 1) [_, _, _] [_, _, _] tyS_impl_Candidate.sz rfl rfl rfl rfl rfl rfl rfl rfl <| ND <| ret_cv Try.func49 (res1 Try.func49 rfl (rv_s (i := 1) [_, _, _] tyS_impl_Candidate rfl rfl rfl rfl)) <| ?_
  rfl

theorem laws_toCandidateS {w : World} {v : Value} {l : List Candidate} (hv : RdS w 3 (Pl Candidate.cells) v l) (hb : l.length ≤ 134217728) : CN Try.prog 9 [v] w (fun v ch => OwS 65 3 (PlO Candidate.cells) v l ch) := by
  obtain ⟨A, c, rfl, hA⟩ := hv
  refine cn_of Try.func9 rfl rfl rfl <| SQ <| RG <| AS rfl rfl <| ND <| SQ <| RG <| MV rfl rfl <| rw_len rfl tyE_S_laws_Candidate rfl <| rw_make rfl tyM_S_impl_Candidate rfl rfl hb <| fun b1 => AS rfl rfl <| ND <| SQ <| SQ <| RG <| AS rfl rfl <| ND <| BK <| ?_
  refine gw_loopX (α := Nat × List Value × List Ck) (fun z_ => z_.1 ≤ l.length ∧ Ows (PlO Candidate.cells) (l.take z_.1) z_.2.1 z_.2.2) (fun z_ => l.length - z_.1) (fun e z_ => (4, .int .i64 (z_.1 : Int)) :: e) (fun B z_ => B.set 0 ⟨b1, 65, z_.2.1 ++ (List.replicate (l.length - z_.1) [.int .i64 0, .int .i64 0, .bool false]).flatten⟩) (fun F z_ => z_.2.2 ++ F) (0, [], []) [(0, _), (2, _), (3, _)] (Sub.consE rfl rfl (Sub.cons (i := 0) rfl (Sub.cons (i := 2) rfl (Sub.cons (i := 3) rfl (Sub.nil _))))) rfl rfl ?_ ?_
  · exact ⟨Nat.zero_le _, .nil⟩
  · rintro ⟨i, cs, chs⟩ hI1 ih1
    dsimp only at hI1
    dsimp only [List.set]
    obtain ⟨hle, hO⟩ := hI1
    refine SQ <| SQ <| RG <| MV rfl rfl <| MV rfl rfl <| rw_len rfl tyE_S_laws_Candidate rfl <| rw_lss rfl rfl rfl <| ND <| ?_
    refine gw_cond rfl (fun h1 => ?_) (fun h1 => ?_)
    · have hi2 := lt_of_dec h1
      obtain ⟨x3, hx3⟩ := get_of_lt hi2
      have hd3 := drop_cons hx3
      refine SK <| SQ <| BK <| RG <| MV rfl rfl <| MV rfl rfl <| MV rfl rfl <| MV rfl rfl <| ?_
      have hq4 := hA.plain hx3
      refine rw_indexAddr (i) rfl tyE_S_laws_Candidate rfl rfl rfl (hA.some hi2) hi2 <| rw_loadX_s [_, _, _] rfl tyS_laws_Candidate rfl rfl (fun w hs => hq4.lds0 (n := 3) hs rfl) <| CV1 rfl fun_laws_toCandidate rfl (fun w hs => laws_toCandidate _ w) <| rw_indexAddrO (i) rfl tyE_S_impl_Candidate rfl rfl rfl hi2 <| rw_storeMade (j := 0) [_, _, _] tyS_impl_Candidate.sz rfl rfl rfl rfl rfl rfl (by rw [hO.length eCandidate, List.length_take]; congr 1; omega) hi2 (eCandidate.one ⟨rfl, rfl⟩) <| ND <| IB <| RG <| MV rfl rfl <| rw_add rfl rfl rfl <| AS rfl rfl <| ?_
      refine ND <| ?_
      refine gw_sub (Sub.consE (i := 4) rfl (int_succ (by omega)) (Sub.cons (i := 0) rfl (Sub.cons (i := 2) rfl (Sub.cons (i := 3) rfl (Sub.nil _))))) (ih1 (i + 1, cs ++ (Candidate.cells x3), chs) ?_ ?_)
      · exact ⟨by omega, by simpa using ows_step hO hx3 (ch := []) ⟨rfl, rfl⟩⟩
      · show l.length - (i + 1) < l.length - i; omega
    · have hn5 := nil_of_dec h1
      refine EX rfl <| SQ <| RG <| MV rfl rfl <| AS rfl rfl <| ND <| ?_
      refine ret_cn (⟨b1, 65, cs ++ (List.replicate (l.length - i) [.int .i64 0, .int .i64 0, .bool false]).flatten⟩ :: chs) Try.func9 (res1 Try.func9 rfl (rv_tmp rfl)) ?_ ?_
      · exact ows_made eCandidate hO hle hn5 hb
      · simp

theorem spec_l1In (a b c : Int) (w : World) : CV Try.prog 58 [.int .i64 a, .int .i64 b, .int .i64 c] w (.bool (within a b c)) := by
  refine cv_of Try.func58 rfl rfl rfl <| SQ <| RG <| AS rfl rfl <| ND <| SQ <| RG <| MV rfl rfl <| MV rfl rfl <| rw_geq rfl rfl rfl <| MV rfl rfl <| ?_
  refine rw_case (j := 10) rfl (fun h1 => ?_) (fun h1 => ?_)
  · refine ON rfl rfl h1 <| MV rfl rfl <| ON rfl rfl h1 <| MV rfl rfl <| ON rfl rfl h1 <| rw_leq rfl rfl rfl <| PT rfl rfl h1 rfl <| AS rfl rfl <| ND <| ret_cv Try.func58 (res1 Try.func58 rfl (rv_tmp rfl)) <| ?_
    simp only [within, h1] <;> rfl
  · refine OF rfl rfl h1 rfl <| OF rfl rfl h1 rfl <| OF rfl rfl h1 rfl <| PF rfl rfl h1 rfl <| AS rfl rfl <| ND <| ret_cv Try.func58 (res1 Try.func58 rfl (rv_tmp rfl)) <| ?_
    simp only [within, h1] <;> rfl

theorem spec_l4Quic (a : Int) (w : World) : CV Try.prog 62 [.int .i64 a] w (.bool (isQuic a)) := by
  refine cv_of Try.func62 rfl rfl rfl <| SQ <| RG <| AS rfl rfl <| ND <| SQ <| RG <| MV rfl rfl <| CV1 rfl fun_spec_l1In rfl (fun w hs => spec_l1In _ _ _ w) <| AS rfl rfl <| ND <| ret_cv Try.func62 (res1 Try.func62 rfl (rv_tmp rfl)) <| ?_
  rfl

theorem spec_IsPriority (p : Priority) (w : World) : CV Try.prog 63 [.agg p.cells.toArray] w (.bool (isPriority p)) := by
  refine cv_of Try.func63 rfl rfl rfl <| SQ <| RG <| BX [_, _] rfl rfl rfl <| fun b1 => AS rfl rfl <| ND <| SQ <| RG <| FA rfl tyF_impl_Priority_0 rfl <| LD (i := 0) rfl tyP_int rfl rfl rfl <| CV1 rfl fun_spec_l1In rfl (fun w hs => spec_l1In _ _ _ w) <| AS rfl rfl <| ND <| ret_cv Try.func63 (res1 Try.func63 rfl (rv_tmp rfl)) <| ?_
  simp only [isPriority] <;> rfl

theorem spec_AreCandidates {w : World} {v : Value} {l : List Candidate} (hv : RdS w 3 (Pl Candidate.cells) v l) (hb : l.length ≤ 134217728) : CV Try.prog 48 [v] w (.bool (areCandidates l)) := by
  obtain ⟨A, c, rfl, hA⟩ := hv
  refine cv_of Try.func48 rfl rfl rfl <| SQ <| RG <| AS rfl rfl <| ND <| SQ <| SQ <| RG <| AS rfl rfl <| ND <| BK <| ?_
  refine gw_loopC (α := Nat) (fun z_ => z_ ≤ l.length ∧ areCandidates l = areFrom ((prevOf l z_).map (·.id)) (l.drop z_)) (fun z_ => l.length - z_) (fun e z_ => (3, .int .i64 (z_ : Int)) :: e) 0 [(0, _)] (Sub.consE rfl rfl (Sub.cons (i := 0) rfl (Sub.nil _))) ?_ ?_
  · exact ⟨Nat.zero_le _, rfl⟩
  · rintro i hI1 ih1
    try dsimp only
    obtain ⟨hle, hI⟩ := hI1
    refine SQ <| SQ <| RG <| MV rfl rfl <| MV rfl rfl <| rw_len rfl tyE_S_impl_Candidate rfl <| rw_lss rfl rfl rfl <| ND <| ?_
    refine gw_cond rfl (fun h1 => ?_) (fun h1 => ?_)
    · have hi2 := lt_of_dec h1
      obtain ⟨x3, hx3⟩ := get_of_lt hi2
      have hd3 := drop_cons hx3
      refine SK <| SQ <| BK <| SQ <| gw_draw' [(0, .det), (1, .det), (2, .det), (3, .det), (4, .det), (5, .det), (6, .det), (7, .det), (8, .det), (9, .det), (10, .det), (11, .det), (12, .det), (13, .det), (14, .det), (15, .det), (16, .det), (17, .det), (18, .det), (19, .det), (20, .det), (21, .det), (22, .det), (23, .det), (24, .det), (25, .det), (26, .det), (27, .det), (28, .det), (29, .det), (30, .det)] [31, 32, 33] mixed rfl (free_det (free_det (free_det (free_det (free_det (free_det (free_det (free_det (free_det (free_det (free_det (free_det (free_det (free_det (free_det (free_det (free_det (free_det (free_det (free_det (free_det (free_det (free_det (free_det (free_det (free_det (free_det (free_det (free_det (free_det (free_det free_nil))))))))))))))))))))))))))))))) (ts := [_, _, _]) rfl <| ?_
      refine DT rfl rfl (fun K hk => MV rfl rfl hk) <| DT rfl rfl (fun K hk => MV rfl rfl hk) <| ?_
      have hq4 := hA.plain hx3
      refine DT rfl rfl (fun K hk => rw_indexAddr (i) rfl tyE_S_impl_Candidate rfl rfl rfl (hA.some hi2) hi2 hk) <| DT rfl rfl (fun K hk => FX rfl tyF_impl_Candidate_0 rfl hk) <| DT rfl rfl (fun K hk => rw_loadX _ rfl tyP_int rfl (fun w hs => hq4.ld hs rfl) hk) <| DT rfl rfl (fun K hk => CV1 rfl fun_spec_l4Quic rfl (fun w hs => spec_l4Quic _ w) hk) <| DT rfl rfl (fun K hk => NT rfl rfl hk) <| DT rfl rfl (fun K hk => MV rfl rfl hk) <| ?_
      refine dw_case (i := 17) rfl (fun h2 => ?_) (fun h2 => ?_)
      · replace h2 := of_not_T h2
        refine DT rfl rfl (fun K hk => OF rfl rfl (not_F h2) rfl hk) <| DT rfl rfl (fun K hk => OF rfl rfl (not_F h2) rfl hk) <| DT rfl rfl (fun K hk => OF rfl rfl (not_F h2) rfl hk) <| DT rfl rfl (fun K hk => OF rfl rfl (not_F h2) rfl hk) <| DT rfl rfl (fun K hk => OF rfl rfl (not_F h2) rfl hk) <| DT rfl rfl (fun K hk => OF rfl rfl (not_F h2) rfl hk) <| DT rfl rfl (fun K hk => OF rfl rfl (not_F h2) rfl hk) <| DT rfl rfl (fun K hk => PT rfl rfl (not_F h2) rfl hk) <| DT rfl rfl (fun K hk => MV rfl rfl hk) <| ?_
        refine DT rfl rfl (fun K hk => OF rfl rfl rfl rfl hk) <| DT rfl rfl (fun K hk => OF rfl rfl rfl rfl hk) <| DT rfl rfl (fun K hk => OF rfl rfl rfl rfl hk) <| DT rfl rfl (fun K hk => OU rfl rfl rfl hk) <| DT rfl rfl (fun K hk => OU rfl rfl rfl hk) <| DT rfl rfl (fun K hk => OU rfl rfl rfl hk) <| DT rfl rfl (fun K hk => OU rfl rfl rfl hk) <| DT rfl rfl (fun K hk => OU rfl rfl rfl hk) <| DT rfl rfl (fun K hk => OU rfl rfl rfl hk) <| DT rfl rfl (fun K hk => OU rfl rfl rfl hk) <| ?_
        refine DT rfl rfl (fun K hk => OU rfl rfl rfl hk) <| DT rfl rfl (fun K hk => OU rfl rfl rfl hk) <| DT rfl rfl (fun K hk => OU rfl rfl rfl hk) <| DT rfl rfl (fun K hk => OU rfl rfl rfl hk) <| dw_nil <| OU rfl rfl rfl <| OF rfl rfl rfl rfl <| PT rfl rfl rfl rfl <| ND <| CT rfl rfl <| SQ <| RG <| AS rfl rfl <| ND <| ret_cv Try.func48 (res1 Try.func48 rfl (rv_tmp rfl)) <| ?_
        rw [hI, hd3]; simp [areFrom, h2]
      · replace h2 := of_not_F h2
        refine DT rfl rfl (fun K hk => ON rfl rfl (not_T h2) (MV rfl rfl hk)) <| DT rfl rfl (fun K hk => ON rfl rfl (not_T h2) (MV rfl rfl hk)) <| DT rfl rfl (fun K hk => ON rfl rfl (not_T h2) (rw_indexAddr (i) rfl tyE_S_impl_Candidate rfl rfl rfl (hA.some hi2) hi2 hk)) <| DT rfl rfl (fun K hk => ON rfl rfl (not_T h2) (FX rfl tyF_impl_Candidate_1 rfl hk)) <| DT rfl rfl (fun K hk => ON rfl rfl (not_T h2) (rw_loadX_s [_, _] rfl tyS_impl_Priority rfl rfl (fun w hs => hq4.lds (n := 2) hs rfl) hk)) <| ?_
        refine DT rfl rfl (fun K hk => ON rfl rfl (not_T h2) (CV1 rfl fun_spec_IsPriority rfl (fun w hs => spec_IsPriority _ w) hk)) <| DT rfl rfl (fun K hk => ON rfl rfl (not_T h2) (NT rfl rfl hk)) <| DT rfl rfl (fun K hk => PF rfl rfl (not_T h2) rfl hk) <| DT rfl rfl (fun K hk => MV rfl rfl hk) <| ?_
        refine dw_case (i := 26) rfl (fun h3 => ?_) (fun h3 => ?_)
        · replace h3 := of_not_T h3
          refine DT rfl rfl (fun K hk => OF rfl rfl (not_F h3) rfl hk) <| DT rfl rfl (fun K hk => OF rfl rfl (not_F h3) rfl hk) <| DT rfl rfl (fun K hk => OF rfl rfl (not_F h3) rfl hk) <| DT rfl rfl (fun K hk => OU rfl rfl rfl hk) <| DT rfl rfl (fun K hk => OU rfl rfl rfl hk) <| DT rfl rfl (fun K hk => OU rfl rfl rfl hk) <| DT rfl rfl (fun K hk => OU rfl rfl rfl hk) <| DT rfl rfl (fun K hk => OU rfl rfl rfl hk) <| DT rfl rfl (fun K hk => OU rfl rfl rfl hk) <| DT rfl rfl (fun K hk => OU rfl rfl rfl hk) <| ?_
          refine DT rfl rfl (fun K hk => OU rfl rfl rfl hk) <| DT rfl rfl (fun K hk => OU rfl rfl rfl hk) <| DT rfl rfl (fun K hk => OU rfl rfl rfl hk) <| DT rfl rfl (fun K hk => OU rfl rfl rfl hk) <| dw_nil <| OU rfl rfl rfl <| OF rfl rfl (not_F h3) rfl <| PT rfl rfl (not_F h3) rfl <| ND <| CT rfl rfl <| SQ <| RG <| AS rfl rfl <| ND <| ret_cv Try.func48 (res1 Try.func48 rfl (rv_tmp rfl)) <| ?_
          rw [hI, hd3]; simp [areFrom, h2, h3]
        · replace h3 := of_not_F h3
          refine DT rfl rfl (fun K hk => ON rfl rfl (not_T h3) (MV rfl rfl hk)) <| DT rfl rfl (fun K hk => ON rfl rfl (not_T h3) (rw_gtr rfl rfl rfl hk)) <| DT rfl rfl (fun K hk => ON rfl rfl (not_T h3) (MV rfl rfl hk)) <| ?_
          refine dw_case (i := 29) rfl (fun h4 => ?_) (fun h4 => ?_)
          · have hp5 := pos_of h4
            refine DT rfl rfl (fun K hk => ON rfl rfl h4 (MV rfl rfl hk)) <| DT rfl rfl (fun K hk => ON rfl rfl h4 (MV rfl rfl hk)) <| DT rfl rfl (fun K hk => ON rfl rfl h4 (rw_indexAddr (i) rfl tyE_S_impl_Candidate rfl rfl rfl (hA.some hi2) hi2 hk)) <| DT rfl rfl (fun K hk => ON rfl rfl h4 (FX rfl tyF_impl_Candidate_0 rfl hk)) <| DT rfl rfl (fun K hk => ON rfl rfl h4 (rw_loadX _ rfl tyP_int rfl (fun w hs => hq4.ld hs rfl) hk)) <| DT rfl rfl (fun K hk => ON rfl rfl h4 (MV rfl rfl hk)) <| ?_
            refine DT rfl rfl (fun K hk => ON rfl rfl h4 (MV rfl rfl hk)) <| DT rfl rfl (fun K hk => ON rfl rfl h4 (rw_sub rfl rfl rfl hk)) <| ?_
            have hi6 : i - 1 < l.length := by omega
            obtain ⟨x7, hx7⟩ := get_of_lt hi6
            have hd7 := drop_cons hx7
            have hq8 := hA.plain hx7
            refine DT rfl rfl (fun K hk => ON rfl rfl h4 (rw_indexAddr (i - 1) rfl tyE_S_impl_Candidate rfl rfl (pred_of h4 (by omega)) (hA.some hi6) hi6 hk)) <| DT rfl rfl (fun K hk => ON rfl rfl h4 (FX rfl tyF_impl_Candidate_0 rfl hk)) <| DT rfl rfl (fun K hk => ON rfl rfl h4 (rw_loadX _ rfl tyP_int rfl (fun w hs => hq8.ld hs rfl) hk)) <| dw_nil <| ON rfl rfl h4 <| rw_leq rfl rfl rfl <| ON rfl rfl (not_T h3) <| PT rfl rfl h4 rfl <| PF rfl rfl (not_T h3) rfl <| ND <| ?_
            refine gw_cond rfl (fun h5 => ?_) (fun h5 => ?_)
            · refine SQ <| RG <| AS rfl rfl <| ND <| ret_cv Try.func48 (res1 Try.func48 rfl (rv_tmp rfl)) <| ?_
              rw [hI, hd3]; simp [areFrom, h2, h3, h5, prevOf_pos hp5 hx7]
            · refine SK <| IB <| RG <| MV rfl rfl <| rw_add rfl rfl rfl <| AS rfl rfl <| ND <| ?_
              refine gw_sub (Sub.consE (i := 3) rfl (int_succ (by omega)) (Sub.cons (i := 0) rfl (Sub.nil _))) (ih1 (i + 1) ?_ ?_)
              · exact ⟨by omega, by rw [hI, hd3, prevOf_succ, hx3]; simp [areFrom, h2, h3, h5, prevOf_pos hp5 hx7]⟩
              · show l.length - (i + 1) < l.length - i; omega
          · have hz9 := zero_of h4
            refine DT rfl rfl (fun K hk => OF rfl rfl h4 rfl hk) <| DT rfl rfl (fun K hk => OF rfl rfl h4 rfl hk) <| DT rfl rfl (fun K hk => OF rfl rfl h4 rfl hk) <| DT rfl rfl (fun K hk => OF rfl rfl h4 rfl hk) <| DT rfl rfl (fun K hk => OF rfl rfl h4 rfl hk) <| DT rfl rfl (fun K hk => OF rfl rfl h4 rfl hk) <| DT rfl rfl (fun K hk => OF rfl rfl h4 rfl hk) <| DT rfl rfl (fun K hk => OF rfl rfl h4 rfl hk) <| DT rfl rfl (fun K hk => OF rfl rfl h4 rfl hk) <| DT rfl rfl (fun K hk => OF rfl rfl h4 rfl hk) <| ?_
            refine DT rfl rfl (fun K hk => OF rfl rfl h4 rfl hk) <| dw_nil <| OF rfl rfl h4 rfl <| ON rfl rfl (not_T h3) <| PF rfl rfl h4 rfl <| PF rfl rfl (not_T h3) rfl <| ND <| CF rfl rfl <| SK <| IB <| RG <| MV rfl rfl <| rw_add rfl rfl rfl <| AS rfl rfl <| ND <| ?_
            refine gw_sub (Sub.consE (i := 3) rfl (int_succ (by omega)) (Sub.cons (i := 0) rfl (Sub.nil _))) (ih1 (i + 1) ?_ ?_)
            · exact ⟨by omega, by rw [hI, hd3, prevOf_succ, hx3]; simp [areFrom, h2, h3, prevOf_z (l := l) hz9]⟩
            · show l.length - (i + 1) < l.length - i; omega
    · have hn10 := nil_of_dec h1
      refine EX rfl <| SQ <| RG <| AS rfl rfl <| ND <| ret_cv Try.func48 (res1 Try.func48 rfl (rv_tmp rfl)) <| ?_
      rw [hI, hn10]; rfl

theorem spec_MostUrgent_T {w : World} {v : Value} {l : List Candidate} (hv : RdS w 3 (Pl Candidate.cells) v l) (hb : l.length ≤ 134217728) (hc : areCandidates l = true) : CN Try.prog 8 [v] w (fun v ch => OwS 3 1 (PlO intC) v (mostUrgent l) ch) := by
  obtain ⟨A, c, rfl, hA⟩ := hv
  refine cn_of Try.func8 rfl rfl rfl <| SQ <| RG <| AS rfl rfl <| ND <| SQ <| RG <| rw_slice0 rfl tyM_S_int (PlO intC) <| fun v1 how1 => AS rfl rfl <| ND <| SQ <| RG <| AS rfl rfl <| ND <| SQ <| SQ <| RG <| AS rfl rfl <| ND <| BK <| ?_
  refine gw_loopX (α := Nat × Int × List Int × Value × List Ck) (fun z_ => z_.1 ≤ l.length ∧ z_.2.2.1.length ≤ z_.1 ∧ OwA 3 1 (PlO intC) z_.2.2.2.1 z_.2.2.1 z_.2.2.2.2 ∧ muFrom 8 [] l = muFrom z_.2.1 z_.2.2.1 (l.drop z_.1)) (fun z_ => l.length - z_.1) (fun e z_ => (5, .int .i64 (z_.1 : Int)) :: (4, .int .i64 z_.2.1) :: (3, z_.2.2.2.1) :: e) (fun B _ => B) (fun F z_ => z_.2.2.2.2 ++ F) (0, 8, [], v1, []) [(0, _), (2, _)] (Sub.consE rfl rfl (Sub.consE rfl rfl (Sub.consE rfl rfl (Sub.cons (i := 0) rfl (Sub.cons (i := 2) rfl (Sub.nil _)))))) rfl rfl ?_ ?_
  · exact ⟨Nat.zero_le _, Nat.le_refl _, how1, rfl⟩
  · rintro ⟨i, b, o, v, ch⟩ hI2 ih2
    dsimp only at hI2
    dsimp only
    obtain ⟨hle, hol, hO, hI⟩ := hI2
    refine SQ <| SQ <| RG <| MV rfl rfl <| MV rfl rfl <| rw_len rfl tyE_S_impl_Candidate rfl <| rw_lss rfl rfl rfl <| MV rfl rfl <| ?_
    refine rw_case (j := 11) rfl (fun h1 => ?_) (fun h1 => ?_)
    · have hi3 := lt_of_dec h1
      obtain ⟨x4, hx4⟩ := get_of_lt hi3
      have hd4 := drop_cons hx4
      refine ON rfl rfl h1 <| MV rfl rfl <| ON rfl rfl h1 <| CV1 rfl fun_spec_AreCandidates rfl (fun w hs => spec_AreCandidates (hA.s Pl.keeps hs) (by omega)) <| PT rfl rfl h1 rfl <| ND <| CT rfl hc <| SK <| SQ <| BK <| SQ <| SQ <| RG <| MV rfl rfl <| MV rfl rfl <| ?_
      have hq5 := hA.plain hx4
      refine rw_indexAddr (i) rfl tyE_S_impl_Candidate rfl rfl rfl (hA.some hi3) hi3 <| FX rfl tyF_impl_Candidate_1 rfl <| FX rfl tyF_impl_Priority_0 rfl <| rw_loadX _ rfl tyP_int rfl (fun w hs => hq5.ld2 hs rfl) <| MV rfl rfl <| rw_lss rfl rfl rfl <| ND <| ?_
      refine gw_cond rfl (fun h2 => ?_) (fun h2 => ?_)
      · refine SQ <| RG <| MV rfl rfl <| MV rfl rfl <| rw_indexAddr (i) rfl tyE_S_impl_Candidate rfl rfl rfl (hA.some hi3) hi3 <| FX rfl tyF_impl_Candidate_1 rfl <| FX rfl tyF_impl_Priority_0 rfl <| rw_loadX _ rfl tyP_int rfl (fun w hs => hq5.ld2 hs rfl) <| AS rfl rfl <| ND <| RG <| rw_slice0 rfl tyM_S_int (PlO intC) <| fun v6 how6 => AS rfl rfl <| ND <| SQ <| RG <| MV rfl rfl <| MV rfl rfl <| rw_indexAddr (i) rfl tyE_S_impl_Candidate rfl rfl rfl (hA.some hi3) hi3 <| FX rfl tyF_impl_Candidate_1 rfl <| ?_
        refine FX rfl tyF_impl_Priority_0 rfl <| rw_loadX _ rfl tyP_int rfl (fun w hs => hq5.ld2 hs rfl) <| MV rfl rfl <| EQ1 rfl rfl rfl <| ND <| CT rfl (beq_self_eq_true _) <| RG <| MV rfl rfl <| MV rfl rfl <| MV rfl rfl <| rw_indexAddr (i) rfl tyE_S_impl_Candidate rfl rfl rfl (hA.some hi3) hi3 <| FX rfl tyF_impl_Candidate_0 rfl <| rw_loadX _ rfl tyP_int rfl (fun w hs => hq5.ld hs rfl) <| rw_slice (xs := [(0, _)]) [_] rfl tyM_S_int rfl rfl rfl rfl <| fun b1 => rw_append1 (i := 0) (a := x4.id) rfl tyM_S_int eInt rfl rfl rfl how6 ⟨rfl, rfl⟩ (.refl _) (by first | omega | simp) <| fun v7 ch7 how7 => ?_
        refine AS rfl rfl <| ND <| IB <| RG <| MV rfl rfl <| rw_add rfl rfl rfl <| AS rfl rfl <| ND <| ?_
        refine gw_dropF (F' := ch7 ++ ([])) (List.Sublist.append_left (List.nil_sublist _) _) <| gw_dropN 1 <| ?_
        refine gw_sub (Sub.consE (i := 5) rfl (int_succ (by omega)) (Sub.consE (i := 4) rfl rfl (Sub.consE (i := 3) rfl rfl (Sub.cons (i := 0) rfl (Sub.cons (i := 2) rfl (Sub.nil _)))))) (ih2 (i + 1, x4.priority.urgency, [x4.id], v7, ch7) ?_ ?_)
        · exact ⟨by omega, (show 1 ≤ i + 1 by omega), how7, by rw [hI, hd4]; simp [muFrom, h2]⟩
        · show l.length - (i + 1) < l.length - i; omega
      · refine SK <| SQ <| RG <| MV rfl rfl <| MV rfl rfl <| rw_indexAddr (i) rfl tyE_S_impl_Candidate rfl rfl rfl (hA.some hi3) hi3 <| FX rfl tyF_impl_Candidate_1 rfl <| FX rfl tyF_impl_Priority_0 rfl <| rw_loadX _ rfl tyP_int rfl (fun w hs => hq5.ld2 hs rfl) <| MV rfl rfl <| EQ1 rfl rfl rfl <| ND <| ?_
        refine gw_cond rfl (fun h3 => ?_) (fun h3 => ?_)
        · refine RG <| MV rfl rfl <| MV rfl rfl <| MV rfl rfl <| rw_indexAddr (i) rfl tyE_S_impl_Candidate rfl rfl rfl (hA.some hi3) hi3 <| FX rfl tyF_impl_Candidate_0 rfl <| rw_loadX _ rfl tyP_int rfl (fun w hs => hq5.ld hs rfl) <| rw_slice (xs := [(0, _)]) [_] rfl tyM_S_int rfl rfl rfl rfl <| fun b2 => rw_append1 (i := 0) (a := x4.id) rfl tyM_S_int eInt rfl rfl rfl hO ⟨rfl, rfl⟩ (.refl _) (by first | omega | simp) <| fun v8 ch8 how8 => AS rfl rfl <| ND <| IB <| RG <| MV rfl rfl <| rw_add rfl rfl rfl <| AS rfl rfl <| ND <| gw_dropN 1 <| ?_
          refine gw_sub (Sub.consE (i := 5) rfl (int_succ (by omega)) (Sub.consE (i := 4) rfl rfl (Sub.consE (i := 3) rfl rfl (Sub.cons (i := 0) rfl (Sub.cons (i := 2) rfl (Sub.nil _)))))) (ih2 (i + 1, b, (o ++ [x4.id]), v8, ch8) ?_ ?_)
          · exact ⟨by omega, (show (o ++ [x4.id]).length ≤ i + 1 by rw [List.length_append]; simp only [List.length_singleton]; omega), how8, by rw [hI, hd4]; simp [muFrom, h2, h3]⟩
          · show l.length - (i + 1) < l.length - i; omega
        · refine SK <| IB <| RG <| MV rfl rfl <| rw_add rfl rfl rfl <| AS rfl rfl <| ND <| ?_
          refine gw_sub (Sub.consE (i := 5) rfl (int_succ (by omega)) (Sub.consE (i := 4) rfl rfl (Sub.consE (i := 3) rfl rfl (Sub.cons (i := 0) rfl (Sub.cons (i := 2) rfl (Sub.nil _)))))) (ih2 (i + 1, b, o, v, ch) ?_ ?_)
          · exact ⟨by omega, (show o.length ≤ i + 1 by omega), hO, by rw [hI, hd4]; simp [muFrom, h2, h3]⟩
          · show l.length - (i + 1) < l.length - i; omega
    · have hn9 := nil_of_dec h1
      refine OF rfl rfl h1 rfl <| OF rfl rfl h1 rfl <| PF rfl rfl h1 rfl <| ND <| CF rfl rfl <| EX rfl <| SQ <| RG <| MV rfl rfl <| AS rfl rfl <| ND <| ?_
      refine ret_cn ch Try.func8 (res1 Try.func8 rfl (rv_tmp rfl)) ?_ ?_
      · rw [← mostUrgent_s hc, hI, hn9]
        exact OwA.s hO
      · simp

theorem spec_MostUrgent_F {w : World} {v : Value} {l : List Candidate} (hv : RdS w 3 (Pl Candidate.cells) v l) (hb : l.length ≤ 134217728) (hc : areCandidates l = false) : CN Try.prog 8 [v] w (fun v ch => OwS 3 1 (PlO intC) v (mostUrgent l) ch) := by
  obtain ⟨A, c, rfl, hA⟩ := hv
  refine cn_of Try.func8 rfl rfl rfl <| SQ <| RG <| AS rfl rfl <| ND <| SQ <| RG <| rw_slice0 rfl tyM_S_int (PlO intC) <| fun v1 how1 => AS rfl rfl <| ND <| SQ <| RG <| AS rfl rfl <| ND <| SQ <| SQ <| RG <| AS rfl rfl <| ND <| BK <| gw_loop1 <| SQ <| SQ <| RG <| MV rfl rfl <| MV rfl rfl <| rw_len rfl tyE_S_impl_Candidate rfl <| rw_lss rfl rfl rfl <| MV rfl rfl <| ?_
  refine rw_case (j := 11) rfl (fun h1 => ?_) (fun h1 => ?_)
  · have hi2 := lt_of_dec h1
    obtain ⟨x3, hx3⟩ := get_of_lt hi2
    have hd3 := drop_cons hx3
    refine ON rfl rfl h1 <| MV rfl rfl <| ON rfl rfl h1 <| CV1 rfl fun_spec_AreCandidates rfl (fun w hs => spec_AreCandidates (hA.s Pl.keeps hs) (by omega)) <| PT rfl rfl h1 rfl <| ND <| CF rfl hc <| EX rfl <| SQ <| RG <| MV rfl rfl <| AS rfl rfl <| ND <| ?_
    refine ret_cn [] Try.func8 (res1 Try.func8 rfl (rv_tmp rfl)) ?_ ?_
    · have hm : mostUrgent l = [] := by simp [mostUrgent, hc]
      rw [hm]
      exact OwA.s how1
    · simp
  · have hn4 := nil_of_dec h1
    refine OF rfl rfl h1 rfl <| OF rfl rfl h1 rfl <| PF rfl rfl h1 rfl <| ND <| CF rfl rfl <| EX rfl <| SQ <| RG <| MV rfl rfl <| AS rfl rfl <| ND <| ?_
    refine ret_cn [] Try.func8 (res1 Try.func8 rfl (rv_tmp rfl)) ?_ ?_
    · have hm : mostUrgent l = [] := by simp [mostUrgent, hc]
      rw [hm]
      exact OwA.s how1
    · simp

theorem spec_MostUrgent {w : World} {v : Value} {l : List Candidate} (hv : RdS w 3 (Pl Candidate.cells) v l) (hb : l.length ≤ 134217728) : CN Try.prog 8 [v] w (fun v ch => OwS 3 1 (PlO intC) v (mostUrgent l) ch) := by
  cases hc : areCandidates l with
  | true => exact spec_MostUrgent_T hv hb hc
  | false => exact spec_MostUrgent_F hv hb hc

theorem spec_l14After {w : World} {v : Value} {l : List Int} (hv : RdS w 1 (Pl intC) v l) (hb : l.length ≤ 134217728) (last : Int) : CV Try.prog 53 [v, .int .i64 last] w (.int .i64 (nextId l last)) := by
  obtain ⟨A, c, rfl, hA⟩ := hv
  refine cv_of Try.func53 rfl rfl rfl <| SQ <| RG <| AS rfl rfl <| ND <| SQ <| SQ <| RG <| AS rfl rfl <| ND <| BK <| ?_
  refine gw_loopC (α := Nat) (fun z_ => z_ ≤ l.length ∧ after last l = after last (l.drop z_)) (fun z_ => l.length - z_) (fun e z_ => (5, .int .i64 (z_ : Int)) :: e) 0 [(0, _), (1, _)] (Sub.consE rfl rfl (Sub.cons (i := 0) rfl (Sub.cons (i := 1) rfl (Sub.nil _)))) ?_ ?_
  · exact ⟨Nat.zero_le _, rfl⟩
  · rintro i hI1 ih1
    try dsimp only
    obtain ⟨hle, hI⟩ := hI1
    refine SQ <| SQ <| RG <| MV rfl rfl <| MV rfl rfl <| rw_len rfl tyE_S_int rfl <| rw_lss rfl rfl rfl <| ND <| ?_
    refine gw_cond rfl (fun h1 => ?_) (fun h1 => ?_)
    · have hi2 := lt_of_dec h1
      obtain ⟨x3, hx3⟩ := get_of_lt hi2
      have hd3 := drop_cons hx3
      refine SK <| SQ <| BK <| SQ <| RG <| MV rfl rfl <| MV rfl rfl <| ?_
      have hq4 := hA.plain hx3
      refine rw_indexAddr (i) rfl tyE_S_int rfl rfl rfl (hA.some hi2) hi2 <| rw_loadX _ rfl tyP_int rfl (fun w hs => hq4.ld0 hs rfl) <| MV rfl rfl <| rw_gtr rfl rfl rfl <| ND <| ?_
      refine gw_cond rfl (fun h2 => ?_) (fun h2 => ?_)
      · refine SQ <| RG <| MV rfl rfl <| MV rfl rfl <| rw_indexAddr (i) rfl tyE_S_int rfl rfl rfl (hA.some hi2) hi2 <| rw_loadX _ rfl tyP_int rfl (fun w hs => hq4.ld0 hs rfl) <| AS rfl rfl <| ND <| ret_cv Try.func53 (res1 Try.func53 rfl (rv_tmp rfl)) <| ?_
        simp [nextId, hI, hd3, after, h2]
      · refine SK <| IB <| RG <| MV rfl rfl <| rw_add rfl rfl rfl <| AS rfl rfl <| ND <| ?_
        refine gw_sub (Sub.consE (i := 5) rfl (int_succ (by omega)) (Sub.cons (i := 0) rfl (Sub.cons (i := 1) rfl (Sub.nil _)))) (ih1 (i + 1) ?_ ?_)
        · exact ⟨by omega, by rw [hI, hd3]; simp [after, h2]⟩
        · show l.length - (i + 1) < l.length - i; omega
    · have hn5 := nil_of_dec h1
      refine EX rfl <| SQ <| SQ <| RG <| MV rfl rfl <| rw_len rfl tyE_S_int rfl <| EQ1 rfl rfl rfl <| ND <| ?_
      refine gw_cond rfl (fun h3 => ?_) (fun h3 => ?_)
      · have hnil6 := nil_of_eq h3
        refine SQ <| RG <| AS rfl rfl <| ND <| ret_cv Try.func53 (res1 Try.func53 rfl (rv_tmp rfl)) <| ?_
        subst hnil6; rfl
      · have hpos7 := pos_of_ne h3
        refine SK <| SQ <| RG <| MV rfl rfl <| ?_
        have hi8 : 0 < l.length := by omega
        obtain ⟨x9, hx9⟩ := get_of_lt hi8
        have hd9 := drop_cons hx9
        have hq10 := hA.plain hx9
        refine rw_indexAddr (0) rfl tyE_S_int rfl rfl rfl (hA.some hi8) hi8 <| rw_loadX _ rfl tyP_int rfl (fun w hs => hq10.ld0 hs rfl) <| AS rfl rfl <| ND <| ret_cv Try.func53 (res1 Try.func53 rfl (rv_tmp rfl)) <| ?_
        simp [nextId, hI, List.head?_eq_getElem?, after, hx9, hn5]

theorem spec_NextStream {w : World} {v : Value} {l : List Candidate} (hv : RdS w 3 (Pl Candidate.cells) v l) (hb : l.length ≤ 134217728) (last : Int) : CV Try.prog 16 [v, .int .i64 last] w (.int .i64 (nextStream l last)) := by
  obtain ⟨A, c, rfl, hA⟩ := hv
  have hml : (mostUrgent l).length ≤ l.length := mostUrgent_len l
  refine cv_of Try.func16 rfl rfl rfl <| SQ <| RG <| AS rfl rfl <| ND <| SQ <| RG <| MV rfl rfl <| CN1 rfl fun_spec_MostUrgent rfl (fun w hs => spec_MostUrgent (hA.s Pl.keeps hs) (by omega)) <| fun v1 ch1 how1 => ?_
  obtain ⟨R1, rc1, rfl, hR1, hrd1⟩ := how1.shape eInt
  refine AS rfl rfl <| ND <| SQ <| RG <| rw_slice0 rfl tyM_S_int (PlO intC) <| fun v2 how2 => AS rfl rfl <| ND <| SQ <| SQ <| RG <| AS rfl rfl <| ND <| BK <| ?_
  refine gw_loopX (α := Nat × List Int × Value × List Ck) (fun z_ => z_.1 ≤ l.length ∧ z_.2.1.length ≤ z_.1 ∧ OwA 3 1 (PlO intC) z_.2.2.1 z_.2.1 z_.2.2.2 ∧ nsS (mostUrgent l) last [] l = nsS (mostUrgent l) last z_.2.1 (l.drop z_.1)) (fun z_ => l.length - z_.1) (fun e z_ => (7, .int .i64 (z_.1 : Int)) :: (6, z_.2.2.1) :: e) (fun B _ => B) (fun F z_ => z_.2.2.2 ++ F) (0, [], v2, []) [(0, _), (1, _), (5, _)] (Sub.consE rfl rfl (Sub.consE rfl rfl (Sub.cons (i := 0) rfl (Sub.cons (i := 1) rfl (Sub.cons (i := 5) rfl (Sub.nil _)))))) rfl rfl ?_ ?_
  · exact ⟨Nat.zero_le _, Nat.le_refl _, how2, rfl⟩
  · rintro ⟨i, so, v, ch⟩ hI3 ih3
    dsimp only at hI3
    dsimp only
    obtain ⟨hle, hsl, hO, hI⟩ := hI3
    refine SQ <| SQ <| RG <| MV rfl rfl <| MV rfl rfl <| rw_len rfl tyE_S_impl_Candidate rfl <| rw_lss rfl rfl rfl <| ND <| ?_
    refine gw_cond rfl (fun h1 => ?_) (fun h1 => ?_)
    · have hi4 := lt_of_dec h1
      obtain ⟨x5, hx5⟩ := get_of_lt hi4
      have hd5 := drop_cons hx5
      refine SK <| SQ <| BK <| SQ <| RG <| AS rfl rfl <| ND <| BK <| ?_
      refine gw_loopX (α := Nat × Value × List Ck) (fun z_ => z_.1 ≤ (mostUrgent l).length ∧ OwA 3 1 (PlO intC) z_.2.1 (so ++ List.replicate (((mostUrgent l).take z_.1).count x5.id) x5.id) z_.2.2 ∧ (x5.priority.incremental = false → ((mostUrgent l).take z_.1).count x5.id = 0)) (fun z_ => (mostUrgent l).length - z_.1) (fun e z_ => (8, .int .i64 (z_.1 : Int)) :: (6, z_.2.1) :: e) (fun B _ => B) (fun F z_ => z_.2.2 ++ (ch1 ++ ([]))) (0, v, ch) [(0, _), (1, _), (5, _), (7, _), (12, _), (13, _), (14, _), (15, _)] (Sub.consE rfl rfl (Sub.consE rfl rfl (Sub.cons (i := 0) rfl (Sub.cons (i := 1) rfl (Sub.cons (i := 5) rfl (Sub.cons (i := 7) rfl (Sub.cons (i := 12) rfl (Sub.cons (i := 13) rfl (Sub.cons (i := 14) rfl (Sub.cons (i := 15) rfl (Sub.nil _))))))))))) rfl rfl ?_ ?_
      · exact ⟨Nat.zero_le _, by simpa using hO, fun _ => by simp⟩
      · rintro ⟨k, v2, ch2⟩ hI6 ih6
        dsimp only at hI6
        dsimp only
        obtain ⟨hle2, hO2, hz⟩ := hI6
        refine SQ <| SQ <| RG <| MV rfl rfl <| MV rfl rfl <| rw_len rfl tyE_S_int rfl <| rw_lss rfl rfl rfl <| ND <| ?_
        refine gw_cond rfl (fun h2 => ?_) (fun h2 => ?_)
        · have hi7 := lt_of_dec h2
          obtain ⟨x8, hx8⟩ := get_of_lt hi7
          have hd8 := drop_cons hx8
          refine SK <| SQ <| BK <| SQ <| SQ <| gw_draw' [(0, .det), (1, .det), (2, .det), (3, .det), (4, .det), (5, .det), (6, .det), (7, .det), (8, .det), (9, .det), (10, .det), (11, .det), (12, .det)] [13, 14, 15, 16, 17, 18] mixed rfl (free_det (free_det (free_det (free_det (free_det (free_det (free_det (free_det (free_det (free_det (free_det (free_det (free_det free_nil))))))))))))) (ts := [_, _, _, _, _, _]) rfl <| DT rfl rfl (fun K hk => MV rfl rfl hk) <| DT rfl rfl (fun K hk => MV rfl rfl hk) <| DT rfl rfl (fun K hk => rw_indexAddr (k) rfl tyE_S_int rfl rfl rfl (hR1 (Nat.zero_lt_of_lt hi7)) hi7 hk) <| ?_
          refine DT rfl rfl (fun K hk => rw_loadX _ rfl tyP_int rfl (fun w hs => ((hrd1 _ (fun c hc => hs.at_ c (List.mem_append_right _ (List.mem_append_right _ (List.mem_append_left _ hc))))).plain hx8).cell0 rfl) hk) <| DT rfl rfl (fun K hk => MV rfl rfl hk) <| DT rfl rfl (fun K hk => MV rfl rfl hk) <| ?_
          have hq9 := hA.plain hx5
          refine DT rfl rfl (fun K hk => rw_indexAddr (i) rfl tyE_S_impl_Candidate rfl rfl rfl (hA.some hi4) hi4 hk) <| DT rfl rfl (fun K hk => FX rfl tyF_impl_Candidate_0 rfl hk) <| DT rfl rfl (fun K hk => rw_loadX _ rfl tyP_int rfl (fun w hs => hq9.ld hs rfl) hk) <| DT rfl rfl (fun K hk => EQ1 rfl rfl rfl hk) <| DT rfl rfl (fun K hk => MV rfl rfl hk) <| ?_
          refine dw_case (i := 34) rfl (fun h3 => ?_) (fun h3 => ?_)
          · refine DT rfl rfl (fun K hk => ON rfl rfl h3 (MV rfl rfl hk)) <| DT rfl rfl (fun K hk => ON rfl rfl h3 (MV rfl rfl hk)) <| dw_nil <| ON rfl rfl h3 <| rw_indexAddr (i) rfl tyE_S_impl_Candidate rfl rfl rfl (hA.some hi4) hi4 <| ON rfl rfl h3 <| FX rfl tyF_impl_Candidate_1 rfl <| ON rfl rfl h3 <| FX rfl tyF_impl_Priority_1 rfl <| ON rfl rfl h3 <| rw_loadX _ rfl tyP_bool rfl (fun w hs => hq9.ld2 hs rfl) <| ON rfl rfl h3 <| NT rfl rfl <| PT rfl rfl h3 rfl <| ND <| ?_
            refine gw_cond rfl (fun h4 => ?_) (fun h4 => ?_)
            · replace h4 := of_not_T h4
              refine SQ <| RG <| MV rfl rfl <| MV rfl rfl <| rw_indexAddr (i) rfl tyE_S_impl_Candidate rfl rfl rfl (hA.some hi4) hi4 <| FX rfl tyF_impl_Candidate_0 rfl <| rw_loadX _ rfl tyP_int rfl (fun w hs => hq9.ld hs rfl) <| AS rfl rfl <| ND <| ret_cv Try.func16 (res1 Try.func16 rfl (rv_tmp rfl)) <| ?_
              have he : x8 = x5.id := by simpa using h3
              have hp : 0 < (mostUrgent l).count x5.id := List.count_pos_iff.2 (he ▸ List.mem_of_getElem? hx8)
              rw [← nextStream_s, hI, hd5]; simp [nsS, hp, h4]
            · replace h4 := of_not_F h4
              refine SK <| SQ <| gw_draw' [(0, .det), (1, .det), (2, .det), (3, .det), (4, .det), (5, .det), (6, .det), (7, .det), (8, .det)] [9] mixed rfl (free_det (free_det (free_det (free_det (free_det (free_det (free_det (free_det (free_det free_nil))))))))) (ts := [_]) rfl <| DT rfl rfl (fun K hk => MV rfl rfl hk) <| DT rfl rfl (fun K hk => MV rfl rfl hk) <| DT rfl rfl (fun K hk => rw_indexAddr (k) rfl tyE_S_int rfl rfl rfl (hR1 (Nat.zero_lt_of_lt hi7)) hi7 hk) <| DT rfl rfl (fun K hk => rw_loadX _ rfl tyP_int rfl (fun w hs => ((hrd1 _ (fun c hc => hs.at_ c (List.mem_append_right _ (List.mem_append_right _ (List.mem_append_left _ hc))))).plain hx8).cell0 rfl) hk) <| ?_
              refine DT rfl rfl (fun K hk => MV rfl rfl hk) <| DT rfl rfl (fun K hk => MV rfl rfl hk) <| DT rfl rfl (fun K hk => rw_indexAddr (i) rfl tyE_S_impl_Candidate rfl rfl rfl (hA.some hi4) hi4 hk) <| DT rfl rfl (fun K hk => FX rfl tyF_impl_Candidate_0 rfl hk) <| DT rfl rfl (fun K hk => rw_loadX _ rfl tyP_int rfl (fun w hs => hq9.ld hs rfl) hk) <| dw_nil <| EQ1 rfl rfl rfl <| ND <| CT rfl h3 <| RG <| MV rfl rfl <| MV rfl rfl <| MV rfl rfl <| rw_indexAddr (i) rfl tyE_S_impl_Candidate rfl rfl rfl (hA.some hi4) hi4 <| ?_
              refine FX rfl tyF_impl_Candidate_0 rfl <| rw_loadX _ rfl tyP_int rfl (fun w hs => hq9.ld hs rfl) <| rw_slice (xs := [(0, _)]) [_] rfl tyM_S_int rfl rfl rfl rfl <| fun b1 => rw_append1 (i := 0) (a := x5.id) rfl tyM_S_int eInt rfl rfl rfl hO2 ⟨rfl, rfl⟩ (.refl _) (by have he : x8 = x5.id := (by simpa using h3); have h1 := count_le_one (mostUrgent_nodup l) x5.id; have h2 := count_take_le (mostUrgent l) (k + 1) x5.id; rw [count_take (he ▸ hx8)] at h2; simp only [List.length_append, List.length_replicate]; omega) <| fun v10 ch10 how10 => AS rfl rfl <| ND <| IB <| RG <| MV rfl rfl <| ?_
              refine rw_add rfl rfl rfl <| AS rfl rfl <| ND <| gw_dropN 1 <| ?_
              refine gw_sub (Sub.consE (i := 8) rfl (int_succ (by omega)) (Sub.consE (i := 6) rfl rfl (Sub.cons (i := 0) rfl (Sub.cons (i := 1) rfl (Sub.cons (i := 5) rfl (Sub.cons (i := 7) rfl (Sub.cons (i := 12) rfl (Sub.cons (i := 13) rfl (Sub.cons (i := 14) rfl (Sub.cons (i := 15) rfl (Sub.nil _))))))))))) (ih6 (k + 1, v10, ch10) ?_ ?_)
              · have he : x8 = x5.id := by simpa using h3
                rw [count_take (he ▸ hx8)]
                exact ⟨by omega, by rw [List.replicate_succ', ← List.append_assoc]; exact how10, fun hf => by rw [h4] at hf; cases hf⟩
              · show (mostUrgent l).length - (k + 1) < (mostUrgent l).length - k; omega
          · refine DT rfl rfl (fun K hk => OF rfl rfl h3 rfl hk) <| DT rfl rfl (fun K hk => OF rfl rfl h3 rfl hk) <| dw_nil <| OF rfl rfl h3 rfl <| OF rfl rfl h3 rfl <| OF rfl rfl h3 rfl <| OF rfl rfl h3 rfl <| OF rfl rfl h3 rfl <| PF rfl rfl h3 rfl <| ND <| CF rfl rfl <| SK <| SQ <| gw_draw' [(0, .det), (1, .det), (2, .det), (3, .det), (4, .det), (5, .det), (6, .det), (7, .det), (8, .det)] [9] mixed rfl (free_det (free_det (free_det (free_det (free_det (free_det (free_det (free_det (free_det free_nil))))))))) (ts := [_]) rfl <| DT rfl rfl (fun K hk => MV rfl rfl hk) <| ?_
            refine DT rfl rfl (fun K hk => MV rfl rfl hk) <| DT rfl rfl (fun K hk => rw_indexAddr (k) rfl tyE_S_int rfl rfl rfl (hR1 (Nat.zero_lt_of_lt hi7)) hi7 hk) <| DT rfl rfl (fun K hk => rw_loadX _ rfl tyP_int rfl (fun w hs => ((hrd1 _ (fun c hc => hs.at_ c (List.mem_append_right _ (List.mem_append_right _ (List.mem_append_left _ hc))))).plain hx8).cell0 rfl) hk) <| DT rfl rfl (fun K hk => MV rfl rfl hk) <| DT rfl rfl (fun K hk => MV rfl rfl hk) <| DT rfl rfl (fun K hk => rw_indexAddr (i) rfl tyE_S_impl_Candidate rfl rfl rfl (hA.some hi4) hi4 hk) <| ?_
            refine DT rfl rfl (fun K hk => FX rfl tyF_impl_Candidate_0 rfl hk) <| DT rfl rfl (fun K hk => rw_loadX _ rfl tyP_int rfl (fun w hs => hq9.ld hs rfl) hk) <| dw_nil <| EQ1 rfl rfl rfl <| ND <| CF rfl h3 <| SK <| IB <| RG <| MV rfl rfl <| rw_add rfl rfl rfl <| AS rfl rfl <| ND <| ?_
            refine gw_sub (Sub.consE (i := 8) rfl (int_succ (by omega)) (Sub.consE (i := 6) rfl rfl (Sub.cons (i := 0) rfl (Sub.cons (i := 1) rfl (Sub.cons (i := 5) rfl (Sub.cons (i := 7) rfl (Sub.cons (i := 12) rfl (Sub.cons (i := 13) rfl (Sub.cons (i := 14) rfl (Sub.cons (i := 15) rfl (Sub.nil _))))))))))) (ih6 (k + 1, v2, ch2) ?_ ?_)
            · rw [count_take_ne hx8 h3]
              exact ⟨by omega, hO2, hz⟩
            · show (mostUrgent l).length - (k + 1) < (mostUrgent l).length - k; omega
        · have hn11 := nil_of_dec h2
          refine EX rfl <| IB <| RG <| MV rfl rfl <| rw_add rfl rfl rfl <| AS rfl rfl <| ND <| ?_
          refine gw_sub (Sub.consE (i := 7) rfl (int_succ (by omega)) (Sub.consE (i := 6) rfl rfl (Sub.cons (i := 0) rfl (Sub.cons (i := 1) rfl (Sub.cons (i := 5) rfl (Sub.nil _)))))) (ih3 (i + 1, so ++ List.replicate ((mostUrgent l).count x5.id) x5.id, v2, ch2) ?_ ?_)
          · rw [take_all hn11] at hO2 hz
            have hc1 := count_le_one (mostUrgent_nodup l) x5.id
            refine ⟨by omega, by simp only [List.length_append, List.length_replicate]; omega, hO2, ?_⟩
            rw [hI, hd5]
            cases hic : x5.priority.incremental with
            | false => have h0 := hz hic; simp [nsS, hic, h0]
            | true => simp [nsS, hic]
          · show l.length - (i + 1) < l.length - i; omega
    · have hn12 := nil_of_dec h1
      refine EX rfl <| SQ <| RG <| MV rfl rfl <| MV rfl rfl <| CV1 rfl fun_spec_l14After rfl (fun w hs => spec_l14After ((OwA.s hO).rdH eInt hs (fun c hc => List.mem_append_right _ (List.mem_append_left _ hc))) (by omega) _) <| AS rfl rfl <| ND <| ret_cv Try.func16 (res1 Try.func16 rfl (rv_tmp rfl)) <| ?_
      rw [← nextStream_s, hI, hn12]; rfl

theorem impl_within (a b c : Int) (w : World) : CV Try.prog 57 [.int .i64 a, .int .i64 b, .int .i64 c] w (.bool (within a b c)) := by
  refine cv_of Try.func57 rfl rfl rfl <| SQ <| RG <| AS rfl rfl <| ND <| SQ <| RG <| MV rfl rfl <| MV rfl rfl <| rw_leq rfl rfl rfl <| MV rfl rfl <| ?_
  refine rw_case (j := 10) rfl (fun h1 => ?_) (fun h1 => ?_)
  · refine ON rfl rfl h1 <| MV rfl rfl <| ON rfl rfl h1 <| MV rfl rfl <| ON rfl rfl h1 <| rw_leq rfl rfl rfl <| PT rfl rfl h1 rfl <| AS rfl rfl <| ND <| ret_cv Try.func57 (res1 Try.func57 rfl (rv_tmp rfl)) <| ?_
    simp only [within, h1] <;> rfl
  · refine OF rfl rfl h1 rfl <| OF rfl rfl h1 rfl <| OF rfl rfl h1 rfl <| PF rfl rfl h1 rfl <| AS rfl rfl <| ND <| ret_cv Try.func57 (res1 Try.func57 rfl (rv_tmp rfl)) <| ?_
    simp only [within, h1] <;> rfl

theorem impl_isQuic (a : Int) (w : World) : CV Try.prog 65 [.int .i64 a] w (.bool (isQuic a)) := by
  refine cv_of Try.func65 rfl rfl rfl <| SQ <| RG <| AS rfl rfl <| ND <| SQ <| RG <| MV rfl rfl <| CV1 rfl fun_impl_within rfl (fun w hs => impl_within _ _ _ w) <| AS rfl rfl <| ND <| ret_cv Try.func65 (res1 Try.func65 rfl (rv_tmp rfl)) <| ?_
  rfl

theorem impl_IsPriority (p : Priority) (w : World) : CV Try.prog 66 [.agg p.cells.toArray] w (.bool (isPriority p)) := by
  refine cv_of Try.func66 rfl rfl rfl <| SQ <| RG <| BX [_, _] rfl rfl rfl <| fun b1 => AS rfl rfl <| ND <| SQ <| RG <| FA rfl tyF_impl_Priority_0 rfl <| LD (i := 0) rfl tyP_int rfl rfl rfl <| CV1 rfl fun_impl_within rfl (fun w hs => impl_within _ _ _ w) <| AS rfl rfl <| ND <| ret_cv Try.func66 (res1 Try.func66 rfl (rv_tmp rfl)) <| ?_
  simp only [isPriority] <;> rfl

theorem impl_AreCandidates {w : World} {v : Value} {l : List Candidate} (hv : RdS w 3 (Pl Candidate.cells) v l) (hb : l.length ≤ 134217728) : CV Try.prog 50 [v] w (.bool (areCandidates l)) := by
  obtain ⟨A, c, rfl, hA⟩ := hv
  refine cv_of Try.func50 rfl rfl rfl <| SQ <| RG <| AS rfl rfl <| ND <| SQ <| SQ <| RG <| MV rfl rfl <| rw_len rfl tyE_S_impl_Candidate rfl <| MV rfl rfl <| ND <| BK <| ?_
  refine gw_loopC (α := Nat) (fun z_ => z_ ≤ l.length ∧ areCandidates l = areFrom ((prevOf l z_).map (·.id)) (l.drop z_)) (fun z_ => l.length - z_) (fun e z_ => (7, .int .i64 (z_ : Int)) :: e) 0 [(0, _), (5, _), (6, _)] (Sub.consE rfl rfl (Sub.cons (i := 0) rfl (Sub.cons (i := 5) rfl (Sub.cons (i := 6) rfl (Sub.nil _))))) ?_ ?_
  · exact ⟨Nat.zero_le _, rfl⟩
  · rintro i hI1 ih1
    try dsimp only
    obtain ⟨hle, hI⟩ := hI1
    refine SQ <| RG <| rw_lss rfl rfl rfl <| ND <| SQ <| ?_
    refine gw_cond rfl (fun h1 => ?_) (fun h1 => ?_)
    · have hi2 := lt_of_dec h1
      obtain ⟨x3, hx3⟩ := get_of_lt hi2
      have hd3 := drop_cons hx3
      refine SK <| SQ <| BK <| SQ <| RG <| MV rfl rfl <| ?_
      have hq4 := hA.plain hx3
      refine rw_indexAddr (i) rfl tyE_S_impl_Candidate rfl rfl rfl (hA.some hi2) hi2 <| rw_loadX_s [_, _, _] rfl tyS_impl_Candidate rfl rfl (fun w hs => hq4.lds0 (n := 3) hs rfl) <| AL rfl tyZ_impl_Candidate <| fun b1 => AS rfl rfl <| ST (i := 0) [_, _, _] [_, _, _] tyS_impl_Candidate.sz rfl rfl rfl rfl rfl rfl rfl rfl <| ND <| SQ <| gw_draw' [(0, .det), (1, .det), (2, .det), (3, .det), (4, .det), (5, .det), (6, .det), (7, .det), (8, .det), (9, .det), (10, .det), (11, .det), (12, .det), (13, .det), (14, .det), (15, .det), (16, .det), (17, .det), (18, .det), (19, .det), (20, .det), (21, .det)] [22, 23, 24] mixed rfl (free_det (free_det (free_det (free_det (free_det (free_det (free_det (free_det (free_det (free_det (free_det (free_det (free_det (free_det (free_det (free_det (free_det (free_det (free_det (free_det (free_det (free_det free_nil)))))))))))))))))))))) (ts := [_, _, _]) rfl <| ?_
      refine DT rfl rfl (fun K hk => FA rfl tyF_impl_Candidate_0 rfl hk) <| DT rfl rfl (fun K hk => LD (i := 0) rfl tyP_int rfl rfl rfl hk) <| DT rfl rfl (fun K hk => CV1 rfl fun_impl_isQuic rfl (fun w hs => impl_isQuic _ w) hk) <| DT rfl rfl (fun K hk => NT rfl rfl hk) <| DT rfl rfl (fun K hk => MV rfl rfl hk) <| ?_
      refine dw_case (i := 16) rfl (fun h2 => ?_) (fun h2 => ?_)
      · replace h2 := of_not_T h2
        refine DT rfl rfl (fun K hk => OF rfl rfl (not_F h2) rfl hk) <| DT rfl rfl (fun K hk => OF rfl rfl (not_F h2) rfl hk) <| DT rfl rfl (fun K hk => OF rfl rfl (not_F h2) rfl hk) <| DT rfl rfl (fun K hk => OF rfl rfl (not_F h2) rfl hk) <| DT rfl rfl (fun K hk => PT rfl rfl (not_F h2) rfl hk) <| DT rfl rfl (fun K hk => MV rfl rfl hk) <| DT rfl rfl (fun K hk => OF rfl rfl rfl rfl hk) <| DT rfl rfl (fun K hk => OF rfl rfl rfl rfl hk) <| DT rfl rfl (fun K hk => OF rfl rfl rfl rfl hk) <| DT rfl rfl (fun K hk => OU rfl rfl rfl hk) <| ?_
        refine DT rfl rfl (fun K hk => OU rfl rfl rfl hk) <| DT rfl rfl (fun K hk => OU rfl rfl rfl hk) <| DT rfl rfl (fun K hk => OU rfl rfl rfl hk) <| DT rfl rfl (fun K hk => OU rfl rfl rfl hk) <| DT rfl rfl (fun K hk => OU rfl rfl rfl hk) <| DT rfl rfl (fun K hk => OU rfl rfl rfl hk) <| DT rfl rfl (fun K hk => OU rfl rfl rfl hk) <| dw_nil <| OU rfl rfl rfl <| OF rfl rfl rfl rfl <| PT rfl rfl rfl rfl <| ND <| CT rfl rfl <| SQ <| RG <| AS rfl rfl <| ND <| ret_cv Try.func50 (res1 Try.func50 rfl (rv_tmp rfl)) <| ?_
        rw [hI, hd3]; simp [areFrom, h2]
      · replace h2 := of_not_F h2
        refine DT rfl rfl (fun K hk => ON rfl rfl (not_T h2) (FA rfl tyF_impl_Candidate_1 rfl hk)) <| DT rfl rfl (fun K hk => ON rfl rfl (not_T h2) (LS (i := 0) [_, _] rfl tyS_impl_Priority rfl rfl rfl rfl hk)) <| DT rfl rfl (fun K hk => ON rfl rfl (not_T h2) (CV1 rfl fun_impl_IsPriority rfl (fun w hs => impl_IsPriority _ w) hk)) <| DT rfl rfl (fun K hk => ON rfl rfl (not_T h2) (NT rfl rfl hk)) <| DT rfl rfl (fun K hk => PF rfl rfl (not_T h2) rfl hk) <| DT rfl rfl (fun K hk => MV rfl rfl hk) <| ?_
        refine dw_case (i := 22) rfl (fun h3 => ?_) (fun h3 => ?_)
        · replace h3 := of_not_T h3
          refine DT rfl rfl (fun K hk => OF rfl rfl (not_F h3) rfl hk) <| DT rfl rfl (fun K hk => OF rfl rfl (not_F h3) rfl hk) <| DT rfl rfl (fun K hk => OF rfl rfl (not_F h3) rfl hk) <| DT rfl rfl (fun K hk => OU rfl rfl rfl hk) <| DT rfl rfl (fun K hk => OU rfl rfl rfl hk) <| DT rfl rfl (fun K hk => OU rfl rfl rfl hk) <| DT rfl rfl (fun K hk => OU rfl rfl rfl hk) <| DT rfl rfl (fun K hk => OU rfl rfl rfl hk) <| DT rfl rfl (fun K hk => OU rfl rfl rfl hk) <| DT rfl rfl (fun K hk => OU rfl rfl rfl hk) <| ?_
          refine DT rfl rfl (fun K hk => OU rfl rfl rfl hk) <| dw_nil <| OU rfl rfl rfl <| OF rfl rfl (not_F h3) rfl <| PT rfl rfl (not_F h3) rfl <| ND <| CT rfl rfl <| SQ <| RG <| AS rfl rfl <| ND <| ret_cv Try.func50 (res1 Try.func50 rfl (rv_tmp rfl)) <| ?_
          rw [hI, hd3]; simp [areFrom, h2, h3]
        · replace h3 := of_not_F h3
          refine DT rfl rfl (fun K hk => ON rfl rfl (not_T h3) (MV rfl rfl hk)) <| DT rfl rfl (fun K hk => ON rfl rfl (not_T h3) (rw_gtr rfl rfl rfl hk)) <| DT rfl rfl (fun K hk => ON rfl rfl (not_T h3) (MV rfl rfl hk)) <| ?_
          refine dw_case (i := 25) rfl (fun h4 => ?_) (fun h4 => ?_)
          · have hp5 := pos_of h4
            refine DT rfl rfl (fun K hk => ON rfl rfl h4 (MV rfl rfl hk)) <| DT rfl rfl (fun K hk => ON rfl rfl h4 (MV rfl rfl hk)) <| DT rfl rfl (fun K hk => ON rfl rfl h4 (rw_sub rfl rfl rfl hk)) <| ?_
            have hi6 : i - 1 < l.length := by omega
            obtain ⟨x7, hx7⟩ := get_of_lt hi6
            have hd7 := drop_cons hx7
            have hq8 := hA.plain hx7
            refine DT rfl rfl (fun K hk => ON rfl rfl h4 (rw_indexAddr (i - 1) rfl tyE_S_impl_Candidate rfl rfl (pred_of h4 (by omega)) (hA.some hi6) hi6 hk)) <| DT rfl rfl (fun K hk => ON rfl rfl h4 (FX rfl tyF_impl_Candidate_0 rfl hk)) <| DT rfl rfl (fun K hk => ON rfl rfl h4 (rw_loadX _ rfl tyP_int rfl (fun w hs => hq8.ld hs rfl) hk)) <| DT rfl rfl (fun K hk => ON rfl rfl h4 (FA rfl tyF_impl_Candidate_0 rfl hk)) <| DT rfl rfl (fun K hk => ON rfl rfl h4 (LD (i := 0) rfl tyP_int rfl rfl rfl hk)) <| ?_
            refine dw_nil <| ON rfl rfl h4 <| rw_geq rfl rfl rfl <| ON rfl rfl (not_T h3) <| PT rfl rfl h4 rfl <| PF rfl rfl (not_T h3) rfl <| ND <| ?_
            refine gw_cond rfl (fun h5 => ?_) (fun h5 => ?_)
            · refine SQ <| RG <| AS rfl rfl <| ND <| ret_cv Try.func50 (res1 Try.func50 rfl (rv_tmp rfl)) <| ?_
              rw [hI, hd3]; simp [areFrom, h2, h3, h5, prevOf_pos hp5 hx7]
            · refine SK <| IB <| RG <| rw_add rfl rfl rfl <| MV rfl rfl <| ND <| gw_dropN 1 <| ?_
              refine gw_sub (Sub.consE (i := 7) rfl (int_succ (by omega)) (Sub.cons (i := 0) rfl (Sub.cons (i := 5) rfl (Sub.cons (i := 6) rfl (Sub.nil _))))) (ih1 (i + 1) ?_ ?_)
              · exact ⟨by omega, by rw [hI, hd3, prevOf_succ, hx3]; simp [areFrom, h2, h3, h5, prevOf_pos hp5 hx7]⟩
              · show l.length - (i + 1) < l.length - i; omega
          · have hz9 := zero_of h4
            refine DT rfl rfl (fun K hk => OF rfl rfl h4 rfl hk) <| DT rfl rfl (fun K hk => OF rfl rfl h4 rfl hk) <| DT rfl rfl (fun K hk => OF rfl rfl h4 rfl hk) <| DT rfl rfl (fun K hk => OF rfl rfl h4 rfl hk) <| DT rfl rfl (fun K hk => OF rfl rfl h4 rfl hk) <| DT rfl rfl (fun K hk => OF rfl rfl h4 rfl hk) <| DT rfl rfl (fun K hk => OF rfl rfl h4 rfl hk) <| DT rfl rfl (fun K hk => OF rfl rfl h4 rfl hk) <| dw_nil <| OF rfl rfl h4 rfl <| ON rfl rfl (not_T h3) <| PF rfl rfl h4 rfl <| PF rfl rfl (not_T h3) rfl <| ?_
            refine ND <| CF rfl rfl <| SK <| IB <| RG <| rw_add rfl rfl rfl <| MV rfl rfl <| ND <| gw_dropN 1 <| ?_
            refine gw_sub (Sub.consE (i := 7) rfl (int_succ (by omega)) (Sub.cons (i := 0) rfl (Sub.cons (i := 5) rfl (Sub.cons (i := 6) rfl (Sub.nil _))))) (ih1 (i + 1) ?_ ?_)
            · exact ⟨by omega, by rw [hI, hd3, prevOf_succ, hx3]; simp [areFrom, h2, h3, prevOf_z (l := l) hz9]⟩
            · show l.length - (i + 1) < l.length - i; omega
    · have hn10 := nil_of_dec h1
      refine EX rfl <| SQ <| RG <| AS rfl rfl <| ND <| ret_cv Try.func50 (res1 Try.func50 rfl (rv_tmp rfl)) <| ?_
      rw [hI, hn10]; rfl

theorem impl_urgent {w : World} {v : Value} {l : List Candidate} (hv : RdS w 3 (Pl Candidate.cells) v l) (hb : l.length ≤ 134217728) : CN Try.prog 51 [v] w (fun v ch => OwS 65 3 (PlO Candidate.cells) v (urgent l) ch) := by
  obtain ⟨A, c, rfl, hA⟩ := hv
  refine cn_of Try.func51 rfl rfl rfl <| SQ <| RG <| AS rfl rfl <| ND <| SQ <| RG <| rw_slice0 rfl tyM_S_impl_Candidate (PlO Candidate.cells) <| fun v1 how1 => AS rfl rfl <| AS rfl rfl <| ND <| SQ <| SQ <| RG <| MV rfl rfl <| rw_len rfl tyE_S_impl_Candidate rfl <| MV rfl rfl <| ND <| BK <| ?_
  refine gw_loopC (α := Nat × Int) (fun z_ => z_.1 ≤ l.length ∧ leastFrom 7 l = leastFrom z_.2 (l.drop z_.1)) (fun z_ => l.length - z_.1) (fun e z_ => (12, .int .i64 (z_.1 : Int)) :: (3, .int .i64 z_.2) :: e) (0, 7) [(0, _), (2, _), (4, _), (10, _), (11, _)] (Sub.consE rfl rfl (Sub.consE rfl rfl (Sub.cons (i := 0) rfl (Sub.cons (i := 2) rfl (Sub.cons (i := 4) rfl (Sub.cons (i := 10) rfl (Sub.cons (i := 11) rfl (Sub.nil _)))))))) ?_ ?_
  · exact ⟨Nat.zero_le _, rfl⟩
  · rintro ⟨i, n⟩ hI2 ih2
    dsimp only at hI2
    dsimp only
    obtain ⟨hle, hI⟩ := hI2
    refine SQ <| RG <| rw_lss rfl rfl rfl <| ND <| SQ <| ?_
    refine gw_cond rfl (fun h1 => ?_) (fun h1 => ?_)
    · have hi3 := lt_of_dec h1
      obtain ⟨x4, hx4⟩ := get_of_lt hi3
      have hd4 := drop_cons hx4
      refine SK <| SQ <| BK <| SQ <| RG <| ?_
      have hq5 := hA.plain hx4
      refine rw_indexAddr (i) rfl tyE_S_impl_Candidate rfl rfl rfl (hA.some hi3) hi3 <| rw_loadX_s [_, _, _] rfl tyS_impl_Candidate rfl rfl (fun w hs => hq5.lds0 (n := 3) hs rfl) <| AL rfl tyZ_impl_Candidate <| fun b1 => ST (i := 0) [_, _, _] [_, _, _] tyS_impl_Candidate.sz rfl rfl rfl rfl rfl rfl rfl rfl <| ND <| RG <| MV rfl rfl <| FA rfl tyF_impl_Candidate_1 rfl <| FA rfl tyF_impl_Priority_0 rfl <| LD (i := 0) rfl tyP_int rfl rfl rfl <| rw_min rfl rfl rfl <| AS rfl rfl <| ND <| IB <| RG <| rw_add rfl rfl rfl <| ?_
      refine MV rfl rfl <| ND <| gw_dropN 1 <| ?_
      refine gw_sub (Sub.consE (i := 12) rfl (int_succ (by omega)) (Sub.consE (i := 3) rfl rfl (Sub.cons (i := 0) rfl (Sub.cons (i := 2) rfl (Sub.cons (i := 4) rfl (Sub.cons (i := 10) rfl (Sub.cons (i := 11) rfl (Sub.nil _)))))))) (ih2 (i + 1, min n x4.priority.urgency) ?_ ?_)
      · exact ⟨by omega, by rw [hI, hd4]; rfl⟩
      · show l.length - (i + 1) < l.length - i; omega
    · have hn6 := nil_of_dec h1
      refine EX rfl <| SQ <| SQ <| RG <| MV rfl rfl <| rw_len rfl tyE_S_impl_Candidate rfl <| MV rfl rfl <| ND <| BK <| ?_
      refine gw_loopX (α := Nat × Value × List Ck) (fun z_ => z_.1 ≤ l.length ∧ OwA 65 3 (PlO Candidate.cells) z_.2.1 ((l.take z_.1).filter fun c => c.priority.urgency == leastFrom 7 l) z_.2.2) (fun z_ => l.length - z_.1) (fun e z_ => (24, .int .i64 (z_.1 : Int)) :: (4, z_.2.1) :: e) (fun B _ => B) (fun F z_ => z_.2.2 ++ F) (0, v1, []) [(2, _), (3, _), (22, _), (23, _)] (Sub.consE rfl rfl (Sub.consE rfl rfl (Sub.cons (i := 2) rfl (Sub.cons (i := 3) rfl (Sub.cons (i := 22) rfl (Sub.cons (i := 23) rfl (Sub.nil _))))))) rfl rfl ?_ ?_
      · exact ⟨Nat.zero_le _, how1⟩
      · rintro ⟨i, v, ch⟩ hI7 ih7
        dsimp only at hI7
        dsimp only
        obtain ⟨hle2, hO⟩ := hI7
        refine SQ <| RG <| rw_lss rfl rfl rfl <| ND <| SQ <| ?_
        refine gw_cond rfl (fun h2 => ?_) (fun h2 => ?_)
        · have hi8 := lt_of_dec h2
          obtain ⟨x9, hx9⟩ := get_of_lt hi8
          have hd9 := drop_cons hx9
          refine SK <| SQ <| BK <| SQ <| RG <| ?_
          have hq10 := hA.plain hx9
          refine rw_indexAddr (i) rfl tyE_S_impl_Candidate rfl rfl rfl (hA.some hi8) hi8 <| rw_loadX_s [_, _, _] rfl tyS_impl_Candidate rfl rfl (fun w hs => hq10.lds0 (n := 3) hs rfl) <| AL rfl tyZ_impl_Candidate <| fun b2 => ST (i := 0) [_, _, _] [_, _, _] tyS_impl_Candidate.sz rfl rfl rfl rfl rfl rfl rfl rfl <| ND <| SQ <| RG <| FA rfl tyF_impl_Candidate_1 rfl <| FA rfl tyF_impl_Priority_0 rfl <| LD (i := 0) rfl tyP_int rfl rfl rfl <| MV rfl rfl <| EQ1 rfl rfl rfl <| ND <| ?_
          refine gw_cond rfl (fun h3 => ?_) (fun h3 => ?_)
          · refine RG <| MV rfl rfl <| LS (i := 0) [_, _, _] rfl tyS_impl_Candidate rfl rfl rfl rfl <| rw_slice (xs := [(0, _)]) [_, _, _] rfl tyM_S_impl_Candidate rfl rfl rfl rfl <| fun b3 => rw_append1 (i := 0) (a := x9) rfl tyM_S_impl_Candidate eCandidate rfl rfl rfl hO ⟨rfl, rfl⟩ (.refl _) (by have := List.length_filter_le (fun c => c.priority.urgency == leastFrom 7 l) (l.take i); simp only [List.length_take] at this; omega) <| fun v11 ch11 how11 => AS rfl rfl <| ND <| IB <| RG <| rw_add rfl rfl rfl <| MV rfl rfl <| ND <| gw_dropN 2 <| ?_
            refine gw_sub (Sub.consE (i := 24) rfl (int_succ (by omega)) (Sub.consE (i := 4) rfl rfl (Sub.cons (i := 2) rfl (Sub.cons (i := 3) rfl (Sub.cons (i := 22) rfl (Sub.cons (i := 23) rfl (Sub.nil _))))))) (ih7 (i + 1, v11, ch11) ?_ ?_)
            · have hf : (x9.priority.urgency == leastFrom 7 l) = true := by rw [hI, hn6]; exact h3
              exact ⟨by omega, by rw [List.take_add_one, hx9]; simpa [List.filter_append, hf] using how11⟩
            · show l.length - (i + 1) < l.length - i; omega
          · refine SK <| IB <| RG <| rw_add rfl rfl rfl <| MV rfl rfl <| ND <| gw_dropN 1 <| ?_
            refine gw_sub (Sub.consE (i := 24) rfl (int_succ (by omega)) (Sub.consE (i := 4) rfl rfl (Sub.cons (i := 2) rfl (Sub.cons (i := 3) rfl (Sub.cons (i := 22) rfl (Sub.cons (i := 23) rfl (Sub.nil _))))))) (ih7 (i + 1, v, ch) ?_ ?_)
            · have hf : (x9.priority.urgency == leastFrom 7 l) = false := by rw [hI, hn6]; exact h3
              exact ⟨by omega, by rw [List.take_add_one, hx9]; simpa [List.filter_append, hf] using hO⟩
            · show l.length - (i + 1) < l.length - i; omega
        · have hn12 := nil_of_dec h2
          refine EX rfl <| SQ <| RG <| MV rfl rfl <| AS rfl rfl <| ND <| ?_
          refine ret_cn ch Try.func51 (res1 Try.func51 rfl (rv_tmp rfl)) ?_ ?_
          · have ht := take_all hn12
            rw [ht] at hO
            exact OwA.s hO
          · simp

theorem impl_PlainNext {w : World} {v : Value} {l : List Candidate} (hv : RdS w 3 (Pl Candidate.cells) v l) (hb : l.length ≤ 134217728) (last : Int) : CV Try.prog 54 [v, .int .i64 last] w (.int .i64 (plainNext l last)) := by
  obtain ⟨A, c, rfl, hA⟩ := hv
  refine cv_of Try.func54 rfl rfl rfl <| SQ <| RG <| AS rfl rfl <| ND <| SQ <| SQ <| RG <| MV rfl rfl <| rw_len rfl tyE_S_impl_Candidate rfl <| EQ1 rfl rfl rfl <| MV rfl rfl <| ?_
  refine rw_case (j := 10) rfl (fun h1 => ?_) (fun h1 => ?_)
  · have hnil1 := nil_of_eq h1
    refine OF rfl rfl h1 rfl <| OF rfl rfl h1 rfl <| OF rfl rfl h1 rfl <| PT rfl rfl h1 rfl <| ND <| CT rfl rfl <| SQ <| RG <| AS rfl rfl <| ND <| ret_cv Try.func54 (res1 Try.func54 rfl (rv_tmp rfl)) <| ?_
    subst hnil1; rfl
  · have hpos2 := pos_of_ne h1
    refine ON rfl rfl h1 <| MV rfl rfl <| ON rfl rfl h1 <| CV1 rfl fun_impl_AreCandidates rfl (fun w hs => impl_AreCandidates (hA.s Pl.keeps hs) (by omega)) <| ON rfl rfl h1 <| NT rfl rfl <| PF rfl rfl h1 rfl <| ND <| ?_
    refine gw_cond rfl (fun h2 => ?_) (fun h2 => ?_)
    · replace h2 := of_not_T h2
      refine SQ <| RG <| AS rfl rfl <| ND <| ret_cv Try.func54 (res1 Try.func54 rfl (rv_tmp rfl)) <| ?_
      simp [plainNext, nextId, h2]
    · replace h2 := of_not_F h2
      refine SK <| SQ <| SQ <| RG <| MV rfl rfl <| rw_len rfl tyE_S_impl_Candidate rfl <| MV rfl rfl <| ND <| BK <| ?_
      refine gw_loopC (α := Nat) (fun z_ => z_ ≤ l.length ∧ after last (l.map (·.id)) = after last ((l.drop z_).map (·.id))) (fun z_ => l.length - z_) (fun e z_ => (17, .int .i64 (z_ : Int)) :: e) 0 [(0, _), (1, _), (15, _), (16, _)] (Sub.consE rfl rfl (Sub.cons (i := 0) rfl (Sub.cons (i := 1) rfl (Sub.cons (i := 15) rfl (Sub.cons (i := 16) rfl (Sub.nil _)))))) ?_ ?_
      · exact ⟨Nat.zero_le _, rfl⟩
      · rintro i hI3 ih3
        try dsimp only
        obtain ⟨hle, hI⟩ := hI3
        refine SQ <| RG <| rw_lss rfl rfl rfl <| ND <| SQ <| ?_
        refine gw_cond rfl (fun h3 => ?_) (fun h3 => ?_)
        · have hi4 := lt_of_dec h3
          obtain ⟨x5, hx5⟩ := get_of_lt hi4
          have hd5 := drop_cons hx5
          refine SK <| SQ <| BK <| SQ <| RG <| ?_
          have hq6 := hA.plain hx5
          refine rw_indexAddr (i) rfl tyE_S_impl_Candidate rfl rfl rfl (hA.some hi4) hi4 <| rw_loadX_s [_, _, _] rfl tyS_impl_Candidate rfl rfl (fun w hs => hq6.lds0 (n := 3) hs rfl) <| AL rfl tyZ_impl_Candidate <| fun b1 => ST (i := 0) [_, _, _] [_, _, _] tyS_impl_Candidate.sz rfl rfl rfl rfl rfl rfl rfl rfl <| ND <| SQ <| RG <| FA rfl tyF_impl_Candidate_0 rfl <| LD (i := 0) rfl tyP_int rfl rfl rfl <| MV rfl rfl <| rw_gtr rfl rfl rfl <| ND <| ?_
          refine gw_cond rfl (fun h4 => ?_) (fun h4 => ?_)
          · refine SQ <| RG <| FA rfl tyF_impl_Candidate_0 rfl <| LD (i := 0) rfl tyP_int rfl rfl rfl <| AS rfl rfl <| ND <| ret_cv Try.func54 (res1 Try.func54 rfl (rv_tmp rfl)) <| ?_
            simp [plainNext, nextId, hI, hd5, after, h2, h4]
          · refine SK <| IB <| RG <| rw_add rfl rfl rfl <| MV rfl rfl <| ND <| gw_dropN 1 <| ?_
            refine gw_sub (Sub.consE (i := 17) rfl (int_succ (by omega)) (Sub.cons (i := 0) rfl (Sub.cons (i := 1) rfl (Sub.cons (i := 15) rfl (Sub.cons (i := 16) rfl (Sub.nil _)))))) (ih3 (i + 1) ?_ ?_)
            · exact ⟨by omega, by rw [hI, hd5]; simp [after, h4]⟩
            · show l.length - (i + 1) < l.length - i; omega
        · have hn7 := nil_of_dec h3
          refine EX rfl <| SQ <| RG <| MV rfl rfl <| ?_
          have hi8 : 0 < l.length := by omega
          obtain ⟨x9, hx9⟩ := get_of_lt hi8
          have hd9 := drop_cons hx9
          have hq10 := hA.plain hx9
          refine rw_indexAddr (0) rfl tyE_S_impl_Candidate rfl rfl rfl (hA.some hi8) hi8 <| FX rfl tyF_impl_Candidate_0 rfl <| rw_loadX _ rfl tyP_int rfl (fun w hs => hq10.ld hs rfl) <| AS rfl rfl <| ND <| ret_cv Try.func54 (res1 Try.func54 rfl (rv_tmp rfl)) <| ?_
          simp [plainNext, nextId, hI, List.head?_eq_getElem?, after, hx9, h2, hn7]

theorem impl_NextStream {w : World} {v : Value} {l : List Candidate} (hv : RdS w 3 (Pl Candidate.cells) v l) (hb : l.length ≤ 134217728) (last : Int) : CV Try.prog 17 [v, .int .i64 last] w (.int .i64 (nextStream l last)) := by
  obtain ⟨A, c, rfl, hA⟩ := hv
  have hul := urgent_len l
  refine cv_of Try.func17 rfl rfl rfl <| SQ <| RG <| AS rfl rfl <| ND <| SQ <| SQ <| RG <| MV rfl rfl <| rw_len rfl tyE_S_impl_Candidate rfl <| EQ1 rfl rfl rfl <| MV rfl rfl <| ?_
  refine rw_case (j := 11) rfl (fun h1 => ?_) (fun h1 => ?_)
  · have hnil1 := nil_of_eq h1
    refine OF rfl rfl h1 rfl <| OF rfl rfl h1 rfl <| OF rfl rfl h1 rfl <| PT rfl rfl h1 rfl <| ND <| CT rfl rfl <| SQ <| RG <| AS rfl rfl <| ND <| ret_cv Try.func17 (res1 Try.func17 rfl (rv_tmp rfl)) <| ?_
    simp [nextStream, h1]
  · have hpos2 := pos_of_ne h1
    refine ON rfl rfl h1 <| MV rfl rfl <| ON rfl rfl h1 <| CV1 rfl fun_impl_AreCandidates rfl (fun w hs => impl_AreCandidates (hA.s Pl.keeps hs) (by omega)) <| ON rfl rfl h1 <| NT rfl rfl <| PF rfl rfl h1 rfl <| ND <| ?_
    refine gw_cond rfl (fun h2 => ?_) (fun h2 => ?_)
    · replace h2 := of_not_T h2
      refine SQ <| RG <| AS rfl rfl <| ND <| ret_cv Try.func17 (res1 Try.func17 rfl (rv_tmp rfl)) <| ?_
      simp [nextStream, h1, h2]
    · replace h2 := of_not_F h2
      refine SK <| SQ <| RG <| MV rfl rfl <| CN1 rfl fun_impl_urgent rfl (fun w hs => impl_urgent (hA.s Pl.keeps hs) (by omega)) <| fun v3 ch3 how3 => ?_
      obtain ⟨R3, rc3, rfl, hR3, hrd3⟩ := how3.shape eCandidate
      refine AS rfl rfl <| ND <| SQ <| SQ <| RG <| MV rfl rfl <| rw_len rfl tyE_S_impl_Candidate rfl <| MV rfl rfl <| ND <| BK <| ?_
      refine gw_loopC (α := Nat) (fun z_ => z_ ≤ (urgent l).length ∧ nextStream l last = nsI (plainNext (urgent l) last) ((urgent l).drop z_)) (fun z_ => (urgent l).length - z_) (fun e z_ => (20, .int .i64 (z_ : Int)) :: e) 0 [(1, _), (5, _), (18, _), (19, _)] (Sub.consE rfl rfl (Sub.cons (i := 1) rfl (Sub.cons (i := 5) rfl (Sub.cons (i := 18) rfl (Sub.cons (i := 19) rfl (Sub.nil _)))))) ?_ ?_
      · exact ⟨Nat.zero_le _, by simp [nextStream, h1, h2]⟩
      · rintro i hI4 ih4
        try dsimp only
        obtain ⟨hle2, hI⟩ := hI4
        refine SQ <| RG <| rw_lss rfl rfl rfl <| ND <| SQ <| ?_
        refine gw_cond rfl (fun h3 => ?_) (fun h3 => ?_)
        · have hi5 := lt_of_dec h3
          obtain ⟨x6, hx6⟩ := get_of_lt hi5
          have hd6 := drop_cons hx6
          refine SK <| SQ <| BK <| SQ <| RG <| rw_indexAddr (i) rfl tyE_S_impl_Candidate rfl rfl rfl (hR3 (Nat.zero_lt_of_lt hi5)) hi5 <| rw_loadX_s [_, _, _] rfl tyS_impl_Candidate rfl rfl (fun w hs => ((hrd3 _ (fun c hc => hs.at_ c (List.mem_append_right _ (List.mem_append_left _ hc)))).plain hx6).cut0 (n := 3) rfl) <| AL rfl tyZ_impl_Candidate <| fun b1 => ST (i := 0) [_, _, _] [_, _, _] tyS_impl_Candidate.sz rfl rfl rfl rfl rfl rfl rfl rfl <| ND <| SQ <| RG <| FA rfl tyF_impl_Candidate_1 rfl <| FA rfl tyF_impl_Priority_1 rfl <| LD (i := 0) rfl tyP_bool rfl rfl rfl <| ?_
          refine NT rfl rfl <| ND <| ?_
          refine gw_cond rfl (fun h4 => ?_) (fun h4 => ?_)
          · replace h4 := of_not_T h4
            refine SQ <| RG <| FA rfl tyF_impl_Candidate_0 rfl <| LD (i := 0) rfl tyP_int rfl rfl rfl <| AS rfl rfl <| ND <| ret_cv Try.func17 (res1 Try.func17 rfl (rv_tmp rfl)) <| ?_
            rw [hI, hd6]; simp [nsI, h4]
          · replace h4 := of_not_F h4
            refine SK <| IB <| RG <| rw_add rfl rfl rfl <| MV rfl rfl <| ND <| gw_dropN 1 <| ?_
            refine gw_sub (Sub.consE (i := 20) rfl (int_succ (by omega)) (Sub.cons (i := 1) rfl (Sub.cons (i := 5) rfl (Sub.cons (i := 18) rfl (Sub.cons (i := 19) rfl (Sub.nil _)))))) (ih4 (i + 1) ?_ ?_)
            · exact ⟨by omega, by rw [hI, hd6]; simp [nsI, h4]⟩
            · show (urgent l).length - (i + 1) < (urgent l).length - i; omega
        · have hn7 := nil_of_dec h3
          refine EX rfl <| SQ <| RG <| MV rfl rfl <| MV rfl rfl <| CV1 rfl fun_impl_PlainNext rfl (fun w hs => impl_PlainNext ⟨_, _, rfl, hrd3 _ (fun c hc => hs.at_ c (List.mem_append_right _ (List.mem_append_left _ hc)))⟩ (by omega) _) <| AS rfl rfl <| ND <| ret_cv Try.func17 (res1 Try.func17 rfl (rv_tmp rfl)) <| ?_
          rw [hI, hn7]; rfl

theorem laws_eqPriority (a : Priority) (w : World) : CV Try.prog 67 [.agg a.cells.toArray, .agg a.cells.toArray] w (.bool true) := by
  refine cv_of Try.func67 rfl rfl rfl <| SQ <| RG <| BX [_, _] rfl rfl rfl <| fun b1 => BX [_, _] rfl rfl rfl <| fun b2 => AS rfl rfl <| ND <| SQ <| SQ <| RG <| FA rfl tyF_impl_Priority_0 rfl <| LD (i := 1) rfl tyP_int rfl rfl rfl <| FA rfl tyF_impl_Priority_0 rfl <| LD (i := 0) rfl tyP_int rfl rfl rfl <| NS rfl rfl rfl <| ND <| CF rfl rfl <| SK <| SQ <| SQ <| RG <| FA rfl tyF_impl_Priority_1 rfl <| LD (i := 1) rfl tyP_bool rfl rfl rfl <| FA rfl tyF_impl_Priority_1 rfl <| ?_
  refine LD (i := 0) rfl tyP_bool rfl rfl rfl <| rw_neqSelfB (by kernel_rfl) rfl rfl rfl <| ND <| CF rfl rfl <| SK <| SQ <| RG <| AS rfl rfl <| ND <| ret_cv Try.func67 (res1 Try.func67 rfl (rv_tmp rfl)) <| ?_
  rfl

theorem laws_eqCandidate (a : Candidate) (w : World) : CV Try.prog 52 [.agg a.cells.toArray, .agg a.cells.toArray] w (.bool true) := by
  refine cv_of Try.func52 rfl rfl rfl <| SQ <| RG <| BX [_, _, _] rfl rfl rfl <| fun b1 => BX [_, _, _] rfl rfl rfl <| fun b2 => AS rfl rfl <| ND <| SQ <| SQ <| RG <| FA rfl tyF_impl_Candidate_0 rfl <| LD (i := 1) rfl tyP_int rfl rfl rfl <| FA rfl tyF_impl_Candidate_0 rfl <| LD (i := 0) rfl tyP_int rfl rfl rfl <| NS rfl rfl rfl <| ND <| CF rfl rfl <| SK <| SQ <| SQ <| RG <| FA rfl tyF_impl_Candidate_1 rfl <| LS (i := 1) [_, _] rfl tyS_impl_Priority rfl rfl rfl rfl <| ?_
  refine FA rfl tyF_impl_Candidate_1 rfl <| LS (i := 0) [_, _] rfl tyS_impl_Priority rfl rfl rfl rfl <| CV1 rfl fun_laws_eqPriority rfl (fun w hs => laws_eqPriority _ w) <| NT rfl rfl <| ND <| CF rfl rfl <| SK <| SQ <| RG <| AS rfl rfl <| ND <| ret_cv Try.func52 (res1 Try.func52 rfl (rv_tmp rfl)) <| ?_
  rfl

theorem laws_eqCandidateS {w : World} {v : Value} {l : List Candidate} (hv : RdS w 3 (Pl Candidate.cells) v l) (hb : l.length ≤ 134217728) {v1 : Value} (hv1 : RdS w 3 (Pl Candidate.cells) v1 l) : CV Try.prog 12 [v, v1] w (.bool true) := by
  obtain ⟨A, c, rfl, hA⟩ := hv
  obtain ⟨A1, c1, rfl, hA1⟩ := hv1
  refine cv_of Try.func12 rfl rfl rfl <| SQ <| RG <| AS rfl rfl <| ND <| SQ <| SQ <| RG <| MV rfl rfl <| rw_len rfl tyE_S_impl_Candidate rfl <| MV rfl rfl <| rw_len rfl tyE_S_impl_Candidate rfl <| NS rfl rfl rfl <| ND <| CF rfl rfl <| SK <| SQ <| SQ <| RG <| AS rfl rfl <| ND <| BK <| ?_
  refine gw_loopC (α := Nat) (fun z_ => z_ ≤ l.length) (fun z_ => l.length - z_) (fun e z_ => (5, .int .i64 (z_ : Int)) :: e) 0 [(0, _), (1, _)] (Sub.consE rfl rfl (Sub.cons (i := 0) rfl (Sub.cons (i := 1) rfl (Sub.nil _)))) ?_ ?_
  · exact Nat.zero_le _
  · rintro i hI1 ih1
    try dsimp only
    have hle := hI1
    refine SQ <| SQ <| RG <| MV rfl rfl <| MV rfl rfl <| rw_len rfl tyE_S_impl_Candidate rfl <| rw_lss rfl rfl rfl <| ND <| ?_
    refine gw_cond rfl (fun h1 => ?_) (fun h1 => ?_)
    · have hi2 := lt_of_dec h1
      obtain ⟨x3, hx3⟩ := get_of_lt hi2
      have hd3 := drop_cons hx3
      refine SK <| SQ <| BK <| SQ <| gw_draw' [(0, .det), (1, .det), (2, .det), (3, .det), (4, .det), (5, .det), (6, .det), (7, .det)] [8, 9] mixed rfl (free_det (free_det (free_det (free_det (free_det (free_det (free_det (free_det free_nil)))))))) (ts := [_, _]) rfl <| DT rfl rfl (fun K hk => MV rfl rfl hk) <| DT rfl rfl (fun K hk => MV rfl rfl hk) <| ?_
      have hq4 := hA.plain hx3
      refine DT rfl rfl (fun K hk => rw_indexAddr (i) rfl tyE_S_impl_Candidate rfl rfl rfl (hA.some hi2) hi2 hk) <| DT rfl rfl (fun K hk => rw_loadX_s [_, _, _] rfl tyS_impl_Candidate rfl rfl (fun w hs => hq4.lds0 (n := 3) hs rfl) hk) <| DT rfl rfl (fun K hk => MV rfl rfl hk) <| DT rfl rfl (fun K hk => MV rfl rfl hk) <| ?_
      have hq5 := hA1.plain hx3
      refine DT rfl rfl (fun K hk => rw_indexAddr (i) rfl tyE_S_impl_Candidate rfl rfl rfl (hA1.some hi2) hi2 hk) <| DT rfl rfl (fun K hk => rw_loadX_s [_, _, _] rfl tyS_impl_Candidate rfl rfl (fun w hs => hq5.lds0 (n := 3) hs rfl) hk) <| dw_nil <| CV1 rfl fun_laws_eqCandidate rfl (fun w hs => laws_eqCandidate _ w) <| NT rfl rfl <| ND <| CF rfl rfl <| SK <| IB <| RG <| MV rfl rfl <| rw_add rfl rfl rfl <| AS rfl rfl <| ND <| ?_
      refine gw_sub (Sub.consE (i := 5) rfl (int_succ (by omega)) (Sub.cons (i := 0) rfl (Sub.cons (i := 1) rfl (Sub.nil _)))) (ih1 (i + 1) ?_ ?_)
      · omega
      · show l.length - (i + 1) < l.length - i; omega
    · have hn6 := nil_of_dec h1
      refine EX rfl <| SQ <| RG <| AS rfl rfl <| ND <| ret_cv Try.func12 (res1 Try.func12 rfl (rv_tmp rfl)) <| ?_
      rfl

theorem law_FnExactNextStream {w : World} {v : Value} {l : List Candidate} (hv : RdS w 3 (Pl Candidate.cells) v l) (hb : l.length ≤ 9223372036854775807) (n : Int) : CV Try.prog 4 [v, .int .i64 n] w (.bool true) := by
  obtain ⟨A, c, rfl, hA⟩ := hv
  refine cv_of Try.func4 rfl rfl rfl <| SQ <| RG <| AS rfl rfl <| ND <| SQ <| RG <| AS rfl rfl <| ND <| SQ <| RG <| MV rfl rfl <| MV rfl rfl <| CV1 rfl fun_laws_szCandidateS rfl (fun w hs => laws_szCandidateS (hA.s Pl.keeps hs) _) <| AS rfl rfl <| ND <| SQ <| SQ <| RG <| MV rfl rfl <| rw_lss rfl rfl rfl <| ND <| ?_
  refine gw_cond rfl (fun h1 => ?_) (fun h1 => ?_)
  · refine SQ <| RG <| AS rfl rfl <| ND <| ret_cv Try.func4 (res1 Try.func4 rfl (rv_tmp rfl)) <| ?_
    rfl
  · have hle1 : l.length ≤ 1048576 := szLen_le hb h1
    refine SK <| SQ <| RG <| MV rfl rfl <| CN1 rfl fun_laws_toCandidateS rfl (fun w hs => laws_toCandidateS (hA.s Pl.keeps hs) (by omega)) <| fun v2 ch2 how2 => ?_
    obtain ⟨R2, rc2, rfl, hR2, hrd2⟩ := how2.shape eCandidate
    refine MV rfl rfl <| CV1 rfl fun_spec_NextStream rfl (fun w hs => spec_NextStream ⟨_, _, rfl, hrd2 _ (fun c hc => hs.at_ c (List.mem_append_right _ (List.mem_append_left _ hc)))⟩ (by omega) _) <| AS rfl rfl <| ND <| SQ <| RG <| MV rfl rfl <| CN1 rfl fun_laws_toCandidateS rfl (fun w hs => laws_toCandidateS (hA.s Pl.keeps hs) (by omega)) <| fun v3 ch3 how3 => ?_
    obtain ⟨R3, rc3, rfl, hR3, hrd3⟩ := how3.shape eCandidate
    refine AS rfl rfl <| ND <| SQ <| RG <| MV rfl rfl <| MV rfl rfl <| CV1 rfl fun_impl_NextStream rfl (fun w hs => impl_NextStream ⟨_, _, rfl, hrd3 _ (fun c hc => hs.at_ c (List.mem_append_right _ (List.mem_append_left _ hc)))⟩ (by omega) _) <| AS rfl rfl <| ND <| SQ <| SQ <| RG <| MV rfl rfl <| MV rfl rfl <| NS rfl rfl rfl <| ND <| CF rfl rfl <| SK <| SQ <| SQ <| RG <| MV rfl rfl <| MV rfl rfl <| CN1 rfl fun_laws_toCandidateS rfl (fun w hs => laws_toCandidateS (hA.s Pl.keeps hs) (by omega)) <| fun v4 ch4 how4 => ?_
    obtain ⟨R4, rc4, rfl, hR4, hrd4⟩ := how4.shape eCandidate
    refine CV1 rfl fun_laws_eqCandidateS rfl (fun w hs => laws_eqCandidateS ⟨_, _, rfl, hrd3 _ (fun c hc => hs.at_ c (List.mem_append_right _ (List.mem_append_right _ (List.mem_append_left _ hc))))⟩ (by omega) ⟨_, _, rfl, hrd4 _ (fun c hc => hs.at_ c (List.mem_append_right _ (List.mem_append_left _ hc)))⟩) <| NT rfl rfl <| ND <| CF rfl rfl <| SK <| SQ <| RG <| AS rfl rfl <| ND <| ret_cv Try.func4 (res1 Try.func4 rfl (rv_tmp rfl)) <| ?_
    rfl
end Go.Proofs.Ytajcfmibcnibpaa
