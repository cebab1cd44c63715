/- Walks: the most urgent, the order served; marks. -/
import Derived.Test.YtajcfmibcnibpaaFactsT
import Derived.Test.YtajcfmibcnibpaaWS
namespace Go.Proofs.Ytajcfmibcnibpaa
open SL Go.RowKit
theorem impl_MostUrgent {w : World} {v : Value} {l : List Candidate} (hv : RdS w 3 (Pl Candidate.cells) v l) (hb : l.length ≤ 134217728) : CN Try.prog 10 [v] w (fun v ch => OwS 3 1 (PlO intC) v (mostUrgent l) ch) := by
  obtain ⟨A, c, rfl, hA⟩ := hv
  have hul := urgent_len l
  refine cn_of Try.func10 rfl rfl rfl <| SQ <| RG <| AS rfl rfl <| ND <| SQ <| RG <| rw_slice0 rfl tyM_S_int (PlO intC) <| fun v1 how1 => AS rfl rfl <| ND <| SQ <| SQ <| RG <| MV rfl rfl <| CV1 rfl fun_impl_AreCandidates rfl (fun w hs => impl_AreCandidates (hA.s Pl.keeps hs) (by omega)) <| NT rfl rfl <| ND <| ?_
  refine gw_cond rfl (fun h1 => ?_) (fun h1 => ?_)
  · replace h1 := of_not_T h1
    refine SQ <| RG <| MV rfl rfl <| AS rfl rfl <| ND <| ?_
    refine ret_cn [] Try.func10 (res1 Try.func10 rfl (rv_tmp rfl)) ?_ ?_
    · have hm : mostUrgent l = [] := by simp [mostUrgent, h1]
      rw [hm]
      exact OwA.s how1
    · simp
  · replace h1 := of_not_F h1
    refine SK <| SQ <| SQ <| RG <| MV rfl rfl <| CN1 rfl fun_impl_urgent rfl (fun w hs => impl_urgent (hA.s Pl.keeps hs) (by omega)) <| fun v2 ch2 how2 => ?_
    obtain ⟨R2, rc2, rfl, hR2, hrd2⟩ := how2.shape eCandidate
    refine rw_len rfl tyE_S_impl_Candidate rfl <| MV rfl rfl <| ND <| BK <| ?_
    refine gw_loopX (α := Nat × Value × List Ck) (fun z_ => z_.1 ≤ (urgent l).length ∧ OwA 3 1 (PlO intC) z_.2.1 (((urgent l).take z_.1).map (·.id)) z_.2.2) (fun z_ => (urgent l).length - z_.1) (fun e z_ => (14, .int .i64 (z_.1 : Int)) :: (3, z_.2.1) :: e) (fun B _ => B) (fun F z_ => z_.2.2 ++ F) (0, v1, []) [(2, _), (12, _), (13, _)] (Sub.consE rfl rfl (Sub.consE rfl rfl (Sub.cons (i := 2) rfl (Sub.cons (i := 12) rfl (Sub.cons (i := 13) rfl (Sub.nil _)))))) rfl rfl ?_ ?_
    · exact ⟨Nat.zero_le _, how1⟩
    · rintro ⟨i, v, ch⟩ hI3 ih3
      dsimp only at hI3
      dsimp only
      obtain ⟨hle2, hO⟩ := hI3
      refine SQ <| RG <| rw_lss rfl rfl rfl <| ND <| SQ <| ?_
      refine gw_cond rfl (fun h2 => ?_) (fun h2 => ?_)
      · have hi4 := lt_of_dec h2
        obtain ⟨x5, hx5⟩ := get_of_lt hi4
        have hd5 := drop_cons hx5
        refine SK <| SQ <| BK <| SQ <| RG <| rw_indexAddr (i) rfl tyE_S_impl_Candidate rfl rfl rfl (hR2 (Nat.zero_lt_of_lt hi4)) hi4 <| rw_loadX_s [_, _, _] rfl tyS_impl_Candidate rfl rfl (fun w hs => ((hrd2 _ (fun c hc => hs.at_ c (List.mem_append_right _ (List.mem_append_right _ (List.mem_append_left _ hc))))).plain hx5).cut0 (n := 3) rfl) <| AL rfl tyZ_impl_Candidate <| fun b1 => ST (i := 0) [_, _, _] [_, _, _] tyS_impl_Candidate.sz rfl rfl rfl rfl rfl rfl rfl rfl <| ND <| RG <| MV rfl rfl <| FA rfl tyF_impl_Candidate_0 rfl <| LD (i := 0) rfl tyP_int rfl rfl rfl <| ?_
        refine rw_slice (xs := [(0, _)]) [_] rfl tyM_S_int rfl rfl rfl rfl <| fun b2 => rw_append1 (i := 0) (a := x5.id) rfl tyM_S_int eInt rfl rfl rfl hO ⟨rfl, rfl⟩ (.refl _) (by simp; omega) <| fun v6 ch6 how6 => AS rfl rfl <| ND <| IB <| RG <| rw_add rfl rfl rfl <| MV rfl rfl <| ND <| gw_dropN 2 <| ?_
        refine gw_sub (Sub.consE (i := 14) rfl (int_succ (by omega)) (Sub.consE (i := 3) rfl rfl (Sub.cons (i := 2) rfl (Sub.cons (i := 12) rfl (Sub.cons (i := 13) rfl (Sub.nil _)))))) (ih3 (i + 1, v6, ch6) ?_ ?_)
        · exact ⟨by omega, by rw [List.take_add_one, hx5]; simpa using how6⟩
        · show (urgent l).length - (i + 1) < (urgent l).length - i; omega
      · have hn7 := nil_of_dec h2
        refine EX rfl <| SQ <| RG <| MV rfl rfl <| AS rfl rfl <| ND <| ?_
        refine ret_cn ch Try.func10 (res1 Try.func10 rfl (rv_tmp rfl)) ?_ ?_
        · rw [take_all hn7] at hO
          have hm : mostUrgent l = (urgent l).map (·.id) := by simp [mostUrgent, h1]
          rw [hm]
          exact OwA.s hO
        · simp

theorem laws_eqIntS {w : World} {v : Value} {l : List Int} (hv : RdS w 1 (Pl intC) v l) (hb : l.length ≤ 134217728) {v1 : Value} (hv1 : RdS w 1 (Pl intC) v1 l) : CV Try.prog 11 [v, v1] w (.bool true) := by
  obtain ⟨A, c, rfl, hA⟩ := hv
  obtain ⟨A1, c1, rfl, hA1⟩ := hv1
  refine cv_of Try.func11 rfl rfl rfl <| SQ <| RG <| AS rfl rfl <| ND <| SQ <| SQ <| RG <| MV rfl rfl <| rw_len rfl tyE_S_int rfl <| MV rfl rfl <| rw_len rfl tyE_S_int rfl <| NS rfl rfl rfl <| ND <| CF rfl rfl <| SK <| SQ <| SQ <| RG <| AS rfl rfl <| ND <| BK <| ?_
  refine gw_loopC (α := Nat) (fun z_ => z_ ≤ l.length) (fun z_ => l.length - z_) (fun e z_ => (5, .int .i64 (z_ : Int)) :: e) 0 [(0, _), (1, _)] (Sub.consE rfl rfl (Sub.cons (i := 0) rfl (Sub.cons (i := 1) rfl (Sub.nil _)))) ?_ ?_
  · exact Nat.zero_le _
  · rintro i hI1 ih1
    try dsimp only
    have hle := hI1
    refine SQ <| SQ <| RG <| MV rfl rfl <| MV rfl rfl <| rw_len rfl tyE_S_int rfl <| rw_lss rfl rfl rfl <| ND <| ?_
    refine gw_cond rfl (fun h1 => ?_) (fun h1 => ?_)
    · have hi2 := lt_of_dec h1
      obtain ⟨x3, hx3⟩ := get_of_lt hi2
      have hd3 := drop_cons hx3
      refine SK <| SQ <| BK <| SQ <| gw_draw' [(0, .det), (1, .det), (2, .det), (3, .det), (4, .det), (5, .det), (6, .det), (7, .det)] [8] mixed rfl (free_det (free_det (free_det (free_det (free_det (free_det (free_det (free_det free_nil)))))))) (ts := [_]) rfl <| DT rfl rfl (fun K hk => MV rfl rfl hk) <| DT rfl rfl (fun K hk => MV rfl rfl hk) <| ?_
      have hq4 := hA.plain hx3
      refine DT rfl rfl (fun K hk => rw_indexAddr (i) rfl tyE_S_int rfl rfl rfl (hA.some hi2) hi2 hk) <| DT rfl rfl (fun K hk => rw_loadX _ rfl tyP_int rfl (fun w hs => hq4.ld0 hs rfl) hk) <| DT rfl rfl (fun K hk => MV rfl rfl hk) <| DT rfl rfl (fun K hk => MV rfl rfl hk) <| ?_
      have hq5 := hA1.plain hx3
      refine DT rfl rfl (fun K hk => rw_indexAddr (i) rfl tyE_S_int rfl rfl rfl (hA1.some hi2) hi2 hk) <| DT rfl rfl (fun K hk => rw_loadX _ rfl tyP_int rfl (fun w hs => hq5.ld0 hs rfl) hk) <| dw_nil <| NS rfl rfl rfl <| ND <| CF rfl rfl <| SK <| IB <| RG <| MV rfl rfl <| rw_add rfl rfl rfl <| AS rfl rfl <| ND <| ?_
      refine gw_sub (Sub.consE (i := 5) rfl (int_succ (by omega)) (Sub.cons (i := 0) rfl (Sub.cons (i := 1) rfl (Sub.nil _)))) (ih1 (i + 1) ?_ ?_)
      · omega
      · show l.length - (i + 1) < l.length - i; omega
    · have hn6 := nil_of_dec h1
      refine EX rfl <| SQ <| RG <| AS rfl rfl <| ND <| ret_cv Try.func11 (res1 Try.func11 rfl (rv_tmp rfl)) <| ?_
      rfl

theorem set_Candidate_0 (x : Candidate) (v : Int) : ∃ x', splice (Candidate.cells x) 0 [.int .i64 v] = Candidate.cells x' := ⟨⟨v, ⟨x.priority.urgency, x.priority.incremental⟩⟩, rfl⟩
theorem set_Candidate_1 (x : Candidate) (v : Int) : ∃ x', splice (Candidate.cells x) 1 [.int .i64 v] = Candidate.cells x' := ⟨⟨x.id, ⟨v, x.priority.incremental⟩⟩, rfl⟩
theorem set_Candidate_2 (x : Candidate) (v : Bool) : ∃ x', splice (Candidate.cells x) 2 [.bool v] = Candidate.cells x' := ⟨⟨x.id, ⟨x.priority.urgency, v⟩⟩, rfl⟩
theorem laws_markCandidateS_nil (A : Option Addr) (k : Int) (w : World) : CV Try.prog 13 [.slice A 0 0, .int .i64 k] w (.int .i64 k) := by
  refine cv_of Try.func13 rfl rfl rfl <| SQ <| RG <| AS rfl rfl <| ND <| SQ <| SQ <| RG <| AS rfl rfl <| ND <| BK <| gw_loop1 <| SQ <| SQ <| RG <| MV rfl rfl <| MV rfl rfl <| rw_len rfl tyE_S_impl_Candidate rfl <| rw_lss rfl rfl rfl <| ND <| CF rfl rfl <| EX rfl <| SQ <| RG <| MV rfl rfl <| AS rfl rfl <| ND <| ret_cv Try.func13 (res1 Try.func13 rfl (rv_tmp rfl)) <| ?_
  rfl

theorem laws_markCandidateS_b {w : World} {g c : Nat} {pre rs : List Value} {l : List Candidate} {k : Int} (hb : l.length ≤ 134217728) (hk0 : 0 ≤ k) (hk1 : k ≤ 1073741824) (hc1 : l.length ≤ c) (hc2 : c ≤ maxLen) (hc3 : (l.flatMap Candidate.cells ++ rs).length = c * 3) (hin : ∀ c ∈ [(⟨g, 65, pre ++ (l.flatMap Candidate.cells ++ rs)⟩ : Ck)], c.In w) (hnd : ([(⟨g, 65, pre ++ (l.flatMap Candidate.cells ++ rs)⟩ : Ck)].map Ck.b).Nodup) : CH Try.prog 13 [.slice (some ⟨g, pre.length, none⟩) l.length c, .int .i64 k] w [⟨g, 65, pre ++ (l.flatMap Candidate.cells ++ rs)⟩] (fun v' ch' => v' = .int .i64 (k + 3 * (l.length : Int)) ∧ ∃ m : List Candidate, m.length = l.length ∧ OwS 65 3 (PlO Candidate.cells) (.slice (some ⟨g, pre.length, none⟩) l.length c) m ch') := by
  refine ch_ofB hin hnd Try.func13 rfl rfl rfl <| SQ <| RG <| AS rfl rfl <| ND <| SQ <| SQ <| RG <| AS rfl rfl <| ND <| BK <| ?_
  refine gw_loopX (α := Nat × List Candidate) (fun z_ => z_.1 ≤ l.length ∧ z_.2.length = l.length) (fun z_ => l.length - z_.1) (fun e z_ => (5, .int .i64 (z_.1 : Int)) :: (1, .int .i64 (k + 3 * (z_.1 : Int))) :: e) (fun B z_ => B.set 0 ⟨g, 65, pre ++ (z_.2.flatMap Candidate.cells ++ rs)⟩) (fun F _ => F) (0, l) [(0, _), (4, _)] (Sub.consE rfl rfl (Sub.consE rfl (by simp) (Sub.cons (i := 0) rfl (Sub.cons (i := 4) rfl (Sub.nil _))))) rfl rfl ?_ ?_
  · exact ⟨Nat.zero_le _, rfl⟩
  · rintro ⟨i, m⟩ hI1 ih1
    dsimp only at hI1
    dsimp only [List.set]
    obtain ⟨hle, hlen⟩ := hI1
    refine SQ <| SQ <| RG <| MV rfl rfl <| MV rfl rfl <| rw_len rfl tyE_S_impl_Candidate rfl <| rw_lss rfl rfl rfl <| ND <| ?_
    refine gw_cond rfl (fun h1 => ?_) (fun h1 => ?_)
    · have hi2 := lt_of_dec h1
      refine SK <| SQ <| BK <| SQ <| RG <| MV rfl rfl <| MV rfl rfl <| MV rfl rfl <| ?_
      obtain ⟨x3, hx3⟩ := get_of_lt (show i < m.length by omega)
      refine rw_indexAddrO (i) rfl tyE_S_impl_Candidate rfl rfl rfl hi2 <| FA rfl tyF_impl_Candidate_0 rfl <| rw_storeElE (f := Candidate.cells) (kk := 3) (i := i) (off := 0) (j := 0) [_] tyP_int.sz (fun _ => rfl) rfl rfl rfl rfl rfl rfl hx3 rfl (set_Candidate_0 _ _) rfl <| fun x4 hs4 => ND <| SQ <| RG <| MV rfl rfl <| rw_add rfl rfl rfl <| AS rfl rfl <| ND <| SQ <| RG <| MV rfl rfl <| MV rfl rfl <| MV rfl rfl <| rw_indexAddrO (i) rfl tyE_S_impl_Candidate rfl rfl rfl hi2 <| FA rfl tyF_impl_Candidate_1 rfl <| FA rfl tyF_impl_Priority_0 rfl <| ?_
      refine rw_storeElE (f := Candidate.cells) (kk := 3) (i := i) (off := 1) (j := 0) [_] tyP_int.sz (fun _ => rfl) rfl rfl rfl rfl rfl rfl (set_get hx3) rfl (set_Candidate_1 _ _) rfl <| fun x5 hs5 => ND <| SQ <| RG <| MV rfl rfl <| rw_add rfl rfl rfl <| AS rfl rfl <| ND <| SQ <| RG <| MV rfl rfl <| MV rfl rfl <| MV rfl rfl <| rw_rem rfl rfl rfl (by first | decide | omega) <| EQ1 rfl rfl rfl <| rw_indexAddrO (i) rfl tyE_S_impl_Candidate rfl rfl rfl hi2 <| FA rfl tyF_impl_Candidate_1 rfl <| FA rfl tyF_impl_Priority_1 rfl <| ?_
      refine rw_storeElE (f := Candidate.cells) (kk := 3) (i := i) (off := 2) (j := 0) [_] tyP_bool.sz (fun _ => rfl) rfl rfl rfl rfl rfl rfl (set_get (set_get hx3)) rfl (set_Candidate_2 _ _) rfl <| fun x6 hs6 => ND <| RG <| MV rfl rfl <| rw_add rfl rfl rfl <| AS rfl rfl <| ND <| IB <| RG <| MV rfl rfl <| rw_add rfl rfl rfl <| AS rfl rfl <| ND <| ?_
      refine gw_sub (Sub.consE (i := 5) rfl (int_succ (by omega)) (Sub.consE (i := 1) rfl (kstep3 hk0 hk1 (by omega)) (Sub.cons (i := 0) rfl (Sub.cons (i := 4) rfl (Sub.nil _))))) (ih1 (i + 1, (((m.set i x4).set i x5).set i x6)) ?_ ?_)
      · exact ⟨by omega, by simp only [List.length_set]; omega⟩
      · show l.length - (i + 1) < l.length - i; omega
    · have hn7 := ge_of_dec h1
      refine EX rfl <| SQ <| RG <| MV rfl rfl <| AS rfl rfl <| ND <| ?_
      refine ret_ch [⟨g, 65, pre ++ (m.flatMap Candidate.cells ++ rs)⟩] Try.func13 (res1 Try.func13 rfl (rv_tmp rfl)) ?_ ?_
      · obtain rfl : i = l.length := by omega
        exact ⟨rfl, m, hlen, OwS.close (fun _ => rfl) rfl hlen hc1 hc2 hc3⟩
      · simp

theorem laws_markCandidateS {w : World} {A : Option Addr} {n c : Nat} {l : List Candidate} {ch : List Ck} {k : Int} (hO : OwS 65 3 (PlO Candidate.cells) (.slice A n c) l ch) (hb : l.length ≤ 134217728) (hk0 : 0 ≤ k) (hk1 : k ≤ 1073741824) (hin : ∀ c ∈ ch, c.In w) (hnd : (ch.map Ck.b).Nodup) :
    CH Try.prog 13 [.slice A n c, .int .i64 k] w ch (fun v' ch' => v' = .int .i64 (k + 3 * (l.length : Int)) ∧ ∃ m : List Candidate, m.length = l.length ∧ OwS 65 3 (PlO Candidate.cells) (.slice A n c) m ch') := by
  rcases hO.open with ⟨rfl, rfl, rfl, rfl⟩ | ⟨g, pre, rs, rfl, rfl, rfl, hc1, hc2, hc3⟩
  · exact (laws_markCandidateS_nil A k w).ch ⟨by simp, [], rfl, ⟨[], .inl ⟨A, rfl, rfl, rfl⟩⟩⟩
  · exact laws_markCandidateS_b hb hk0 hk1 hc1 hc2 hc3 hin hnd

theorem laws_markIntS_nil (A : Option Addr) (k : Int) (w : World) : CV Try.prog 14 [.slice A 0 0, .int .i64 k] w (.int .i64 k) := by
  refine cv_of Try.func14 rfl rfl rfl <| SQ <| RG <| AS rfl rfl <| ND <| SQ <| SQ <| RG <| AS rfl rfl <| ND <| BK <| gw_loop1 <| SQ <| SQ <| RG <| MV rfl rfl <| MV rfl rfl <| rw_len rfl tyE_S_int rfl <| rw_lss rfl rfl rfl <| ND <| CF rfl rfl <| EX rfl <| SQ <| RG <| MV rfl rfl <| AS rfl rfl <| ND <| ret_cv Try.func14 (res1 Try.func14 rfl (rv_tmp rfl)) <| ?_
  rfl

theorem laws_markIntS_b {w : World} {g c : Nat} {pre rs : List Value} {l : List Int} {k : Int} (hb : l.length ≤ 134217728) (hk0 : 0 ≤ k) (hk1 : k ≤ 1073741824) (hc1 : l.length ≤ c) (hc2 : c ≤ maxLen) (hc3 : (l.flatMap intC ++ rs).length = c * 1) (hin : ∀ c ∈ [(⟨g, 3, pre ++ (l.flatMap intC ++ rs)⟩ : Ck)], c.In w) (hnd : ([(⟨g, 3, pre ++ (l.flatMap intC ++ rs)⟩ : Ck)].map Ck.b).Nodup) : CH Try.prog 14 [.slice (some ⟨g, pre.length, none⟩) l.length c, .int .i64 k] w [⟨g, 3, pre ++ (l.flatMap intC ++ rs)⟩] (fun v' ch' => v' = .int .i64 (k + (l.length : Int)) ∧ OwS 3 1 (PlO intC) (.slice (some ⟨g, pre.length, none⟩) l.length c) (markI k l.length) ch') := by
  refine ch_ofB hin hnd Try.func14 rfl rfl rfl <| SQ <| RG <| AS rfl rfl <| ND <| SQ <| SQ <| RG <| AS rfl rfl <| ND <| BK <| ?_
  refine gw_loopX (α := Nat × List Int) (fun z_ => z_.1 ≤ l.length ∧ z_.2.length = l.length ∧ ∀ j, j < z_.1 → z_.2[j]? = some (k + (j : Int))) (fun z_ => l.length - z_.1) (fun e z_ => (5, .int .i64 (z_.1 : Int)) :: (1, .int .i64 (k + (z_.1 : Int))) :: e) (fun B z_ => B.set 0 ⟨g, 3, pre ++ (z_.2.flatMap intC ++ rs)⟩) (fun F _ => F) (0, l) [(0, _), (4, _)] (Sub.consE rfl rfl (Sub.consE rfl (by simp) (Sub.cons (i := 0) rfl (Sub.cons (i := 4) rfl (Sub.nil _))))) rfl rfl ?_ ?_
  · exact ⟨Nat.zero_le _, rfl, fun j hj => absurd hj (Nat.not_lt_zero _)⟩
  · rintro ⟨i, m⟩ hI1 ih1
    dsimp only at hI1
    dsimp only [List.set]
    obtain ⟨hle, hlen, hm⟩ := hI1
    refine SQ <| SQ <| RG <| MV rfl rfl <| MV rfl rfl <| rw_len rfl tyE_S_int rfl <| rw_lss rfl rfl rfl <| ND <| ?_
    refine gw_cond rfl (fun h1 => ?_) (fun h1 => ?_)
    · have hi2 := lt_of_dec h1
      refine SK <| SQ <| BK <| SQ <| RG <| MV rfl rfl <| MV rfl rfl <| MV rfl rfl <| ?_
      obtain ⟨x3, hx3⟩ := get_of_lt (show i < m.length by omega)
      refine rw_indexAddrO (i) rfl tyE_S_int rfl rfl rfl hi2 <| rw_storeEl (f := intC) (kk := 1) (i := i) (off := 0) (j := 0) [_] (k + (i : Int)) tyP_int.sz (fun _ => rfl) rfl rfl rfl rfl rfl rfl hx3 rfl rfl rfl <| ND <| RG <| MV rfl rfl <| rw_add rfl rfl rfl <| AS rfl rfl <| ND <| IB <| RG <| MV rfl rfl <| rw_add rfl rfl rfl <| AS rfl rfl <| ND <| ?_
      refine gw_sub (Sub.consE (i := 5) rfl (int_succ (by omega)) (Sub.consE (i := 1) rfl (kstep hk0 hk1 (by omega)) (Sub.cons (i := 0) rfl (Sub.cons (i := 4) rfl (Sub.nil _))))) (ih1 (i + 1, (m.set i (k + (i : Int)))) ?_ ?_)
      · exact ⟨by omega, by simp only [List.length_set]; omega, mark_step hm (by omega)⟩
      · show l.length - (i + 1) < l.length - i; omega
    · have hn5 := ge_of_dec h1
      refine EX rfl <| SQ <| RG <| MV rfl rfl <| AS rfl rfl <| ND <| ?_
      refine ret_ch [⟨g, 3, pre ++ (m.flatMap intC ++ rs)⟩] Try.func14 (res1 Try.func14 rfl (rv_tmp rfl)) ?_ ?_
      · obtain rfl : i = l.length := by omega
        obtain rfl := markI_eq hlen hm
        exact ⟨rfl, OwS.close (fun _ => rfl) rfl (markI_len _ _) hc1 hc2 hc3⟩
      · simp

theorem laws_markIntS {w : World} {A : Option Addr} {n c : Nat} {l : List Int} {ch : List Ck} {k : Int} (hO : OwS 3 1 (PlO intC) (.slice A n c) l ch) (hb : l.length ≤ 134217728) (hk0 : 0 ≤ k) (hk1 : k ≤ 1073741824) (hin : ∀ c ∈ ch, c.In w) (hnd : (ch.map Ck.b).Nodup) :
    CH Try.prog 14 [.slice A n c, .int .i64 k] w ch (fun v' ch' => v' = .int .i64 (k + (l.length : Int)) ∧ OwS 3 1 (PlO intC) (.slice A n c) (markI k l.length) ch') := by
  rcases hO.open with ⟨rfl, rfl, rfl, rfl⟩ | ⟨g, pre, rs, rfl, rfl, rfl, hc1, hc2, hc3⟩
  · exact (laws_markIntS_nil A k w).ch ⟨by simp, ⟨[], .inl ⟨A, rfl, rfl, rfl⟩⟩⟩
  · exact laws_markIntS_b hb hk0 hk1 hc1 hc2 hc3 hin hnd

theorem laws_heldIntS {w : World} {v : Value} {k : Int} {n : Nat} (hv : RdS w 1 (Pl intC) v (markI k n)) (hb : n ≤ 134217728) (hk0 : 0 ≤ k) (hk1 : k ≤ 1073741824) : CV Try.prog 15 [v, .int .i64 k] w (.int .i64 (k + (n : Int))) := by
  obtain ⟨A, c, rfl, hA⟩ := hv
  refine cv_of Try.func15 rfl rfl rfl <| SQ <| RG <| AS rfl rfl <| ND <| SQ <| SQ <| RG <| AS rfl rfl <| ND <| BK <| ?_
  refine gw_loopC (α := Nat) (fun z_ => z_ ≤ (markI k n).length) (fun z_ => (markI k n).length - z_) (fun e z_ => (5, .int .i64 (z_ : Int)) :: (1, .int .i64 (k + (z_ : Int))) :: e) 0 [(0, _)] (Sub.consE rfl rfl (Sub.consE rfl (by simp) (Sub.cons (i := 0) rfl (Sub.nil _)))) ?_ ?_
  · exact Nat.zero_le _
  · rintro i hI1 ih1
    try dsimp only
    have hle := hI1
    have hml := markI_len k n
    refine SQ <| SQ <| RG <| MV rfl rfl <| MV rfl rfl <| rw_len rfl tyE_S_int rfl <| rw_lss rfl rfl rfl <| ND <| ?_
    refine gw_cond rfl (fun h1 => ?_) (fun h1 => ?_)
    · have hi2 := lt_of_dec h1
      obtain ⟨x3, hx3⟩ := get_of_lt hi2
      have hd3 := drop_cons hx3
      refine SK <| SQ <| BK <| SQ <| SQ <| RG <| MV rfl rfl <| MV rfl rfl <| ?_
      have hq4 := hA.plain hx3
      refine rw_indexAddr (i) rfl tyE_S_int rfl rfl rfl (hA.some hi2) hi2 <| rw_loadX _ rfl tyP_int rfl (fun w hs => hq4.ld0 hs rfl) <| MV rfl rfl <| rw_neq rfl rfl rfl <| ND <| CF rfl (held_ne hx3) <| SK <| RG <| MV rfl rfl <| rw_add rfl rfl rfl <| AS rfl rfl <| ND <| IB <| RG <| MV rfl rfl <| rw_add rfl rfl rfl <| AS rfl rfl <| ND <| ?_
      refine gw_sub (Sub.consE (i := 5) rfl (int_succ (by omega)) (Sub.consE (i := 1) rfl (kstep hk0 hk1 (by omega)) (Sub.cons (i := 0) rfl (Sub.nil _)))) (ih1 (i + 1) ?_ ?_)
      · omega
      · show (markI k n).length - (i + 1) < (markI k n).length - i; omega
    · have hn5 := nil_of_dec h1
      refine EX rfl <| SQ <| RG <| MV rfl rfl <| AS rfl rfl <| ND <| ret_cv Try.func15 (res1 Try.func15 rfl (rv_tmp rfl)) <| ?_
      rw [held_end hle hn5]

theorem law_FnExactMostUrgent {w : World} {v : Value} {l : List Candidate} (hv : RdS w 3 (Pl Candidate.cells) v l) (hb : l.length ≤ 9223372036854775807) : CV Try.prog 3 [v] w (.bool true) := by
  obtain ⟨A, c, rfl, hA⟩ := hv
  have hml := mostUrgent_len l
  refine cv_of Try.func3 rfl rfl rfl <| SQ <| RG <| AS rfl rfl <| ND <| SQ <| RG <| AS rfl rfl <| ND <| SQ <| RG <| MV rfl rfl <| MV rfl rfl <| CV1 rfl fun_laws_szCandidateS rfl (fun w hs => laws_szCandidateS (hA.s Pl.keeps hs) _) <| AS rfl rfl <| ND <| SQ <| SQ <| RG <| MV rfl rfl <| rw_lss rfl rfl rfl <| ND <| ?_
  refine gw_cond rfl (fun h1 => ?_) (fun h1 => ?_)
  · refine SQ <| RG <| AS rfl rfl <| ND <| ret_cv Try.func3 (res1 Try.func3 rfl (rv_tmp rfl)) <| ?_
    rfl
  · have hle1 : l.length ≤ 1048576 := szLen_le hb h1
    refine SK <| SQ <| RG <| MV rfl rfl <| CN1 rfl fun_laws_toCandidateS rfl (fun w hs => laws_toCandidateS (hA.s Pl.keeps hs) (by omega)) <| fun v2 ch2 how2 => ?_
    obtain ⟨R2, rc2, rfl, hR2, hrd2⟩ := how2.shape eCandidate
    refine CN1 rfl fun_spec_MostUrgent rfl (fun w hs => spec_MostUrgent ⟨_, _, rfl, hrd2 _ (fun c hc => hs.at_ c (List.mem_append_right _ (List.mem_append_left _ hc)))⟩ (by omega)) <| fun v3 ch3 how3 => ?_
    obtain ⟨R3, rc3, rfl, hR3, hrd3⟩ := how3.shape eInt
    refine AS rfl rfl <| ND <| SQ <| RG <| MV rfl rfl <| CN1 rfl fun_laws_toCandidateS rfl (fun w hs => laws_toCandidateS (hA.s Pl.keeps hs) (by omega)) <| fun v4 ch4 how4 => ?_
    obtain ⟨R4, rc4, rfl, hR4, hrd4⟩ := how4.shape eCandidate
    refine AS rfl rfl <| ND <| SQ <| RG <| MV rfl rfl <| CN1 rfl fun_impl_MostUrgent rfl (fun w hs => impl_MostUrgent ⟨_, _, rfl, hrd4 _ (fun c hc => hs.at_ c (List.mem_append_right _ (List.mem_append_left _ hc)))⟩ (by omega)) <| fun v5 ch5 how5 => ?_
    obtain ⟨R5, rc5, rfl, hR5, hrd5⟩ := how5.shape eInt
    refine AS rfl rfl <| ND <| SQ <| SQ <| RG <| MV rfl rfl <| MV rfl rfl <| CV1 rfl fun_laws_eqIntS rfl (fun w hs => laws_eqIntS ⟨_, _, rfl, hrd5 _ (fun c hc => hs.at_ c (List.mem_append_right _ (List.mem_append_left _ hc)))⟩ (by omega) ⟨_, _, rfl, hrd3 _ (fun c hc => hs.at_ c (List.mem_append_right _ (List.mem_append_right _ (List.mem_append_right _ (List.mem_append_left _ hc)))))⟩) <| NT rfl rfl <| ND <| CF rfl rfl <| SK <| SQ <| SQ <| RG <| MV rfl rfl <| MV rfl rfl <| CN1 rfl fun_laws_toCandidateS rfl (fun w hs => laws_toCandidateS (hA.s Pl.keeps hs) (by omega)) <| fun v6 ch6 how6 => ?_
    obtain ⟨R6, rc6, rfl, hR6, hrd6⟩ := how6.shape eCandidate
    refine CV1 rfl fun_laws_eqCandidateS rfl (fun w hs => laws_eqCandidateS ⟨_, _, rfl, hrd4 _ (fun c hc => hs.at_ c (List.mem_append_right _ (List.mem_append_right _ (List.mem_append_right _ (List.mem_append_left _ hc)))))⟩ (by omega) ⟨_, _, rfl, hrd6 _ (fun c hc => hs.at_ c (List.mem_append_right _ (List.mem_append_left _ hc)))⟩) <| NT rfl rfl <| ND <| CF rfl rfl <| SK <| SQ <| RG <| AS rfl rfl <| ND <| SQ <| RG <| MV rfl rfl <| MV rfl rfl <| rw_ch (G := ch4) (R := ch6 ++ (ch5 ++ (ch3 ++ (ch2 ++ ([]))))) rfl fun_laws_markCandidateS rfl (((((((((List.Perm.refl _)).append_left _).trans (pullc _ _ _))).append_left _).trans (pullc _ _ _)).trans ((List.Perm.refl _).append_left _))) (fun w hs hin hnd => laws_markCandidateS how4 (by first | omega | simp <;> omega) (by decide) (by decide) hin hnd) <| fun vh7 ch7 how7 => ?_
    obtain ⟨rfl, m7, hm7, hO7⟩ := how7
    obtain ⟨hn7, hrv7, hR7, hrd7⟩ := hO7.reshape eCandidate
    refine AS rfl rfl <| ND <| SQ <| SQ <| RG <| MV rfl rfl <| rw_lss rfl rfl rfl <| MV rfl rfl <| ON rfl rfl (kx_nn3 _) <| MV rfl rfl <| ON rfl rfl (kx_nn3 _) <| MV rfl rfl <| ON rfl rfl (kx_nn3 _) <| CV1 rfl fun_laws_eqIntS rfl (fun w hs => laws_eqIntS ⟨_, _, rfl, hrd5 _ (fun c hc => hs.at_ c (List.mem_append_right _ (List.mem_append_right _ (List.mem_append_right _ (List.mem_append_left _ hc)))))⟩ (by omega) ⟨_, _, rfl, hrd3 _ (fun c hc => hs.at_ c (List.mem_append_right _ (List.mem_append_right _ (List.mem_append_right _ (List.mem_append_right _ (List.mem_append_left _ hc))))))⟩) <| ?_
    refine ON rfl rfl (kx_nn3 _) <| NT rfl rfl <| PF rfl rfl (kx_nn3 _) rfl <| ND <| CF rfl rfl <| SK <| SQ <| RG <| AS rfl rfl <| ND <| SQ <| RG <| MV rfl rfl <| MV rfl rfl <| rw_ch (G := ch5) (R := ch7 ++ (ch6 ++ (ch3 ++ (ch2 ++ ([]))))) rfl fun_laws_markIntS rfl (((((((((List.Perm.refl _)).append_left _).trans (pullc _ _ _))).append_left _).trans (pullc _ _ _)).trans ((List.Perm.refl _).append_left _))) (fun w hs hin hnd => laws_markIntS how5 (by first | omega | simp <;> omega) (by decide) (by decide) hin hnd) <| fun vh8 ch8 how8 => ?_
    obtain ⟨rfl, hO8⟩ := how8
    obtain ⟨hn8, hrv8, hR8, hrd8⟩ := hO8.reshape eInt
    refine AS rfl rfl <| ND <| SQ <| RG <| AS rfl rfl <| ND <| SQ <| RG <| MV rfl rfl <| MV rfl rfl <| CV1 rfl fun_laws_heldIntS rfl (fun w hs => laws_heldIntS ⟨_, _, hrv8, hrd8 _ (fun c hc => hs.at_ c (List.mem_append_right _ (List.mem_append_left _ hc)))⟩ (by first | omega | simp <;> omega) (by decide) (by decide)) <| AS rfl rfl <| ND <| SQ <| SQ <| RG <| MV rfl rfl <| rw_lss rfl rfl rfl <| ND <| CF rfl (kx_nn _) <| SK <| SQ <| SQ <| RG <| MV rfl rfl <| MV rfl rfl <| NS rfl rfl rfl <| ?_
    refine ND <| CF rfl rfl <| SK <| SQ <| RG <| MV rfl rfl <| CN1 rfl fun_laws_toCandidateS rfl (fun w hs => laws_toCandidateS (hA.s Pl.keeps hs) (by omega)) <| fun v9 ch9 how9 => ?_
    obtain ⟨R9, rc9, rfl, hR9, hrd9⟩ := how9.shape eCandidate
    refine CN1 rfl fun_impl_MostUrgent rfl (fun w hs => impl_MostUrgent ⟨_, _, rfl, hrd9 _ (fun c hc => hs.at_ c (List.mem_append_right _ (List.mem_append_left _ hc)))⟩ (by omega)) <| fun v10 ch10 how10 => ?_
    obtain ⟨R10, rc10, rfl, hR10, hrd10⟩ := how10.shape eInt
    refine AS rfl rfl <| ND <| SQ <| SQ <| RG <| MV rfl rfl <| MV rfl rfl <| CV1 rfl fun_laws_eqIntS rfl (fun w hs => laws_eqIntS ⟨_, _, rfl, hrd10 _ (fun c hc => hs.at_ c (List.mem_append_right _ (List.mem_append_left _ hc)))⟩ (by omega) ⟨_, _, rfl, hrd3 _ (fun c hc => hs.at_ c (List.mem_append_right _ (List.mem_append_right _ (List.mem_append_right _ (List.mem_append_right _ (List.mem_append_right _ (List.mem_append_right _ (List.mem_append_left _ hc))))))))⟩) <| NT rfl rfl <| ND <| CF rfl rfl <| SK <| SQ <| RG <| AS rfl rfl <| ND <| SQ <| ?_
    refine RG <| MV rfl rfl <| MV rfl rfl <| CV1 rfl fun_laws_heldIntS rfl (fun w hs => laws_heldIntS ⟨_, _, hrv8, hrd8 _ (fun c hc => hs.at_ c (List.mem_append_right _ (List.mem_append_right _ (List.mem_append_right _ (List.mem_append_left _ hc)))))⟩ (by first | omega | simp <;> omega) (by decide) (by decide)) <| AS rfl rfl <| ND <| SQ <| SQ <| RG <| MV rfl rfl <| rw_lss rfl rfl rfl <| ND <| CF rfl (kx_nn _) <| SK <| SQ <| SQ <| RG <| MV rfl rfl <| MV rfl rfl <| NS rfl rfl rfl <| ND <| CF rfl rfl <| SK <| ?_
    refine SQ <| RG <| AS rfl rfl <| ND <| ret_cv Try.func3 (res1 Try.func3 rfl (rv_tmp rfl)) <| ?_
    rfl

theorem spec_ServeOrder_T {w : World} {v : Value} {l : List Candidate} (hv : RdS w 3 (Pl Candidate.cells) v l) (hb : l.length ≤ 134217728) (last n : Int) (hc : areCandidates l = true) (hp : 0 < l.length) : CN Try.prog 18 [v, .int .i64 last, .int .i64 n] w (fun v ch => OwS 3 1 (PlO intC) v (serveOrder l last n) ch) := by
  obtain ⟨A, c, rfl, hA⟩ := hv
  refine cn_of Try.func18 rfl rfl rfl <| SQ <| RG <| AS rfl rfl <| ND <| SQ <| RG <| rw_slice0 rfl tyM_S_int (PlO intC) <| fun v1 how1 => AS rfl rfl <| ND <| SQ <| SQ <| RG <| AS rfl rfl <| ND <| BK <| ?_
  refine gw_loopX (α := Nat × List Int × Int × Value × List Ck) (fun z_ => z_.1 ≤ 100 ∧ z_.2.1.length ≤ z_.1 ∧ OwA 3 1 (PlO intC) z_.2.2.2.1 z_.2.1 z_.2.2.2.2 ∧ serveFrom l (min n 100).toNat last = z_.2.1 ++ serveFrom l ((min n 100).toNat - z_.1) z_.2.2.1) (fun z_ => 100 - z_.1) (fun e z_ => (8, .int .i64 (z_.1 : Int)) :: (1, .int .i64 z_.2.2.1) :: (7, z_.2.2.2.1) :: e) (fun B _ => B) (fun F z_ => z_.2.2.2.2 ++ F) (0, [], last, v1, []) [(0, _), (2, _), (6, _)] (Sub.consE rfl rfl (Sub.consE rfl rfl (Sub.consE rfl rfl (Sub.cons (i := 0) rfl (Sub.cons (i := 2) rfl (Sub.cons (i := 6) rfl (Sub.nil _))))))) rfl rfl ?_ ?_
  · exact ⟨Nat.zero_le _, Nat.le_refl _, how1, rfl⟩
  · rintro ⟨i, o, z, v, ch⟩ hI2 ih2
    dsimp only at hI2
    dsimp only
    obtain ⟨hi100, hol, hO, hI⟩ := hI2
    refine SQ <| SQ <| RG <| MV rfl rfl <| MV rfl rfl <| rw_lss rfl rfl rfl <| MV rfl rfl <| ?_
    refine rw_case (j := 13) rfl (fun h1 => ?_) (fun h1 => ?_)
    · refine ON rfl rfl h1 <| MV rfl rfl <| ON rfl rfl h1 <| rw_lss rfl rfl rfl <| PT rfl rfl h1 rfl <| MV rfl rfl <| ?_
      refine rw_case (j := 17) rfl (fun h2 => ?_) (fun h2 => ?_)
      · refine ON rfl rfl h2 <| MV rfl rfl <| ON rfl rfl h2 <| rw_len rfl tyE_S_impl_Candidate rfl <| ON rfl rfl h2 <| rw_gtr rfl rfl rfl <| PT rfl rfl h2 rfl <| MV rfl rfl <| ON rfl rfl (gt_pos hp) <| MV rfl rfl <| ON rfl rfl (gt_pos hp) <| CV1 rfl fun_spec_AreCandidates rfl (fun w hs => spec_AreCandidates (hA.s Pl.keeps hs) (by omega)) <| PT rfl rfl (gt_pos hp) rfl <| ND <| CT rfl hc <| SK <| SQ <| BK <| SQ <| RG <| MV rfl rfl <| MV rfl rfl <| CV1 rfl fun_spec_NextStream rfl (fun w hs => spec_NextStream (hA.s Pl.keeps hs) (by omega) _) <| ?_
        refine AS rfl rfl <| ND <| RG <| MV rfl rfl <| MV rfl rfl <| rw_slice (xs := [(0, _)]) [_] rfl tyM_S_int rfl rfl rfl rfl <| fun b1 => rw_append1 (i := 0) (a := (nextStream l z)) rfl tyM_S_int eInt rfl rfl rfl hO ⟨rfl, rfl⟩ (.refl _) (by omega) <| fun v3 ch3 how3 => AS rfl rfl <| ND <| IB <| RG <| MV rfl rfl <| rw_add rfl rfl rfl <| AS rfl rfl <| ND <| gw_dropN 1 <| ?_
        refine gw_sub (Sub.consE (i := 8) rfl (int_succ (by omega)) (Sub.consE (i := 1) rfl rfl (Sub.consE (i := 7) rfl rfl (Sub.cons (i := 0) rfl (Sub.cons (i := 2) rfl (Sub.cons (i := 6) rfl (Sub.nil _))))))) (ih2 (i + 1, o ++ [nextStream l z], nextStream l z, v3, ch3) ?_ ?_)
        · have hlt : i < (min n 100).toNat := by have h8 : (i : Int) < n := (by simpa using h1); have h9 : (i : Int) < 100 := (by simpa using h2); omega
          exact ⟨by omega, by rw [List.length_append]; simp only [List.length_singleton]; omega, how3, by rw [hI, serve_step l z hlt]; simp⟩
        · show 100 - (i + 1) < 100 - i; have h9 : (i : Int) < 100 := (by simpa using h2); omega
      · refine OF rfl rfl h2 rfl <| OF rfl rfl h2 rfl <| OF rfl rfl h2 rfl <| PF rfl rfl h2 rfl <| MV rfl rfl <| OF rfl rfl rfl rfl <| OF rfl rfl rfl rfl <| PF rfl rfl rfl rfl <| ND <| CF rfl rfl <| EX rfl <| SQ <| RG <| MV rfl rfl <| AS rfl rfl <| ND <| ?_
        refine ret_cn ch Try.func18 (res1 Try.func18 rfl (rv_tmp rfl)) ?_ ?_
        · have hge : (min n 100).toNat ≤ i := by have : ¬ (i : Int) < 100 := (by simpa using h2); omega
          rw [serve_end l z hge, List.append_nil] at hI
          rw [serveOrder_T last n hc hp, hI]
          exact OwA.s hO
        · simp
    · refine OF rfl rfl h1 rfl <| OF rfl rfl h1 rfl <| PF rfl rfl h1 rfl <| MV rfl rfl <| OF rfl rfl rfl rfl <| OF rfl rfl rfl rfl <| OF rfl rfl rfl rfl <| PF rfl rfl rfl rfl <| MV rfl rfl <| OF rfl rfl rfl rfl <| OF rfl rfl rfl rfl <| PF rfl rfl rfl rfl <| ND <| CF rfl rfl <| EX rfl <| SQ <| RG <| MV rfl rfl <| AS rfl rfl <| ND <| ?_
      refine ret_cn ch Try.func18 (res1 Try.func18 rfl (rv_tmp rfl)) ?_ ?_
      · have hge : (min n 100).toNat ≤ i := by have : ¬ (i : Int) < n := (by simpa using h1); omega
        rw [serve_end l z hge, List.append_nil] at hI
        rw [serveOrder_T last n hc hp, hI]
        exact OwA.s hO
      · simp

theorem spec_ServeOrder_F {w : World} {v : Value} {l : List Candidate} (hv : RdS w 3 (Pl Candidate.cells) v l) (hb : l.length ≤ 134217728) (last n : Int) (hc : areCandidates l = false) : CN Try.prog 18 [v, .int .i64 last, .int .i64 n] w (fun v ch => OwS 3 1 (PlO intC) v (serveOrder l last n) ch) := by
  obtain ⟨A, c, rfl, hA⟩ := hv
  refine cn_of Try.func18 rfl rfl rfl <| SQ <| RG <| AS rfl rfl <| ND <| SQ <| RG <| rw_slice0 rfl tyM_S_int (PlO intC) <| fun v1 how1 => AS rfl rfl <| ND <| SQ <| SQ <| RG <| AS rfl rfl <| ND <| BK <| gw_loop1 <| SQ <| SQ <| RG <| MV rfl rfl <| MV rfl rfl <| rw_lss rfl rfl rfl <| MV rfl rfl <| ?_
  refine rw_case (j := 13) rfl (fun h1 => ?_) (fun h1 => ?_)
  · refine ON rfl rfl h1 <| MV rfl rfl <| ON rfl rfl h1 <| rw_lss rfl rfl rfl <| PT rfl rfl h1 rfl <| MV rfl rfl <| ON rfl rfl rfl <| MV rfl rfl <| ON rfl rfl rfl <| rw_len rfl tyE_S_impl_Candidate rfl <| ON rfl rfl rfl <| rw_gtr rfl rfl rfl <| PT rfl rfl rfl rfl <| MV rfl rfl <| ?_
    refine rw_case (j := 22) rfl (fun h2 => ?_) (fun h2 => ?_)
    · refine ON rfl rfl h2 <| MV rfl rfl <| ON rfl rfl h2 <| CV1 rfl fun_spec_AreCandidates rfl (fun w hs => spec_AreCandidates (hA.s Pl.keeps hs) (by omega)) <| PT rfl rfl h2 rfl <| ND <| CF rfl hc <| EX rfl <| SQ <| RG <| MV rfl rfl <| AS rfl rfl <| ND <| ?_
      refine ret_cn [] Try.func18 (res1 Try.func18 rfl (rv_tmp rfl)) ?_ ?_
      · rw [serveOrder_F last n hc]; exact OwA.s how1
      · simp
    · have hle2 : l.length ≤ 0 := le_of_dec h2
      refine OF rfl rfl h2 rfl <| OF rfl rfl h2 rfl <| PF rfl rfl h2 rfl <| ND <| CF rfl rfl <| EX rfl <| SQ <| RG <| MV rfl rfl <| AS rfl rfl <| ND <| ?_
      refine ret_cn [] Try.func18 (res1 Try.func18 rfl (rv_tmp rfl)) ?_ ?_
      · rw [serveOrder_F last n hc]; exact OwA.s how1
      · simp
  · refine OF rfl rfl h1 rfl <| OF rfl rfl h1 rfl <| PF rfl rfl h1 rfl <| MV rfl rfl <| OF rfl rfl rfl rfl <| OF rfl rfl rfl rfl <| OF rfl rfl rfl rfl <| PF rfl rfl rfl rfl <| MV rfl rfl <| OF rfl rfl rfl rfl <| OF rfl rfl rfl rfl <| PF rfl rfl rfl rfl <| ND <| CF rfl rfl <| EX rfl <| SQ <| RG <| MV rfl rfl <| AS rfl rfl <| ND <| ?_
    refine ret_cn [] Try.func18 (res1 Try.func18 rfl (rv_tmp rfl)) ?_ ?_
    · rw [serveOrder_F last n hc]; exact OwA.s how1
    · simp

theorem spec_ServeOrder_E {w : World} {v : Value} {l : List Candidate} (hv : RdS w 3 (Pl Candidate.cells) v l) (hb : l.length ≤ 134217728) (last n : Int) (he : l = []) : CN Try.prog 18 [v, .int .i64 last, .int .i64 n] w (fun v ch => OwS 3 1 (PlO intC) v (serveOrder l last n) ch) := by
  obtain ⟨A, c, rfl, hA⟩ := hv
  refine cn_of Try.func18 rfl rfl rfl <| SQ <| RG <| AS rfl rfl <| ND <| SQ <| RG <| rw_slice0 rfl tyM_S_int (PlO intC) <| fun v1 how1 => AS rfl rfl <| ND <| SQ <| SQ <| RG <| AS rfl rfl <| ND <| BK <| gw_loop1 <| SQ <| SQ <| RG <| MV rfl rfl <| MV rfl rfl <| rw_lss rfl rfl rfl <| MV rfl rfl <| ?_
  refine rw_case (j := 13) rfl (fun h1 => ?_) (fun h1 => ?_)
  · refine ON rfl rfl h1 <| MV rfl rfl <| ON rfl rfl h1 <| rw_lss rfl rfl rfl <| PT rfl rfl h1 rfl <| MV rfl rfl <| ON rfl rfl rfl <| MV rfl rfl <| ON rfl rfl rfl <| rw_len rfl tyE_S_impl_Candidate rfl <| ON rfl rfl rfl <| rw_gtr rfl rfl rfl <| PT rfl rfl rfl rfl <| MV rfl rfl <| OF rfl rfl (by rw [he]; rfl) rfl <| OF rfl rfl (by rw [he]; rfl) rfl <| PF rfl rfl (by rw [he]; rfl) rfl <| ND <| CF rfl rfl <| EX rfl <| SQ <| RG <| MV rfl rfl <| AS rfl rfl <| ?_
    refine ND <| ?_
    refine ret_cn [] Try.func18 (res1 Try.func18 rfl (rv_tmp rfl)) ?_ ?_
    · rw [he, serveOrder_E last n]; exact OwA.s how1
    · simp
  · refine OF rfl rfl h1 rfl <| OF rfl rfl h1 rfl <| PF rfl rfl h1 rfl <| MV rfl rfl <| OF rfl rfl rfl rfl <| OF rfl rfl rfl rfl <| OF rfl rfl rfl rfl <| PF rfl rfl rfl rfl <| MV rfl rfl <| OF rfl rfl rfl rfl <| OF rfl rfl rfl rfl <| PF rfl rfl rfl rfl <| ND <| CF rfl rfl <| EX rfl <| SQ <| RG <| MV rfl rfl <| AS rfl rfl <| ND <| ?_
    refine ret_cn [] Try.func18 (res1 Try.func18 rfl (rv_tmp rfl)) ?_ ?_
    · rw [he, serveOrder_E last n]; exact OwA.s how1
    · simp

theorem spec_ServeOrder {w : World} {v : Value} {l : List Candidate} (hv : RdS w 3 (Pl Candidate.cells) v l) (hb : l.length ≤ 134217728) (last n : Int) : CN Try.prog 18 [v, .int .i64 last, .int .i64 n] w (fun v ch => OwS 3 1 (PlO intC) v (serveOrder l last n) ch) := by
  cases hc : areCandidates l with
  | false => exact spec_ServeOrder_F hv hb last n hc
  | true =>
    rcases Nat.eq_zero_or_pos l.length with h0 | hp
    · exact spec_ServeOrder_E hv hb last n (List.eq_nil_of_length_eq_zero h0)
    · exact spec_ServeOrder_T hv hb last n hc hp

theorem impl_ServeOrder {w : World} {v : Value} {l : List Candidate} (hv : RdS w 3 (Pl Candidate.cells) v l) (hb : l.length ≤ 134217728) (last n : Int) : CN Try.prog 19 [v, .int .i64 last, .int .i64 n] w (fun v ch => OwS 3 1 (PlO intC) v (serveOrder l last n) ch) := by
  obtain ⟨A, c, rfl, hA⟩ := hv
  refine cn_of Try.func19 rfl rfl rfl <| SQ <| RG <| AS rfl rfl <| ND <| SQ <| RG <| rw_slice0 rfl tyM_S_int (PlO intC) <| fun v1 how1 => AS rfl rfl <| ND <| SQ <| SQ <| RG <| MV rfl rfl <| rw_len rfl tyE_S_impl_Candidate rfl <| EQ1 rfl rfl rfl <| MV rfl rfl <| ?_
  refine rw_case (j := 12) rfl (fun h1 => ?_) (fun h1 => ?_)
  · have hnil2 := nil_of_eq h1
    refine OF rfl rfl h1 rfl <| OF rfl rfl h1 rfl <| OF rfl rfl h1 rfl <| PT rfl rfl h1 rfl <| ND <| CT rfl rfl <| SQ <| RG <| MV rfl rfl <| AS rfl rfl <| ND <| ?_
    refine ret_cn [] Try.func19 (res1 Try.func19 rfl (rv_tmp rfl)) ?_ ?_
    · subst hnil2; exact OwA.s how1
    · simp
  · have hpos3 := pos_of_ne h1
    refine ON rfl rfl h1 <| MV rfl rfl <| ON rfl rfl h1 <| CV1 rfl fun_impl_AreCandidates rfl (fun w hs => impl_AreCandidates (hA.s Pl.keeps hs) (by omega)) <| ON rfl rfl h1 <| NT rfl rfl <| PF rfl rfl h1 rfl <| ND <| ?_
    refine gw_cond rfl (fun h2 => ?_) (fun h2 => ?_)
    · replace h2 := of_not_T h2
      refine SQ <| RG <| MV rfl rfl <| AS rfl rfl <| ND <| ?_
      refine ret_cn [] Try.func19 (res1 Try.func19 rfl (rv_tmp rfl)) ?_ ?_
      · rw [serveOrder_F last n (by assumption)]; exact OwA.s how1
      · simp
    · replace h2 := of_not_F h2
      refine SK <| SQ <| BK <| ?_
      refine gw_loopX (α := List Int × Int × Value × List Ck) (fun z_ => z_.1.length ≤ (min n 100).toNat ∧ OwA 3 1 (PlO intC) z_.2.2.1 z_.1 z_.2.2.2 ∧ serveFrom l (min n 100).toNat last = z_.1 ++ serveFrom l ((min n 100).toNat - z_.1.length) z_.2.1) (fun z_ => (min n 100).toNat - z_.1.length) (fun e z_ => (1, .int .i64 z_.2.1) :: (7, z_.2.2.1) :: e) (fun B _ => B) (fun F z_ => z_.2.2.2 ++ F) ([], last, v1, []) [(0, _), (2, _), (6, _)] (Sub.consE rfl rfl (Sub.consE rfl rfl (Sub.cons (i := 0) rfl (Sub.cons (i := 2) rfl (Sub.cons (i := 6) rfl (Sub.nil _)))))) rfl rfl ?_ ?_
      · exact ⟨Nat.zero_le _, how1, rfl⟩
      · rintro ⟨o, z, v, ch⟩ hI4 ih4
        dsimp only at hI4
        dsimp only
        obtain ⟨hol, hO, hI⟩ := hI4
        obtain ⟨Ao, co, rfl, _, _⟩ := (OwA.s hO).shape eInt
        refine SQ <| SQ <| RG <| MV rfl rfl <| rw_len rfl tyE_S_int rfl <| MV rfl rfl <| rw_min rfl rfl rfl <| rw_lss rfl rfl rfl <| ND <| ?_
        refine gw_cond rfl (fun h3 => ?_) (fun h3 => ?_)
        · refine SK <| BK <| SQ <| RG <| MV rfl rfl <| MV rfl rfl <| CV1 rfl fun_impl_NextStream rfl (fun w hs => impl_NextStream (hA.s Pl.keeps hs) (by omega) _) <| AS rfl rfl <| ND <| RG <| MV rfl rfl <| MV rfl rfl <| rw_slice (xs := [(0, _)]) [_] rfl tyM_S_int rfl rfl rfl rfl <| fun b1 => rw_append1 (i := 0) (a := (nextStream l z)) rfl tyM_S_int eInt rfl rfl rfl hO ⟨rfl, rfl⟩ (.refl _) (by omega) <| fun v5 ch5 how5 => AS rfl rfl <| ND <| IB <| gw_dropN 1 <| ?_
          refine gw_sub (Sub.consE (i := 1) rfl rfl (Sub.consE (i := 7) rfl rfl (Sub.cons (i := 0) rfl (Sub.cons (i := 2) rfl (Sub.cons (i := 6) rfl (Sub.nil _)))))) (ih4 (o ++ [nextStream l z], nextStream l z, v5, ch5) ?_ ?_)
          · have hlt : o.length < (min n 100).toNat := by have : (o.length : Int) < min n 100 := (by simpa using h3); omega
            exact ⟨by rw [List.length_append]; simp only [List.length_singleton]; omega, how5, by rw [hI, serve_step l z hlt, List.length_append]; simp⟩
          · show (min n 100).toNat - (o ++ [nextStream l z]).length < (min n 100).toNat - o.length; have hlt : (o.length : Int) < min n 100 := (by simpa using h3); rw [List.length_append]; simp only [List.length_singleton]; omega
        · refine EX rfl <| SQ <| RG <| MV rfl rfl <| AS rfl rfl <| ND <| ?_
          refine ret_cn ch Try.func19 (res1 Try.func19 rfl (rv_tmp rfl)) ?_ ?_
          · have hge : (min n 100).toNat ≤ o.length := by have : ¬ (o.length : Int) < min n 100 := (by simpa using h3); omega
            rw [serve_end l z hge, List.append_nil] at hI
            rw [serveOrder_T last n (by assumption) (by omega), hI]
            exact OwA.s hO
          · simp

theorem law_FnExactServeOrder {w : World} {v : Value} {l : List Candidate} (hv : RdS w 3 (Pl Candidate.cells) v l) (hb : l.length ≤ 9223372036854775807) (last n : Int) : CV Try.prog 5 [v, .int .i64 last, .int .i64 n] w (.bool true) := by
  obtain ⟨A, c, rfl, hA⟩ := hv
  have hml := serveOrder_len l last n
  refine cv_of Try.func5 rfl rfl rfl <| SQ <| RG <| AS rfl rfl <| ND <| SQ <| RG <| AS rfl rfl <| ND <| SQ <| RG <| MV rfl rfl <| MV rfl rfl <| CV1 rfl fun_laws_szCandidateS rfl (fun w hs => laws_szCandidateS (hA.s Pl.keeps hs) _) <| AS rfl rfl <| ND <| SQ <| SQ <| RG <| MV rfl rfl <| rw_lss rfl rfl rfl <| ND <| ?_
  refine gw_cond rfl (fun h1 => ?_) (fun h1 => ?_)
  · refine SQ <| RG <| AS rfl rfl <| ND <| ret_cv Try.func5 (res1 Try.func5 rfl (rv_tmp rfl)) <| ?_
    rfl
  · have hle1 : l.length ≤ 1048576 := szLen_le hb h1
    refine SK <| SQ <| RG <| MV rfl rfl <| CN1 rfl fun_laws_toCandidateS rfl (fun w hs => laws_toCandidateS (hA.s Pl.keeps hs) (by omega)) <| fun v2 ch2 how2 => ?_
    obtain ⟨R2, rc2, rfl, hR2, hrd2⟩ := how2.shape eCandidate
    refine MV rfl rfl <| MV rfl rfl <| CN1 rfl fun_spec_ServeOrder rfl (fun w hs => spec_ServeOrder ⟨_, _, rfl, hrd2 _ (fun c hc => hs.at_ c (List.mem_append_right _ (List.mem_append_left _ hc)))⟩ (by omega) _ _) <| fun v3 ch3 how3 => ?_
    obtain ⟨R3, rc3, rfl, hR3, hrd3⟩ := how3.shape eInt
    refine AS rfl rfl <| ND <| SQ <| RG <| MV rfl rfl <| CN1 rfl fun_laws_toCandidateS rfl (fun w hs => laws_toCandidateS (hA.s Pl.keeps hs) (by omega)) <| fun v4 ch4 how4 => ?_
    obtain ⟨R4, rc4, rfl, hR4, hrd4⟩ := how4.shape eCandidate
    refine AS rfl rfl <| ND <| SQ <| RG <| MV rfl rfl <| MV rfl rfl <| MV rfl rfl <| CN1 rfl fun_impl_ServeOrder rfl (fun w hs => impl_ServeOrder ⟨_, _, rfl, hrd4 _ (fun c hc => hs.at_ c (List.mem_append_right _ (List.mem_append_left _ hc)))⟩ (by omega) _ _) <| fun v5 ch5 how5 => ?_
    obtain ⟨R5, rc5, rfl, hR5, hrd5⟩ := how5.shape eInt
    refine AS rfl rfl <| ND <| SQ <| SQ <| RG <| MV rfl rfl <| MV rfl rfl <| CV1 rfl fun_laws_eqIntS rfl (fun w hs => laws_eqIntS ⟨_, _, rfl, hrd5 _ (fun c hc => hs.at_ c (List.mem_append_right _ (List.mem_append_left _ hc)))⟩ (by omega) ⟨_, _, rfl, hrd3 _ (fun c hc => hs.at_ c (List.mem_append_right _ (List.mem_append_right _ (List.mem_append_right _ (List.mem_append_left _ hc)))))⟩) <| NT rfl rfl <| ND <| CF rfl rfl <| SK <| SQ <| SQ <| RG <| MV rfl rfl <| MV rfl rfl <| CN1 rfl fun_laws_toCandidateS rfl (fun w hs => laws_toCandidateS (hA.s Pl.keeps hs) (by omega)) <| fun v6 ch6 how6 => ?_
    obtain ⟨R6, rc6, rfl, hR6, hrd6⟩ := how6.shape eCandidate
    refine CV1 rfl fun_laws_eqCandidateS rfl (fun w hs => laws_eqCandidateS ⟨_, _, rfl, hrd4 _ (fun c hc => hs.at_ c (List.mem_append_right _ (List.mem_append_right _ (List.mem_append_right _ (List.mem_append_left _ hc)))))⟩ (by omega) ⟨_, _, rfl, hrd6 _ (fun c hc => hs.at_ c (List.mem_append_right _ (List.mem_append_left _ hc)))⟩) <| NT rfl rfl <| ND <| CF rfl rfl <| SK <| SQ <| RG <| AS rfl rfl <| ND <| SQ <| RG <| MV rfl rfl <| MV rfl rfl <| rw_ch (G := ch4) (R := ch6 ++ (ch5 ++ (ch3 ++ (ch2 ++ ([]))))) rfl fun_laws_markCandidateS rfl (((((((((List.Perm.refl _)).append_left _).trans (pullc _ _ _))).append_left _).trans (pullc _ _ _)).trans ((List.Perm.refl _).append_left _))) (fun w hs hin hnd => laws_markCandidateS how4 (by first | omega | simp <;> omega) (by decide) (by decide) hin hnd) <| fun vh7 ch7 how7 => ?_
    obtain ⟨rfl, m7, hm7, hO7⟩ := how7
    obtain ⟨hn7, hrv7, hR7, hrd7⟩ := hO7.reshape eCandidate
    refine AS rfl rfl <| ND <| SQ <| SQ <| RG <| MV rfl rfl <| rw_lss rfl rfl rfl <| MV rfl rfl <| ON rfl rfl (kx_nn3 _) <| MV rfl rfl <| ON rfl rfl (kx_nn3 _) <| MV rfl rfl <| ON rfl rfl (kx_nn3 _) <| CV1 rfl fun_laws_eqIntS rfl (fun w hs => laws_eqIntS ⟨_, _, rfl, hrd5 _ (fun c hc => hs.at_ c (List.mem_append_right _ (List.mem_append_right _ (List.mem_append_right _ (List.mem_append_left _ hc)))))⟩ (by omega) ⟨_, _, rfl, hrd3 _ (fun c hc => hs.at_ c (List.mem_append_right _ (List.mem_append_right _ (List.mem_append_right _ (List.mem_append_right _ (List.mem_append_left _ hc))))))⟩) <| ?_
    refine ON rfl rfl (kx_nn3 _) <| NT rfl rfl <| PF rfl rfl (kx_nn3 _) rfl <| ND <| CF rfl rfl <| SK <| SQ <| RG <| AS rfl rfl <| ND <| SQ <| RG <| MV rfl rfl <| MV rfl rfl <| rw_ch (G := ch5) (R := ch7 ++ (ch6 ++ (ch3 ++ (ch2 ++ ([]))))) rfl fun_laws_markIntS rfl (((((((((List.Perm.refl _)).append_left _).trans (pullc _ _ _))).append_left _).trans (pullc _ _ _)).trans ((List.Perm.refl _).append_left _))) (fun w hs hin hnd => laws_markIntS how5 (by first | omega | simp <;> omega) (by decide) (by decide) hin hnd) <| fun vh8 ch8 how8 => ?_
    obtain ⟨rfl, hO8⟩ := how8
    obtain ⟨hn8, hrv8, hR8, hrd8⟩ := hO8.reshape eInt
    refine AS rfl rfl <| ND <| SQ <| RG <| AS rfl rfl <| ND <| SQ <| RG <| MV rfl rfl <| MV rfl rfl <| CV1 rfl fun_laws_heldIntS rfl (fun w hs => laws_heldIntS ⟨_, _, hrv8, hrd8 _ (fun c hc => hs.at_ c (List.mem_append_right _ (List.mem_append_left _ hc)))⟩ (by first | omega | simp <;> omega) (by decide) (by decide)) <| AS rfl rfl <| ND <| SQ <| SQ <| RG <| MV rfl rfl <| rw_lss rfl rfl rfl <| ND <| CF rfl (kx_nn _) <| SK <| SQ <| SQ <| RG <| MV rfl rfl <| MV rfl rfl <| NS rfl rfl rfl <| ?_
    refine ND <| CF rfl rfl <| SK <| SQ <| RG <| MV rfl rfl <| CN1 rfl fun_laws_toCandidateS rfl (fun w hs => laws_toCandidateS (hA.s Pl.keeps hs) (by omega)) <| fun v9 ch9 how9 => ?_
    obtain ⟨R9, rc9, rfl, hR9, hrd9⟩ := how9.shape eCandidate
    refine MV rfl rfl <| MV rfl rfl <| CN1 rfl fun_impl_ServeOrder rfl (fun w hs => impl_ServeOrder ⟨_, _, rfl, hrd9 _ (fun c hc => hs.at_ c (List.mem_append_right _ (List.mem_append_left _ hc)))⟩ (by omega) _ _) <| fun v10 ch10 how10 => ?_
    obtain ⟨R10, rc10, rfl, hR10, hrd10⟩ := how10.shape eInt
    refine AS rfl rfl <| ND <| SQ <| SQ <| RG <| MV rfl rfl <| MV rfl rfl <| CV1 rfl fun_laws_eqIntS rfl (fun w hs => laws_eqIntS ⟨_, _, rfl, hrd10 _ (fun c hc => hs.at_ c (List.mem_append_right _ (List.mem_append_left _ hc)))⟩ (by omega) ⟨_, _, rfl, hrd3 _ (fun c hc => hs.at_ c (List.mem_append_right _ (List.mem_append_right _ (List.mem_append_right _ (List.mem_append_right _ (List.mem_append_right _ (List.mem_append_right _ (List.mem_append_left _ hc))))))))⟩) <| NT rfl rfl <| ND <| CF rfl rfl <| SK <| SQ <| RG <| AS rfl rfl <| ND <| SQ <| ?_
    refine RG <| MV rfl rfl <| MV rfl rfl <| CV1 rfl fun_laws_heldIntS rfl (fun w hs => laws_heldIntS ⟨_, _, hrv8, hrd8 _ (fun c hc => hs.at_ c (List.mem_append_right _ (List.mem_append_right _ (List.mem_append_right _ (List.mem_append_left _ hc)))))⟩ (by first | omega | simp <;> omega) (by decide) (by decide)) <| AS rfl rfl <| ND <| SQ <| SQ <| RG <| MV rfl rfl <| rw_lss rfl rfl rfl <| ND <| CF rfl (kx_nn _) <| SK <| SQ <| SQ <| RG <| MV rfl rfl <| MV rfl rfl <| NS rfl rfl rfl <| ND <| CF rfl rfl <| SK <| ?_
    refine SQ <| RG <| AS rfl rfl <| ND <| ret_cv Try.func5 (res1 Try.func5 rfl (rv_tmp rfl)) <| ?_
    rfl
end Go.Proofs.Ytajcfmibcnibpaa
