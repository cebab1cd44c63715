/- Walks: counts and allowances drawn. -/
import Derived.Test.YtajcfmibcnibpaaFactsU
import Derived.Test.YtajcfmibcnibpaaCur
import Derived.Test.YtajcfmibcnibpaaSlt
import Derived.Test.YtajcfmibcnibpaaCounts
namespace Go.Proofs.Ytajcfmibcnibpaa
open SL Go.RowKit
theorem spec_l1New {w : World} {cp : Nat} {A : Option Addr} {l : List UInt8} (hA : RdL w 1 (Pl byC) A l) (hb : l.length ≤ 134217728) : CN Try.prog 56 [.slice A l.length cp] w (fun v ch => ∃ (b : Nat) (h : Int), v = .pointer (some ⟨b, 0, none⟩) ∧ ch = [cur b A l.length cp 0 h]) := by
  refine cn_of Try.func56 rfl rfl rfl <| SQ <| RG <| AS rfl rfl <| ND <| SQ <| RG <| MV rfl rfl <| rw_len rfl tyE_S_uint8 rfl <| rw_add rfl rfl rfl <| AS rfl rfl <| ND <| SQ <| SQ <| RG <| AS rfl rfl <| ND <| BK <| ?_
  refine gw_loopC (α := Nat × Int) (fun z_ => z_.1 ≤ l.length) (fun z_ => l.length - z_.1) (fun e z_ => (4, .int .i64 (z_.1 : Int)) :: (3, .int .i64 z_.2) :: e) (0, _) [(0, _), (2, _)] (Sub.consE rfl rfl (Sub.consE rfl rfl (Sub.cons (i := 0) rfl (Sub.cons (i := 2) rfl (Sub.nil _))))) ?_ ?_
  · exact Nat.zero_le _
  · rintro ⟨i, h⟩ hI1 ih1
    dsimp only at hI1
    dsimp only
    have hle := hI1
    refine SQ <| SQ <| RG <| MV rfl rfl <| MV rfl rfl <| rw_len rfl tyE_S_uint8 rfl <| rw_lss rfl rfl rfl <| MV rfl rfl <| ?_
    refine rw_case (j := 12) rfl (fun h1 => ?_) (fun h1 => ?_)
    · have hi2 := lt_of_dec h1
      obtain ⟨x3, hx3⟩ := get_of_lt hi2
      have hd3 := drop_cons hx3
      refine ON rfl rfl h1 <| MV rfl rfl <| ON rfl rfl h1 <| rw_lss rfl rfl rfl <| PT rfl rfl h1 rfl <| ND <| ?_
      refine gw_cond rfl (fun h2 => ?_) (fun h2 => ?_)
      · refine SK <| SQ <| BK <| RG <| MV rfl rfl <| rw_mul rfl rfl rfl <| MV rfl rfl <| MV rfl rfl <| ?_
        have hq4 := hA.plain hx3
        refine rw_indexAddr (i) rfl tyE_S_uint8 rfl rfl rfl (hA.some hi2) hi2 <| rw_loadX _ rfl tyP_uint8 rfl (fun w hs => hq4.ld0 hs rfl) <| rw_convI rfl tyCI_uint8_int rfl <| rw_add rfl rfl rfl <| rw_add rfl rfl rfl <| rw_and rfl rfl rfl <| AS rfl rfl <| ND <| IB <| RG <| MV rfl rfl <| rw_add rfl rfl rfl <| AS rfl rfl <| ND <| ?_
        refine gw_sub (Sub.consE (i := 4) rfl (int_succ (by omega)) (Sub.consE (i := 3) rfl rfl (Sub.cons (i := 0) rfl (Sub.cons (i := 2) rfl (Sub.nil _))))) (ih1 (i + 1, _) ?_ ?_)
        · show i + 1 ≤ l.length; omega
        · show l.length - (i + 1) < l.length - i; omega
      · refine EX rfl <| SQ <| RG <| MV rfl rfl <| MV rfl rfl <| rw_build [_, _, _] rfl tyB_spec_l1Cur tyZ_spec_l1Cur rfl rfl <| BX [_, _, _] rfl rfl rfl <| fun b1 => AS rfl rfl <| ND <| ret_cnB Try.func56 (res1 Try.func56 rfl (rv_tmp rfl)) <| ?_
        exact ⟨_, _, rfl, rfl⟩
    · have hn5 := nil_of_dec h1
      refine OF rfl rfl h1 rfl <| OF rfl rfl h1 rfl <| PF rfl rfl h1 rfl <| ND <| CF rfl rfl <| EX rfl <| SQ <| RG <| MV rfl rfl <| MV rfl rfl <| rw_build [_, _, _] rfl tyB_spec_l1Cur tyZ_spec_l1Cur rfl rfl <| BX [_, _, _] rfl rfl rfl <| fun b2 => AS rfl rfl <| ND <| ret_cnB Try.func56 (res1 Try.func56 rfl (rv_tmp rfl)) <| ?_
      exact ⟨_, _, rfl, rfl⟩

theorem spec_l1Byte {w : World} {b cp i : Nat} {A : Option Addr} {l : List UInt8} {h : Int} (hr : Rdb byC w A l b) (hi : i ≤ l.length) (hin : ∀ c ∈ [cur b A l.length cp i h], c.In w) (hnd : ([cur b A l.length cp i h].map Ck.b).Nodup) : CH Try.prog 69 [.pointer (some ⟨b, 0, none⟩)] w [cur b A l.length cp i h] (Drew natV (· ≤ 255) b A l.length cp []) := by
  refine ch_ofB hin hnd Try.func69 rfl rfl rfl <| SQ <| RG <| AS rfl rfl <| ND <| SQ <| RG <| MV rfl rfl <| MV rfl rfl <| rw_nilCheck rfl rfl <| FA rfl tyF_spec_l1Cur_2 rfl <| LD (i := 0) rfl tyP_int rfl rfl rfl <| rw_mul rfl rfl rfl <| rw_add rfl rfl rfl <| rw_nilCheck rfl rfl <| FA rfl tyF_spec_l1Cur_2 rfl <| ST (i := 0) [_] [_, _, _] tyP_int.sz rfl rfl rfl rfl rfl rfl rfl rfl <| ND <| SQ <| gw_draw' [(0, .det), (1, .det), (2, .det), (3, .det), (4, .det), (5, .det), (6, .det), (7, .det), (8, .det), (9, .det)] [10, 11, 12] mixed rfl (free_det (free_det (free_det (free_det (free_det (free_det (free_det (free_det (free_det (free_det free_nil)))))))))) (ts := [_, _, _]) rfl <| ?_
  refine DT rfl rfl (fun K hk => MV rfl rfl hk) <| DT rfl rfl (fun K hk => rw_nilCheck rfl rfl hk) <| DT rfl rfl (fun K hk => FA rfl tyF_spec_l1Cur_2 rfl hk) <| DT rfl rfl (fun K hk => LD (i := 0) rfl tyP_int rfl rfl rfl hk) <| DT rfl rfl (fun K hk => rw_shr rfl rfl rfl (by decide) (by decide) hk) <| DT rfl rfl (fun K hk => MV rfl rfl hk) <| DT rfl rfl (fun K hk => rw_nilCheck rfl rfl hk) <| DT rfl rfl (fun K hk => FA rfl tyF_spec_l1Cur_2 rfl hk) <| DT rfl rfl (fun K hk => LD (i := 0) rfl tyP_int rfl rfl rfl hk) <| ?_
  refine DT rfl rfl (fun K hk => rw_shr rfl rfl rfl (by decide) (by decide) hk) <| dw_nil <| rw_xor rfl rfl rfl <| rw_and rfl rfl rfl <| AS rfl rfl <| ND <| SQ <| SQ <| gw_draw' [(0, .det), (1, .det), (2, .det), (3, .det), (4, .det), (5, .det), (6, .det), (7, .det), (8, .det)] [9] mixed rfl (free_det (free_det (free_det (free_det (free_det (free_det (free_det (free_det (free_det free_nil))))))))) (ts := [_]) rfl <| DT rfl rfl (fun K hk => MV rfl rfl hk) <| DT rfl rfl (fun K hk => rw_nilCheck rfl rfl hk) <| DT rfl rfl (fun K hk => FA rfl tyF_spec_l1Cur_1 rfl hk) <| ?_
  refine DT rfl rfl (fun K hk => LD (i := 0) rfl tyP_int rfl rfl rfl hk) <| DT rfl rfl (fun K hk => MV rfl rfl hk) <| DT rfl rfl (fun K hk => rw_nilCheck rfl rfl hk) <| DT rfl rfl (fun K hk => FA rfl tyF_spec_l1Cur_0 rfl hk) <| DT rfl rfl (fun K hk => LD (i := 0) rfl tyP_S_uint8 rfl rfl rfl hk) <| DT rfl rfl (fun K hk => rw_len rfl tyE_S_uint8 rfl hk) <| dw_nil <| rw_lss rfl rfl rfl <| ND <| ?_
  refine gw_cond rfl (fun h1 => ?_) (fun h1 => ?_)
  · have hi1 := lt_of_dec h1
    obtain ⟨x2, hx2⟩ := get_of_lt hi1
    have hd2 := drop_cons hx2
    refine SQ <| gw_draw' [(0, .det), (1, .det), (2, .det), (3, .det), (4, .det), (5, .det), (6, .det), (7, .det), (8, .det), (9, .det), (10, .det), (11, .det)] [12, 13, 14] mixed rfl (free_det (free_det (free_det (free_det (free_det (free_det (free_det (free_det (free_det (free_det (free_det (free_det free_nil)))))))))))) (ts := [_, _, _]) rfl <| DT rfl rfl (fun K hk => MV rfl rfl hk) <| DT rfl rfl (fun K hk => MV rfl rfl hk) <| DT rfl rfl (fun K hk => rw_nilCheck rfl rfl hk) <| DT rfl rfl (fun K hk => FA rfl tyF_spec_l1Cur_0 rfl hk) <| DT rfl rfl (fun K hk => LD (i := 0) rfl tyP_S_uint8 rfl rfl rfl hk) <| ?_
    refine DT rfl rfl (fun K hk => MV rfl rfl hk) <| DT rfl rfl (fun K hk => rw_nilCheck rfl rfl hk) <| DT rfl rfl (fun K hk => FA rfl tyF_spec_l1Cur_1 rfl hk) <| DT rfl rfl (fun K hk => LD (i := 0) rfl tyP_int rfl rfl rfl hk) <| ?_
    have hq3 := hr.plain hx2
    refine DT rfl rfl (fun K hk => rw_indexAddr (i) rfl tyE_S_uint8 rfl rfl rfl (hr.some hi1) hi1 hk) <| DT rfl rfl (fun K hk => rw_loadX _ rfl tyP_uint8 rfl (fun w hs => hq3.ld0 hs rfl) hk) <| DT rfl rfl (fun K hk => rw_convI rfl tyCI_uint8_int rfl hk) <| dw_nil <| rw_add rfl rfl rfl <| rw_and rfl rfl rfl <| AS rfl rfl <| ND <| RG <| MV rfl rfl <| MV rfl rfl <| rw_nilCheck rfl rfl <| FA rfl tyF_spec_l1Cur_1 rfl <| LD (i := 0) rfl tyP_int rfl rfl rfl <| rw_add rfl rfl rfl <| rw_nilCheck rfl rfl <| FA rfl tyF_spec_l1Cur_1 rfl <| ?_
    refine ST (i := 0) [_] [_, _, _] tyP_int.sz rfl rfl rfl rfl rfl rfl rfl rfl <| ND <| SQ <| RG <| MV rfl rfl <| AS rfl rfl <| ND <| ret_chB Try.func69 (res1 Try.func69 rfl (rv_tmp rfl)) <| ?_
    exact drew_byte1 hi1 hr.len
  · have hn4 := nil_of_dec h1
    refine SK <| SQ <| RG <| MV rfl rfl <| AS rfl rfl <| ND <| ret_chB Try.func69 (res1 Try.func69 rfl (rv_tmp rfl)) <| ?_
    exact drew_byte hi

theorem spec_l1Below {w : World} {b cp i : Nat} {A : Option Addr} {l : List UInt8} {h : Int} (hr : Rdb byC w A l b) (hi : i ≤ l.length) {n : Nat} (h0 : 0 < n) (h256 : n ≤ 256) (hin : ∀ c ∈ [cur b A l.length cp i h], c.In w) (hnd : ([cur b A l.length cp i h].map Ck.b).Nodup) : CH Try.prog 61 [.pointer (some ⟨b, 0, none⟩), .int .i64 (n : Int)] w [cur b A l.length cp i h] (Drew natV (· < n) b A l.length cp []) := by
  refine ch_of hin hnd Try.func61 rfl rfl rfl <| SQ <| RG <| AS rfl rfl <| ND <| SQ <| SQ <| RG <| MV rfl rfl <| rw_leq rfl rfl rfl <| ND <| CF rfl (decide_eq_false (by omega)) <| SK <| SQ <| SQ <| RG <| MV rfl rfl <| rw_leq rfl rfl rfl <| ND <| CT rfl (decide_eq_true (by omega)) <| SQ <| RG <| MV rfl rfl <| rw_ch (G := [cur b A l.length cp i h]) (R := []) rfl fun_spec_l1Byte rfl (((List.Perm.refl _).trans ((List.Perm.refl _).append_left _))) (fun w hs hin hnd => spec_l1Byte (hr.sat hs) hi hin hnd) <| fun v1 ch1 how1 => ?_
  obtain ⟨x1, i1, k1, rfl, hx1, hi1, rfl⟩ := how1
  refine MV rfl rfl <| rw_rem rfl rfl rfl (by first | decide | omega) <| AS rfl rfl <| ND <| ?_
  refine ret_ch [cur b A l.length cp i1 k1] Try.func61 (res1 Try.func61 rfl (rv_tmp rfl)) ?_ ?_
  · exact drew_below h0 hi1
  · exact List.singleton_sublist.2 (by simp)

theorem spec_l1In (a b c : Int) (w : World) : CV Try.prog 58 [.int .i64 a, .int .i64 b, .int .i64 c] w (.bool (within a b c)) := by
  refine cv_of Try.func58 rfl rfl rfl <| SQ <| RG <| AS rfl rfl <| ND <| SQ <| RG <| MV rfl rfl <| MV rfl rfl <| rw_geq rfl rfl rfl <| MV rfl rfl <| ?_
  refine rw_case (j := 10) rfl (fun h1 => ?_) (fun h1 => ?_)
  · refine ON rfl rfl h1 <| MV rfl rfl <| ON rfl rfl h1 <| MV rfl rfl <| ON rfl rfl h1 <| rw_leq rfl rfl rfl <| PT rfl rfl h1 rfl <| AS rfl rfl <| ND <| ret_cv Try.func58 (res1 Try.func58 rfl (rv_tmp rfl)) <| ?_
    simp only [within, h1] <;> rfl
  · refine OF rfl rfl h1 rfl <| OF rfl rfl h1 rfl <| OF rfl rfl h1 rfl <| PF rfl rfl h1 rfl <| AS rfl rfl <| ND <| ret_cv Try.func58 (res1 Try.func58 rfl (rv_tmp rfl)) <| ?_
    simp only [within, h1] <;> rfl

theorem spec_NewCount (n : Int) (w : World) : CV Try.prog 42 [.int .i64 n] w (.tuple #[.agg (newCount n).cells.toArray, .bool (within n 0 1152921504606846976)]) := by
  refine cv_of Try.func42 rfl rfl rfl <| SQ <| RG <| AL rfl tyZ_impl_Count <| fun b1 => AS rfl rfl <| ND <| SQ <| SQ <| RG <| MV rfl rfl <| CV1 rfl fun_spec_l1In rfl (fun w hs => spec_l1In _ _ _ w) <| NT rfl rfl <| ND <| ?_
  refine gw_cond rfl (fun h1 => ?_) (fun h1 => ?_)
  · replace h1 := of_not_T h1
    refine SQ <| RG <| rw_build [_, _, _] rfl tyB_impl_Count tyZ_impl_Count rfl rfl <| ST (i := 0) [_, _, _] [_, _, _] tyS_impl_Count.sz rfl rfl rfl rfl rfl rfl rfl rfl <| AS rfl rfl <| ND <| ret_cv Try.func42 (res2 Try.func42 rfl (rv_s (i := 0) [_, _, _] tyS_impl_Count rfl rfl rfl rfl) (rv_tmp rfl)) <| ?_
    simp [newCount, Count.cells, h1]
  · replace h1 := of_not_F h1
    refine SK <| SQ <| RG <| MV rfl rfl <| rw_build [_, _, _] rfl tyB_impl_Count tyZ_impl_Count rfl rfl <| ST (i := 0) [_, _, _] [_, _, _] tyS_impl_Count.sz rfl rfl rfl rfl rfl rfl rfl rfl <| AS rfl rfl <| ND <| ret_cv Try.func42 (res2 Try.func42 rfl (rv_s (i := 0) [_, _, _] tyS_impl_Count rfl rfl rfl rfl) (rv_tmp rfl)) <| ?_
    simp [newCount, Count.cells, h1]

theorem spec_l1Once {w : World} {b cp i : Nat} {A : Option Addr} {l : List UInt8} {h : Int} (hr : Rdb byC w A l b) (hi : i ≤ l.length) {n : Nat} (h0 : 0 < n) (h256 : n ≤ 256) (hin : ∀ c ∈ [cur b A l.length cp i h], c.In w) (hnd : ([cur b A l.length cp i h].map Ck.b).Nodup) : CH Try.prog 68 [.pointer (some ⟨b, 0, none⟩), .int .i64 (n : Int)] w [cur b A l.length cp i h] (Drew Value.bool (fun _ => True) b A l.length cp []) := by
  refine ch_of hin hnd Try.func68 rfl rfl rfl <| SQ <| RG <| AS rfl rfl <| ND <| SQ <| RG <| MV rfl rfl <| MV rfl rfl <| rw_ch (G := [cur b A l.length cp i h]) (R := []) rfl fun_spec_l1Below rfl (((List.Perm.refl _).trans ((List.Perm.refl _).append_left _))) (fun w hs hin hnd => spec_l1Below (hr.sat hs) hi (n := n) h0 h256 hin hnd) <| fun v1 ch1 how1 => ?_
  obtain ⟨x1, i1, k1, rfl, hx1, hi1, rfl⟩ := how1
  refine EQ1 rfl rfl rfl <| AS rfl rfl <| ND <| ?_
  refine ret_ch [cur b A l.length cp i1 k1] Try.func68 (res1 Try.func68 rfl (rv_tmp rfl)) ?_ ?_
  · exact ⟨_, _, _, rfl, trivial, hi1, rfl⟩
  · exact List.singleton_sublist.2 (by simp)

theorem spec_IsCount (a : Count) (w : World) : CV Try.prog 25 [.agg a.cells.toArray] w (.bool (isCount a)) := by
  refine cv_of Try.func25 rfl rfl rfl <| SQ <| RG <| BX [_, _, _] rfl rfl rfl <| fun b1 => AS rfl rfl <| ND <| SQ <| RG <| FA rfl tyF_impl_Count_0 rfl <| LD (i := 0) rfl tyP_int rfl rfl rfl <| CV1 rfl fun_spec_l1In rfl (fun w hs => spec_l1In _ _ _ w) <| MV rfl rfl <| ?_
  refine rw_case (j := 6) rfl (fun h1 => ?_) (fun h1 => ?_)
  · refine ON rfl rfl h1 <| FA rfl tyF_impl_Count_1 rfl <| ON rfl rfl h1 <| LD (i := 0) rfl tyP_int rfl rfl rfl <| ON rfl rfl h1 <| FA rfl tyF_impl_Count_0 rfl <| ON rfl rfl h1 <| LD (i := 0) rfl tyP_int rfl rfl rfl <| ON rfl rfl h1 <| CV1 rfl fun_spec_l1In rfl (fun w hs => spec_l1In _ _ _ w) <| PT rfl rfl h1 rfl <| MV rfl rfl <| ?_
    refine rw_case (j := 13) rfl (fun h2 => ?_) (fun h2 => ?_)
    · refine ON rfl rfl h2 <| FA rfl tyF_impl_Count_2 rfl <| ON rfl rfl h2 <| LD (i := 0) rfl tyP_int rfl rfl rfl <| ON rfl rfl h2 <| FA rfl tyF_impl_Count_0 rfl <| ON rfl rfl h2 <| LD (i := 0) rfl tyP_int rfl rfl rfl <| ON rfl rfl h2 <| CV1 rfl fun_spec_l1In rfl (fun w hs => spec_l1In _ _ _ w) <| PT rfl rfl h2 rfl <| AS rfl rfl <| ND <| ret_cv Try.func25 (res1 Try.func25 rfl (rv_tmp rfl)) <| ?_
      simp only [isCount, h1, h2] <;> rfl
    · refine OF rfl rfl h2 rfl <| OF rfl rfl h2 rfl <| OF rfl rfl h2 rfl <| OF rfl rfl h2 rfl <| OF rfl rfl h2 rfl <| PF rfl rfl h2 rfl <| AS rfl rfl <| ND <| ret_cv Try.func25 (res1 Try.func25 rfl (rv_tmp rfl)) <| ?_
      simp only [isCount, h1, h2] <;> rfl
  · refine OF rfl rfl h1 rfl <| OF rfl rfl h1 rfl <| OF rfl rfl h1 rfl <| OF rfl rfl h1 rfl <| OF rfl rfl h1 rfl <| PF rfl rfl h1 rfl <| MV rfl rfl <| OF rfl rfl rfl rfl <| OF rfl rfl rfl rfl <| OF rfl rfl rfl rfl <| OF rfl rfl rfl rfl <| OF rfl rfl rfl rfl <| PF rfl rfl rfl rfl <| AS rfl rfl <| ND <| ret_cv Try.func25 (res1 Try.func25 rfl (rv_tmp rfl)) <| ?_
    simp only [isCount, h1] <;> rfl

theorem spec_RaiseCount (c : Count) (n : Int) (w : World) : CV Try.prog 28 [.agg c.cells.toArray, .int .i64 n] w (.agg (raiseCount c n).cells.toArray) := by
  refine cv_of Try.func28 rfl rfl rfl <| SQ <| RG <| BX [_, _, _] rfl rfl rfl <| fun b1 => AL rfl tyZ_impl_Count <| fun b2 => ND <| SQ <| SQ <| RG <| LS (i := 1) [_, _, _] rfl tyS_impl_Count rfl rfl rfl rfl <| CV1 rfl fun_spec_IsCount rfl (fun w hs => spec_IsCount _ w) <| NT rfl rfl <| MV rfl rfl <| ?_
  refine rw_case (j := 8) rfl (fun h1 => ?_) (fun h1 => ?_)
  · replace h1 := of_not_T h1
    refine OF rfl rfl (not_F h1) rfl <| OF rfl rfl (not_F h1) rfl <| OF rfl rfl (not_F h1) rfl <| OF rfl rfl (not_F h1) rfl <| PT rfl rfl (not_F h1) rfl <| MV rfl rfl <| OF rfl rfl rfl rfl <| OF rfl rfl rfl rfl <| PT rfl rfl rfl rfl <| ND <| CT rfl rfl <| SQ <| RG <| LS (i := 1) [_, _, _] rfl tyS_impl_Count rfl rfl rfl rfl <| ST (i := 0) [_, _, _] [_, _, _] tyS_impl_Count.sz rfl rfl rfl rfl rfl rfl rfl rfl <| ND <| ret_cv Try.func28 (res1 Try.func28 rfl (rv_s (i := 0) [_, _, _] tyS_impl_Count rfl rfl rfl rfl)) <| ?_
    rw [raiseCount_spec]; simp only [raiseCountS, h1] <;> rfl
  · replace h1 := of_not_F h1
    refine ON rfl rfl (not_T h1) <| MV rfl rfl <| ON rfl rfl (not_T h1) <| FA rfl tyF_impl_Count_0 rfl <| ON rfl rfl (not_T h1) <| LD (i := 1) rfl tyP_int rfl rfl rfl <| ON rfl rfl (not_T h1) <| rw_leq rfl rfl rfl <| PF rfl rfl (not_T h1) rfl <| MV rfl rfl <| ?_
    refine rw_case (j := 14) rfl (fun h2 => ?_) (fun h2 => ?_)
    · refine OF rfl rfl h2 rfl <| OF rfl rfl h2 rfl <| PT rfl rfl h2 rfl <| ND <| CT rfl rfl <| SQ <| RG <| LS (i := 1) [_, _, _] rfl tyS_impl_Count rfl rfl rfl rfl <| ST (i := 0) [_, _, _] [_, _, _] tyS_impl_Count.sz rfl rfl rfl rfl rfl rfl rfl rfl <| ND <| ret_cv Try.func28 (res1 Try.func28 rfl (rv_s (i := 0) [_, _, _] tyS_impl_Count rfl rfl rfl rfl)) <| ?_
      rw [raiseCount_spec]; simp only [raiseCountS, h1, h2] <;> rfl
    · refine ON rfl rfl h2 <| MV rfl rfl <| ON rfl rfl h2 <| rw_gtr rfl rfl rfl <| PF rfl rfl h2 rfl <| ND <| ?_
      refine gw_cond rfl (fun h3 => ?_) (fun h3 => ?_)
      · refine SQ <| RG <| LS (i := 1) [_, _, _] rfl tyS_impl_Count rfl rfl rfl rfl <| ST (i := 0) [_, _, _] [_, _, _] tyS_impl_Count.sz rfl rfl rfl rfl rfl rfl rfl rfl <| ND <| ret_cv Try.func28 (res1 Try.func28 rfl (rv_s (i := 0) [_, _, _] tyS_impl_Count rfl rfl rfl rfl)) <| ?_
        rw [raiseCount_spec]; simp only [raiseCountS, h1, h2, h3] <;> rfl
      · refine SK <| SQ <| RG <| MV rfl rfl <| FA rfl tyF_impl_Count_0 rfl <| ST (i := 1) [_] [_, _, _] tyP_int.sz rfl rfl rfl rfl rfl rfl rfl rfl <| ND <| SQ <| RG <| FA rfl tyF_impl_Count_2 rfl <| ST (i := 1) [_] [_, _, _] tyP_int.sz rfl rfl rfl rfl rfl rfl rfl rfl <| ND <| SQ <| RG <| LS (i := 1) [_, _, _] rfl tyS_impl_Count rfl rfl rfl rfl <| ST (i := 0) [_, _, _] [_, _, _] tyS_impl_Count.sz rfl rfl rfl rfl rfl rfl rfl rfl <| ND <| ret_cv Try.func28 (res1 Try.func28 rfl (rv_s (i := 0) [_, _, _] tyS_impl_Count rfl rfl rfl rfl)) <| ?_
        rw [raiseCount_spec]; simp only [raiseCountS, h1, h2, h3] <;> rfl

theorem spec_OpenNext (a : Count) (w : World) : CV Try.prog 23 [.agg a.cells.toArray] w (.tuple #[.int .i64 (openNext a).1, .agg (openNext a).2.1.cells.toArray, .bool (openNext a).2.2]) := by
  refine cv_of Try.func23 rfl rfl rfl <| SQ <| RG <| BX [_, _, _] rfl rfl rfl <| fun b1 => AS rfl rfl <| AL rfl tyZ_impl_Count <| fun b2 => AS rfl rfl <| ND <| SQ <| SQ <| RG <| LS (i := 1) [_, _, _] rfl tyS_impl_Count rfl rfl rfl rfl <| CV1 rfl fun_spec_IsCount rfl (fun w hs => spec_IsCount _ w) <| NT rfl rfl <| ND <| ?_
  refine gw_cond rfl (fun h1 => ?_) (fun h1 => ?_)
  · replace h1 := of_not_T h1
    refine SQ <| gw_draw' [(0, .det), (1, .det)] [2, 3] mixed rfl (free_det (free_det free_nil)) (ts := [_, _]) rfl <| DT rfl rfl (fun K hk => LS (i := 1) [_, _, _] rfl tyS_impl_Count rfl rfl rfl rfl hk) <| DT rfl rfl (fun K hk => AS rfl rfl hk) <| dw_nil <| ST (i := 0) [_, _, _] [_, _, _] tyS_impl_Count.sz rfl rfl rfl rfl rfl rfl rfl rfl <| AS rfl rfl <| ND <| ret_cv Try.func23 (res3 Try.func23 rfl (rv_tmp rfl) (rv_s (i := 0) [_, _, _] tyS_impl_Count rfl rfl rfl rfl) (rv_tmp rfl)) <| ?_
    rw [openNext_spec]; simp only [openNextS, h1] <;> rfl
  · replace h1 := of_not_F h1
    refine SK <| SQ <| SQ <| RG <| FA rfl tyF_impl_Count_1 rfl <| LD (i := 1) rfl tyP_int rfl rfl rfl <| FA rfl tyF_impl_Count_0 rfl <| LD (i := 1) rfl tyP_int rfl rfl rfl <| EQ1 rfl rfl rfl <| ND <| ?_
    refine gw_cond rfl (fun h2 => ?_) (fun h2 => ?_)
    · refine SQ <| RG <| FA rfl tyF_impl_Count_0 rfl <| LD (i := 1) rfl tyP_int rfl rfl rfl <| FA rfl tyF_impl_Count_2 rfl <| ST (i := 1) [_] [_, _, _] tyP_int.sz rfl rfl rfl rfl rfl rfl rfl rfl <| ND <| SQ <| gw_draw' [(0, .det), (1, .det)] [2, 3] mixed rfl (free_det (free_det free_nil)) (ts := [_, _]) rfl <| DT rfl rfl (fun K hk => LS (i := 1) [_, _, _] rfl tyS_impl_Count rfl rfl rfl rfl hk) <| DT rfl rfl (fun K hk => AS rfl rfl hk) <| dw_nil <| ST (i := 0) [_, _, _] [_, _, _] tyS_impl_Count.sz rfl rfl rfl rfl rfl rfl rfl rfl <| ?_
      refine AS rfl rfl <| ND <| ret_cv Try.func23 (res3 Try.func23 rfl (rv_tmp rfl) (rv_s (i := 0) [_, _, _] tyS_impl_Count rfl rfl rfl rfl) (rv_tmp rfl)) <| ?_
      rw [openNext_spec]; simp only [openNextS, h1, h2] <;> rfl
    · refine SK <| SQ <| RG <| FA rfl tyF_impl_Count_1 rfl <| LD (i := 1) rfl tyP_int rfl rfl rfl <| AS rfl rfl <| ND <| SQ <| RG <| MV rfl rfl <| rw_add rfl rfl rfl <| FA rfl tyF_impl_Count_1 rfl <| ST (i := 1) [_] [_, _, _] tyP_int.sz rfl rfl rfl rfl rfl rfl rfl rfl <| ND <| SQ <| gw_draw' [(0, .det), (1, .det), (2, .det)] [3, 4] mixed rfl (free_det (free_det (free_det free_nil))) (ts := [_, _]) rfl <| DT rfl rfl (fun K hk => MV rfl rfl hk) <| DT rfl rfl (fun K hk => LS (i := 1) [_, _, _] rfl tyS_impl_Count rfl rfl rfl rfl hk) <| ?_
      refine DT rfl rfl (fun K hk => AS rfl rfl hk) <| dw_nil <| ST (i := 0) [_, _, _] [_, _, _] tyS_impl_Count.sz rfl rfl rfl rfl rfl rfl rfl rfl <| AS rfl rfl <| ND <| ret_cv Try.func23 (res3 Try.func23 rfl (rv_tmp rfl) (rv_s (i := 0) [_, _, _] tyS_impl_Count rfl rfl rfl rfl) (rv_tmp rfl)) <| ?_
      rw [openNext_spec]; simp only [openNextS, h1, h2] <;> rfl

theorem spec_l1PickInt {w : World} {b cp i : Nat} {A : Option Addr} {l : List UInt8} {h : Int} (hr : Rdb byC w A l b) (hi : i ≤ l.length) {vL : Value} {L : List Int} (hE : ∃ A2 cp2, vL = .slice A2 (L).length cp2 ∧ Rdb intC w A2 L b) (hL0 : 0 < L.length) (hL1 : L.length ≤ 256) (hin : ∀ c ∈ [cur b A l.length cp i h], c.In w) (hnd : ([cur b A l.length cp i h].map Ck.b).Nodup) : CH Try.prog 59 [.pointer (some ⟨b, 0, none⟩), vL] w [cur b A l.length cp i h] (Drew (Value.int .i64) (fun _ => True) b A l.length cp []) := by
  obtain ⟨A2, cp2, rfl, hL⟩ := hE
  refine ch_of hin hnd Try.func59 rfl rfl rfl <| SQ <| RG <| AS rfl rfl <| ND <| SQ <| RG <| MV rfl rfl <| MV rfl rfl <| MV rfl rfl <| rw_len rfl tyE_S_int rfl <| rw_ch (G := [cur b A l.length cp i h]) (R := []) rfl fun_spec_l1Below rfl (((List.Perm.refl _).trans ((List.Perm.refl _).append_left _))) (fun w hs hin hnd => spec_l1Below (hr.sat hs) hi (n := L.length) hL0 hL1 hin hnd) <| fun v1 ch1 how1 => ?_
  obtain ⟨x1, i1, k1, rfl, hx1, hi1, rfl⟩ := how1
  obtain ⟨x2, hx2⟩ := get_of_lt hx1
  have hd2 := drop_cons hx2
  have hq3 := hL.plain hx2
  refine rw_indexAddr (x1) rfl tyE_S_int rfl rfl rfl (hL.some hx1) hx1 <| rw_loadX _ rfl tyP_int rfl (fun w hs => hq3.ld0 hs rfl) <| AS rfl rfl <| ND <| ?_
  refine ret_ch [cur b A l.length cp i1 k1] Try.func59 (res1 Try.func59 rfl (rv_tmp rfl)) ?_ ?_
  · exact ⟨_, _, _, rfl, trivial, hi1, rfl⟩
  · exact List.singleton_sublist.2 (by simp)

set_option maxRecDepth 20000 in
theorem spec_l12Count {w : World} {b cp i : Nat} {A : Option Addr} {l : List UInt8} {h : Int} (hr : Rdb byC w A l b) (hi : i ≤ l.length) (hin : ∀ c ∈ [cur b A l.length cp i h], c.In w) (hnd : ([cur b A l.length cp i h].map Ck.b).Nodup) : CH Try.prog 55 [.pointer (some ⟨b, 0, none⟩)] w [cur b A l.length cp i h] (Drew (fun p : Count => Value.agg p.cells.toArray) (fun _ => True) b A l.length cp []) := by
  refine ch_of hin hnd Try.func55 rfl rfl rfl <| SQ <| RG <| AL rfl tyZ_impl_Count <| fun b1 => ND <| SQ <| RG <| MV rfl rfl <| rw_ch (G := [cur b A l.length cp i h]) (R := []) rfl fun_spec_l1Below rfl (((List.Perm.refl _).trans ((List.Perm.refl _).append_left _))) (fun w hs hin hnd => spec_l1Below (hr.sat hs) hi (n := 5) (by decide) (by decide) hin hnd) <| fun v1 ch1 how1 => ?_
  obtain ⟨x1, i1, k1, rfl, hx1, hi1, rfl⟩ := how1
  refine CV1 rfl fun_spec_NewCount rfl (fun w hs => spec_NewCount _ w) <| MV rfl rfl <| XT rfl rfl rfl <| XT rfl rfl rfl <| AL rfl tyZ_impl_Count <| fun b2 => ST (i := 0) [_, _, _] [_, _, _] tyS_impl_Count.sz rfl rfl rfl rfl rfl rfl rfl rfl <| AS rfl rfl <| ND <| SQ <| SQ <| RG <| MV rfl rfl <| rw_ch (G := [cur b A l.length cp i1 k1]) (R := []) rfl fun_spec_l1Below rfl (((List.Perm.refl _).trans ((List.Perm.refl _).append_left _))) (fun w hs hin hnd => spec_l1Below (hr.sat hs) hi1 (n := 6) (by decide) (by decide) hin hnd) <| fun v2 ch2 how2 => ?_
  obtain ⟨x2, i2, k2, rfl, hx2, hi2, rfl⟩ := how2
  refine AS rfl rfl <| ND <| BK <| ?_
  refine gw_loopX (α := Nat × Count × Nat × Int) (fun z_ => z_.1 ≤ 256 ∧ z_.2.2.1 ≤ l.length) (fun z_ => z_.1) (fun e z_ => (5, .int .i64 (z_.1 : Int)) :: e) (fun B z_ => B.set 0 ⟨b2, 39, z_.2.1.cells⟩) (fun F z_ => [cur b A l.length cp z_.2.2.1 z_.2.2.2] ++ F.tail) (x2, (newCount (x1 : Int)), i2, k2) [(0, _), (2, _), (3, _)] (Sub.consE rfl rfl (Sub.cons (i := 0) rfl (Sub.cons (i := 2) rfl (Sub.cons (i := 3) rfl (Sub.nil _))))) rfl rfl ?_ ?_
  · exact ⟨by omega, hi2⟩
  · rintro ⟨n, x, i_, k⟩ hI3 ih3
    dsimp only at hI3
    dsimp only [List.set]
    obtain ⟨hn_, hi_⟩ := hI3
    refine SQ <| SQ <| RG <| MV rfl rfl <| rw_gtr rfl rfl rfl <| ND <| ?_
    refine gw_cond rfl (fun h1 => ?_) (fun h1 => ?_)
    · have hp4 := pos_of h1
      refine SK <| SQ <| BK <| SQ <| RG <| MV rfl rfl <| rw_ch (G := [cur b A l.length cp i_ k]) (R := []) rfl fun_spec_l1Once rfl (((List.Perm.refl _).trans ((List.Perm.refl _).append_left _))) (fun w hs hin hnd => spec_l1Once (hr.sat hs) hi_ (n := 3) (by decide) (by decide) hin hnd) <| fun v5 ch5 how5 => ?_
      obtain ⟨x5, i5, k5, rfl, hx5, hi5, rfl⟩ := how5
      refine ND <| ?_
      refine gw_cond rfl (fun h2 => ?_) (fun h2 => ?_)
      · refine gw_tree mixed 5 [false, false, false, false, false] rfl rfl <| ?_
        refine aw_step [0, 1] (by kernel_rfl) rfl ⟨⟨_, [true, false, false, false, false], rfl, rfl, ?_⟩, ⟨_, [false, true, false, false, false], rfl, rfl, ?_⟩, trivial⟩
        · refine LS (i := 0) [_, _, _] rfl tyS_impl_Count rfl rfl rfl rfl <| rw_aw <| ?_
          refine aw_step [1] (by kernel_rfl) rfl ⟨⟨_, [true, true, false, false, false], rfl, rfl, ?_⟩, trivial⟩
          refine MV rfl rfl <| rw_aw <| ?_
          refine aw_step [2] (by kernel_rfl) rfl ⟨⟨_, [true, true, true, false, false], rfl, rfl, ?_⟩, trivial⟩
          refine rw_ch (G := [cur b A l.length cp i5 k5]) (R := []) rfl fun_spec_l1Below rfl (((List.Perm.refl _).trans ((List.Perm.refl _).append_left _))) (fun w hs hin hnd => spec_l1Below (hr.sat hs) hi5 (n := 8) (by decide) (by decide) hin hnd) <| fun v6 ch6 how6 => ?_
          obtain ⟨x6, i6, k6, rfl, hx6, hi6, rfl⟩ := how6
          refine rw_aw <| ?_
          refine aw_step [3] (by kernel_rfl) rfl ⟨⟨_, [true, true, true, true, false], rfl, rfl, ?_⟩, trivial⟩
          refine CV1 rfl fun_spec_RaiseCount rfl (fun w hs => spec_RaiseCount _ _ w) <| rw_aw <| ?_
          refine aw_step [4] (by kernel_rfl) rfl ⟨⟨_, [true, true, true, true, true], rfl, rfl, ?_⟩, trivial⟩
          refine ST (i := 0) [_, _, _] [_, _, _] tyS_impl_Count.sz rfl rfl rfl rfl rfl rfl rfl rfl <| rw_aw <| aw_done (by kernel_rfl) <| IB <| RG <| MV rfl rfl <| rw_sub rfl rfl rfl <| AS rfl rfl <| ND <| ?_
          refine gw_sub (Sub.consE (i := 5) rfl (int_pred hp4 (by omega)) (Sub.cons (i := 0) rfl (Sub.cons (i := 2) rfl (Sub.cons (i := 3) rfl (Sub.nil _))))) (ih3 (n - 1, _, i6, k6) ?_ ?_)
          · exact ⟨by omega, hi6⟩
          · show n - 1 < n; omega
        · refine MV rfl rfl <| rw_aw <| ?_
          refine aw_step [0, 2] (by kernel_rfl) rfl ⟨⟨_, [true, true, false, false, false], rfl, rfl, ?_⟩, ⟨_, [false, true, true, false, false], rfl, rfl, ?_⟩, trivial⟩
          · refine LS (i := 0) [_, _, _] rfl tyS_impl_Count rfl rfl rfl rfl <| rw_aw <| ?_
            refine aw_step [2] (by kernel_rfl) rfl ⟨⟨_, [true, true, true, false, false], rfl, rfl, ?_⟩, trivial⟩
            refine rw_ch (G := [cur b A l.length cp i5 k5]) (R := []) rfl fun_spec_l1Below rfl (((List.Perm.refl _).trans ((List.Perm.refl _).append_left _))) (fun w hs hin hnd => spec_l1Below (hr.sat hs) hi5 (n := 8) (by decide) (by decide) hin hnd) <| fun v7 ch7 how7 => ?_
            obtain ⟨x7, i7, k7, rfl, hx7, hi7, rfl⟩ := how7
            refine rw_aw <| ?_
            refine aw_step [3] (by kernel_rfl) rfl ⟨⟨_, [true, true, true, true, false], rfl, rfl, ?_⟩, trivial⟩
            refine CV1 rfl fun_spec_RaiseCount rfl (fun w hs => spec_RaiseCount _ _ w) <| rw_aw <| ?_
            refine aw_step [4] (by kernel_rfl) rfl ⟨⟨_, [true, true, true, true, true], rfl, rfl, ?_⟩, trivial⟩
            refine ST (i := 0) [_, _, _] [_, _, _] tyS_impl_Count.sz rfl rfl rfl rfl rfl rfl rfl rfl <| rw_aw <| aw_done (by kernel_rfl) <| IB <| RG <| MV rfl rfl <| rw_sub rfl rfl rfl <| AS rfl rfl <| ND <| ?_
            refine gw_sub (Sub.consE (i := 5) rfl (int_pred hp4 (by omega)) (Sub.cons (i := 0) rfl (Sub.cons (i := 2) rfl (Sub.cons (i := 3) rfl (Sub.nil _))))) (ih3 (n - 1, _, i7, k7) ?_ ?_)
            · exact ⟨by omega, hi7⟩
            · show n - 1 < n; omega
          · refine rw_ch (G := [cur b A l.length cp i5 k5]) (R := []) rfl fun_spec_l1Below rfl (((List.Perm.refl _).trans ((List.Perm.refl _).append_left _))) (fun w hs hin hnd => spec_l1Below (hr.sat hs) hi5 (n := 8) (by decide) (by decide) hin hnd) <| fun v8 ch8 how8 => ?_
            obtain ⟨x8, i8, k8, rfl, hx8, hi8, rfl⟩ := how8
            refine rw_aw <| ?_
            refine aw_step [0] (by kernel_rfl) rfl ⟨⟨_, [true, true, true, false, false], rfl, rfl, ?_⟩, trivial⟩
            refine LS (i := 0) [_, _, _] rfl tyS_impl_Count rfl rfl rfl rfl <| rw_aw <| ?_
            refine aw_step [3] (by kernel_rfl) rfl ⟨⟨_, [true, true, true, true, false], rfl, rfl, ?_⟩, trivial⟩
            refine CV1 rfl fun_spec_RaiseCount rfl (fun w hs => spec_RaiseCount _ _ w) <| rw_aw <| ?_
            refine aw_step [4] (by kernel_rfl) rfl ⟨⟨_, [true, true, true, true, true], rfl, rfl, ?_⟩, trivial⟩
            refine ST (i := 0) [_, _, _] [_, _, _] tyS_impl_Count.sz rfl rfl rfl rfl rfl rfl rfl rfl <| rw_aw <| aw_done (by kernel_rfl) <| IB <| RG <| MV rfl rfl <| rw_sub rfl rfl rfl <| AS rfl rfl <| ND <| ?_
            refine gw_sub (Sub.consE (i := 5) rfl (int_pred hp4 (by omega)) (Sub.cons (i := 0) rfl (Sub.cons (i := 2) rfl (Sub.cons (i := 3) rfl (Sub.nil _))))) (ih3 (n - 1, _, i8, k8) ?_ ?_)
            · exact ⟨by omega, hi8⟩
            · show n - 1 < n; omega
      · refine RG <| LS (i := 0) [_, _, _] rfl tyS_impl_Count rfl rfl rfl rfl <| CV1 rfl fun_spec_OpenNext rfl (fun w hs => spec_OpenNext _ w) <| MV rfl rfl <| XT rfl rfl rfl <| XT rfl rfl rfl <| XT rfl rfl rfl <| ST (i := 0) [_, _, _] [_, _, _] tyS_impl_Count.sz rfl rfl rfl rfl rfl rfl rfl rfl <| ND <| IB <| RG <| MV rfl rfl <| rw_sub rfl rfl rfl <| AS rfl rfl <| ND <| ?_
        refine gw_sub (Sub.consE (i := 5) rfl (int_pred hp4 (by omega)) (Sub.cons (i := 0) rfl (Sub.cons (i := 2) rfl (Sub.cons (i := 3) rfl (Sub.nil _))))) (ih3 (n - 1, _, i5, k5) ?_ ?_)
        · exact ⟨by omega, hi5⟩
        · show n - 1 < n; omega
    · have hz9 := zero_of h1
      refine EX rfl <| SQ <| SQ <| RG <| MV rfl rfl <| rw_ch (G := [cur b A l.length cp i_ k]) (R := []) rfl fun_spec_l1Below rfl (((List.Perm.refl _).trans ((List.Perm.refl _).append_left _))) (fun w hs hin hnd => spec_l1Below (hr.sat hs) hi_ (n := 12) (by decide) (by decide) hin hnd) <| fun v10 ch10 how10 => ?_
      obtain ⟨x10, i10, k10, rfl, hx10, hi10, rfl⟩ := how10
      refine ND <| BK <| SQ <| RG <| EQ1 rfl rfl rfl <| AS rfl rfl <| ND <| ?_
      refine gw_cond rfl (fun h3 => ?_) (fun h3 => ?_)
      · refine RG <| MV rfl rfl <| rw_sliceO (f := intC) ([-1, 9] : List Int) [_, _] rfl tyM_S_int rfl rfl rfl rfl rfl rfl rfl <| fun v11 ch11 how11 => rw_ch (G := [cur b A l.length cp i10 k10]) (R := ch11 ++ ([])) rfl fun_spec_l1PickInt rfl ((((((List.Perm.refl _)).append_left _).trans (pullc _ _ _)).trans ((List.Perm.refl _).append_left _))) (fun w hs hin hnd => spec_l1PickInt (hr.sat hs) hi10 (lit_rdb (c := cur b A l.length cp i10 k10) eInt how11 (by decide) hs (((((List.Perm.refl _)).append_left _).trans (pullc _ _ _)).trans (((List.Perm.refl _).trans ((List.Perm.refl _).append_left _)).append_left _))) (by decide) (by decide) hin hnd) <| fun v12 ch12 how12 => ?_
        obtain ⟨x12, i12, k12, rfl, hx12, hi12, rfl⟩ := how12
        refine FA rfl tyF_impl_Count_1 rfl <| ST (i := 0) [_] [_, _, _] tyP_int.sz rfl rfl rfl rfl rfl rfl rfl rfl <| ND <| IB <| SQ <| RG <| LS (i := 0) [_, _, _] rfl tyS_impl_Count rfl rfl rfl rfl <| ST (i := 1) [_, _, _] [_, _, _] tyS_impl_Count.sz rfl rfl rfl rfl rfl rfl rfl rfl <| ND <| ?_
        refine ret_ch [cur b A l.length cp i12 k12] Try.func55 (res1 Try.func55 rfl (rv_s (i := 1) [_, _, _] tyS_impl_Count rfl rfl rfl rfl)) ?_ ?_
        · exact ⟨⟨_, _, _⟩, _, _, count_val _ _ _, trivial, hi12, rfl⟩
        · exact List.singleton_sublist.2 (by simp)
      · refine SQ <| RG <| EQ1 rfl rfl rfl <| AS rfl rfl <| ND <| ?_
        refine gw_cond rfl (fun h4 => ?_) (fun h4 => ?_)
        · refine RG <| MV rfl rfl <| rw_sliceO (f := intC) ([-1, 1152921504606846976, 1152921504606846977] : List Int) [_, _, _] rfl tyM_S_int rfl rfl rfl rfl rfl rfl rfl <| fun v13 ch13 how13 => rw_ch (G := [cur b A l.length cp i10 k10]) (R := ch13 ++ ([])) rfl fun_spec_l1PickInt rfl ((((((List.Perm.refl _)).append_left _).trans (pullc _ _ _)).trans ((List.Perm.refl _).append_left _))) (fun w hs hin hnd => spec_l1PickInt (hr.sat hs) hi10 (lit_rdb (c := cur b A l.length cp i10 k10) eInt how13 (by decide) hs (((((List.Perm.refl _)).append_left _).trans (pullc _ _ _)).trans (((List.Perm.refl _).trans ((List.Perm.refl _).append_left _)).append_left _))) (by decide) (by decide) hin hnd) <| fun v14 ch14 how14 => ?_
          obtain ⟨x14, i14, k14, rfl, hx14, hi14, rfl⟩ := how14
          refine FA rfl tyF_impl_Count_0 rfl <| ST (i := 0) [_] [_, _, _] tyP_int.sz rfl rfl rfl rfl rfl rfl rfl rfl <| ND <| IB <| SQ <| RG <| LS (i := 0) [_, _, _] rfl tyS_impl_Count rfl rfl rfl rfl <| ST (i := 1) [_, _, _] [_, _, _] tyS_impl_Count.sz rfl rfl rfl rfl rfl rfl rfl rfl <| ND <| ?_
          refine ret_ch [cur b A l.length cp i14 k14] Try.func55 (res1 Try.func55 rfl (rv_s (i := 1) [_, _, _] tyS_impl_Count rfl rfl rfl rfl)) ?_ ?_
          · exact ⟨⟨_, _, _⟩, _, _, count_val _ _ _, trivial, hi14, rfl⟩
          · exact List.singleton_sublist.2 (by simp)
        · refine SK <| IB <| SQ <| RG <| LS (i := 0) [_, _, _] rfl tyS_impl_Count rfl rfl rfl rfl <| ST (i := 1) [_, _, _] [_, _, _] tyS_impl_Count.sz rfl rfl rfl rfl rfl rfl rfl rfl <| ND <| ?_
          refine ret_ch [cur b A l.length cp i10 k10] Try.func55 (res1 Try.func55 rfl (rv_s (i := 1) [_, _, _] tyS_impl_Count rfl rfl rfl rfl)) ?_ ?_
          · exact ⟨⟨_, _, _⟩, _, _, count_val _ _ _, trivial, hi10, rfl⟩
          · exact List.singleton_sublist.2 (by simp)

theorem spec_DrawOpenNext {w : World} {v : Value} {l : List UInt8} (hv : RdS w 1 (Pl byC) v l) (hl : l.length ≤ 1048576) : CN Try.prog 21 [v] w (fun v ch => (∃ p : Count, v = .agg p.cells.toArray) ∧ ch = []) := by
  obtain ⟨A, cp, rfl, hA⟩ := hv
  refine cn_of Try.func21 rfl rfl rfl <| SQ <| RG <| AL rfl tyZ_impl_Count <| fun b1 => ND <| SQ <| RG <| MV rfl rfl <| CN1 rfl fun_spec_l1New rfl (fun w hs => spec_l1New (cp := cp) (hA.sat Pl.keeps hs) (by omega)) <| fun v1 ch1 how1 => ?_
  obtain ⟨b1_, k1, rfl, rfl⟩ := how1
  refine rw_ch (G := [cur b1_ A l.length cp 0 k1]) (R := []) rfl fun_spec_l12Count rfl (((List.Perm.refl _).trans ((List.Perm.refl _).append_left _))) (fun w hs hin hnd => spec_l12Count (Rdb.own (c := cur b1_ A l.length cp 0 k1) hA (by omega) hs (List.mem_append_right _ (List.mem_append_left _ List.mem_cons_self))) (Nat.zero_le _) hin hnd) <| fun v2 ch2 how2 => ?_
  obtain ⟨x2, i2, k2, rfl, hx2, hi2, rfl⟩ := how2
  refine ST (i := 0) [_, _, _] [_, _, _] tyS_impl_Count.sz rfl rfl rfl rfl rfl rfl rfl rfl <| ND <| ?_
  refine ret_cn [] Try.func21 (res1 Try.func21 rfl (rv_s (i := 0) [_, _, _] tyS_impl_Count rfl rfl rfl rfl)) ?_ ?_
  · exact ⟨⟨⟨_, _, _⟩, rfl⟩, rfl⟩
  · simp

theorem spec_DrawRaiseCount {w : World} {v : Value} {l : List UInt8} (hv : RdS w 1 (Pl byC) v l) (hl : l.length ≤ 1048576) : CN Try.prog 26 [v] w (fun v ch => (∃ (p : Count) (n : Int), v = .tuple #[.agg p.cells.toArray, .int .i64 n]) ∧ ch = []) := by
  obtain ⟨A, cp, rfl, hA⟩ := hv
  refine cn_of Try.func26 rfl rfl rfl <| SQ <| RG <| AL rfl tyZ_impl_Count <| fun b1 => AS rfl rfl <| ND <| SQ <| RG <| MV rfl rfl <| CN1 rfl fun_spec_l1New rfl (fun w hs => spec_l1New (cp := cp) (hA.sat Pl.keeps hs) (by omega)) <| fun v1 ch1 how1 => ?_
  obtain ⟨b1_, k1, rfl, rfl⟩ := how1
  refine AS rfl rfl <| ND <| SQ <| RG <| MV rfl rfl <| rw_ch (G := [cur b1_ A l.length cp 0 k1]) (R := []) rfl fun_spec_l12Count rfl (((List.Perm.refl _).trans ((List.Perm.refl _).append_left _))) (fun w hs hin hnd => spec_l12Count (Rdb.own (c := cur b1_ A l.length cp 0 k1) hA (by omega) hs (List.mem_append_right _ (List.mem_append_left _ List.mem_cons_self))) (Nat.zero_le _) hin hnd) <| fun v2 ch2 how2 => ?_
  obtain ⟨x2, i2, k2, rfl, hx2, hi2, rfl⟩ := how2
  refine AL rfl tyZ_impl_Count <| fun b2 => ST (i := 0) [_, _, _] [_, _, _] tyS_impl_Count.sz rfl rfl rfl rfl rfl rfl rfl rfl <| ND <| SQ <| gw_tree mixed 6 [false, false, false, false, false, false] rfl rfl <| ?_
  refine aw_step [0, 1, 2] (by kernel_rfl) rfl ⟨⟨_, [true, false, false, false, false, false], rfl, rfl, ?_⟩, ⟨_, [false, true, false, false, false, false], rfl, rfl, ?_⟩, ⟨_, [false, false, true, false, false, false], rfl, rfl, ?_⟩, trivial⟩
  · refine LS (i := 0) [_, _, _] rfl tyS_impl_Count rfl rfl rfl rfl <| rw_aw <| ?_
    refine aw_step [1, 2] (by kernel_rfl) rfl ⟨⟨_, [true, true, false, false, false, false], rfl, rfl, ?_⟩, ⟨_, [true, false, true, false, false, false], rfl, rfl, ?_⟩, trivial⟩
    · refine MV rfl rfl <| rw_aw <| ?_
      refine aw_step [2] (by kernel_rfl) rfl ⟨⟨_, [true, true, true, false, false, false], rfl, rfl, ?_⟩, trivial⟩
      refine rw_sliceO (f := intC) ([-1, 0, 3, 9, 1152921504606846976, 1152921504606846977] : List Int) [_, _, _, _, _, _] rfl tyM_S_int rfl rfl rfl rfl rfl rfl rfl <| fun v3 ch3 how3 => rw_aw <| ?_
      refine aw_step [3] (by kernel_rfl) rfl ⟨⟨_, [true, true, true, true, false, false], rfl, rfl, ?_⟩, trivial⟩
      refine rw_ch (G := [cur b1_ A l.length cp i2 k2]) (R := ch3 ++ ([])) rfl fun_spec_l1PickInt rfl ((((((List.Perm.refl _)).append_left _).trans (pullc _ _ _)).trans ((List.Perm.refl _).append_left _))) (fun w hs hin hnd => spec_l1PickInt (Rdb.own (c := cur b1_ A l.length cp i2 k2) hA (by omega) hs (List.mem_append_right _ (List.mem_append_right _ (List.mem_append_left _ List.mem_cons_self)))) hi2 (lit_rdb (c := cur b1_ A l.length cp i2 k2) eInt how3 (by decide) hs (((((List.Perm.refl _)).append_left _).trans (pullc _ _ _)).trans (((List.Perm.refl _).trans ((List.Perm.refl _).append_left _)).append_left _))) (by decide) (by decide) hin hnd) <| fun v4 ch4 how4 => ?_
      obtain ⟨x4, i4, k4, rfl, hx4, hi4, rfl⟩ := how4
      refine rw_aw <| ?_
      refine aw_step [4] (by kernel_rfl) rfl ⟨⟨_, [true, true, true, true, true, false], rfl, rfl, ?_⟩, trivial⟩
      refine ST (i := 1) [_, _, _] [_, _, _] tyS_impl_Count.sz rfl rfl rfl rfl rfl rfl rfl rfl <| rw_aw <| ?_
      refine aw_step [5] (by kernel_rfl) rfl ⟨⟨_, [true, true, true, true, true, true], rfl, rfl, ?_⟩, trivial⟩
      refine AS rfl rfl <| rw_aw <| aw_done (by kernel_rfl) <| ?_
      refine ret_cn [] Try.func26 (res2 Try.func26 rfl (rv_s (i := 1) [_, _, _] tyS_impl_Count rfl rfl rfl rfl) (rv_tmp rfl)) ?_ ?_
      · exact ⟨⟨⟨_, _, _⟩, _, rfl⟩, rfl⟩
      · simp
    · refine rw_sliceO (f := intC) ([-1, 0, 3, 9, 1152921504606846976, 1152921504606846977] : List Int) [_, _, _, _, _, _] rfl tyM_S_int rfl rfl rfl rfl rfl rfl rfl <| fun v5 ch5 how5 => rw_aw <| ?_
      refine aw_step [1] (by kernel_rfl) rfl ⟨⟨_, [true, true, true, false, false, false], rfl, rfl, ?_⟩, trivial⟩
      refine MV rfl rfl <| rw_aw <| ?_
      refine aw_step [3] (by kernel_rfl) rfl ⟨⟨_, [true, true, true, true, false, false], rfl, rfl, ?_⟩, trivial⟩
      refine rw_ch (G := [cur b1_ A l.length cp i2 k2]) (R := ch5 ++ ([])) rfl fun_spec_l1PickInt rfl ((((((List.Perm.refl _)).append_left _).trans (pullc _ _ _)).trans ((List.Perm.refl _).append_left _))) (fun w hs hin hnd => spec_l1PickInt (Rdb.own (c := cur b1_ A l.length cp i2 k2) hA (by omega) hs (List.mem_append_right _ (List.mem_append_right _ (List.mem_append_left _ List.mem_cons_self)))) hi2 (lit_rdb (c := cur b1_ A l.length cp i2 k2) eInt how5 (by decide) hs (((((List.Perm.refl _)).append_left _).trans (pullc _ _ _)).trans (((List.Perm.refl _).trans ((List.Perm.refl _).append_left _)).append_left _))) (by decide) (by decide) hin hnd) <| fun v6 ch6 how6 => ?_
      obtain ⟨x6, i6, k6, rfl, hx6, hi6, rfl⟩ := how6
      refine rw_aw <| ?_
      refine aw_step [4] (by kernel_rfl) rfl ⟨⟨_, [true, true, true, true, true, false], rfl, rfl, ?_⟩, trivial⟩
      refine ST (i := 1) [_, _, _] [_, _, _] tyS_impl_Count.sz rfl rfl rfl rfl rfl rfl rfl rfl <| rw_aw <| ?_
      refine aw_step [5] (by kernel_rfl) rfl ⟨⟨_, [true, true, true, true, true, true], rfl, rfl, ?_⟩, trivial⟩
      refine AS rfl rfl <| rw_aw <| aw_done (by kernel_rfl) <| ?_
      refine ret_cn [] Try.func26 (res2 Try.func26 rfl (rv_s (i := 1) [_, _, _] tyS_impl_Count rfl rfl rfl rfl) (rv_tmp rfl)) ?_ ?_
      · exact ⟨⟨⟨_, _, _⟩, _, rfl⟩, rfl⟩
      · simp
  · refine MV rfl rfl <| rw_aw <| ?_
    refine aw_step [0, 2] (by kernel_rfl) rfl ⟨⟨_, [true, true, false, false, false, false], rfl, rfl, ?_⟩, ⟨_, [false, true, true, false, false, false], rfl, rfl, ?_⟩, trivial⟩
    · refine LS (i := 0) [_, _, _] rfl tyS_impl_Count rfl rfl rfl rfl <| rw_aw <| ?_
      refine aw_step [2] (by kernel_rfl) rfl ⟨⟨_, [true, true, true, false, false, false], rfl, rfl, ?_⟩, trivial⟩
      refine rw_sliceO (f := intC) ([-1, 0, 3, 9, 1152921504606846976, 1152921504606846977] : List Int) [_, _, _, _, _, _] rfl tyM_S_int rfl rfl rfl rfl rfl rfl rfl <| fun v7 ch7 how7 => rw_aw <| ?_
      refine aw_step [3] (by kernel_rfl) rfl ⟨⟨_, [true, true, true, true, false, false], rfl, rfl, ?_⟩, trivial⟩
      refine rw_ch (G := [cur b1_ A l.length cp i2 k2]) (R := ch7 ++ ([])) rfl fun_spec_l1PickInt rfl ((((((List.Perm.refl _)).append_left _).trans (pullc _ _ _)).trans ((List.Perm.refl _).append_left _))) (fun w hs hin hnd => spec_l1PickInt (Rdb.own (c := cur b1_ A l.length cp i2 k2) hA (by omega) hs (List.mem_append_right _ (List.mem_append_right _ (List.mem_append_left _ List.mem_cons_self)))) hi2 (lit_rdb (c := cur b1_ A l.length cp i2 k2) eInt how7 (by decide) hs (((((List.Perm.refl _)).append_left _).trans (pullc _ _ _)).trans (((List.Perm.refl _).trans ((List.Perm.refl _).append_left _)).append_left _))) (by decide) (by decide) hin hnd) <| fun v8 ch8 how8 => ?_
      obtain ⟨x8, i8, k8, rfl, hx8, hi8, rfl⟩ := how8
      refine rw_aw <| ?_
      refine aw_step [4] (by kernel_rfl) rfl ⟨⟨_, [true, true, true, true, true, false], rfl, rfl, ?_⟩, trivial⟩
      refine ST (i := 1) [_, _, _] [_, _, _] tyS_impl_Count.sz rfl rfl rfl rfl rfl rfl rfl rfl <| rw_aw <| ?_
      refine aw_step [5] (by kernel_rfl) rfl ⟨⟨_, [true, true, true, true, true, true], rfl, rfl, ?_⟩, trivial⟩
      refine AS rfl rfl <| rw_aw <| aw_done (by kernel_rfl) <| ?_
      refine ret_cn [] Try.func26 (res2 Try.func26 rfl (rv_s (i := 1) [_, _, _] tyS_impl_Count rfl rfl rfl rfl) (rv_tmp rfl)) ?_ ?_
      · exact ⟨⟨⟨_, _, _⟩, _, rfl⟩, rfl⟩
      · simp
    · refine rw_sliceO (f := intC) ([-1, 0, 3, 9, 1152921504606846976, 1152921504606846977] : List Int) [_, _, _, _, _, _] rfl tyM_S_int rfl rfl rfl rfl rfl rfl rfl <| fun v9 ch9 how9 => rw_aw <| ?_
      refine aw_step [0, 3] (by kernel_rfl) rfl ⟨⟨_, [true, true, true, false, false, false], rfl, rfl, ?_⟩, ⟨_, [false, true, true, true, false, false], rfl, rfl, ?_⟩, trivial⟩
      · refine LS (i := 0) [_, _, _] rfl tyS_impl_Count rfl rfl rfl rfl <| rw_aw <| ?_
        refine aw_step [3] (by kernel_rfl) rfl ⟨⟨_, [true, true, true, true, false, false], rfl, rfl, ?_⟩, trivial⟩
        refine rw_ch (G := [cur b1_ A l.length cp i2 k2]) (R := ch9 ++ ([])) rfl fun_spec_l1PickInt rfl ((((((List.Perm.refl _)).append_left _).trans (pullc _ _ _)).trans ((List.Perm.refl _).append_left _))) (fun w hs hin hnd => spec_l1PickInt (Rdb.own (c := cur b1_ A l.length cp i2 k2) hA (by omega) hs (List.mem_append_right _ (List.mem_append_right _ (List.mem_append_left _ List.mem_cons_self)))) hi2 (lit_rdb (c := cur b1_ A l.length cp i2 k2) eInt how9 (by decide) hs (((((List.Perm.refl _)).append_left _).trans (pullc _ _ _)).trans (((List.Perm.refl _).trans ((List.Perm.refl _).append_left _)).append_left _))) (by decide) (by decide) hin hnd) <| fun v10 ch10 how10 => ?_
        obtain ⟨x10, i10, k10, rfl, hx10, hi10, rfl⟩ := how10
        refine rw_aw <| ?_
        refine aw_step [4] (by kernel_rfl) rfl ⟨⟨_, [true, true, true, true, true, false], rfl, rfl, ?_⟩, trivial⟩
        refine ST (i := 1) [_, _, _] [_, _, _] tyS_impl_Count.sz rfl rfl rfl rfl rfl rfl rfl rfl <| rw_aw <| ?_
        refine aw_step [5] (by kernel_rfl) rfl ⟨⟨_, [true, true, true, true, true, true], rfl, rfl, ?_⟩, trivial⟩
        refine AS rfl rfl <| rw_aw <| aw_done (by kernel_rfl) <| ?_
        refine ret_cn [] Try.func26 (res2 Try.func26 rfl (rv_s (i := 1) [_, _, _] tyS_impl_Count rfl rfl rfl rfl) (rv_tmp rfl)) ?_ ?_
        · exact ⟨⟨⟨_, _, _⟩, _, rfl⟩, rfl⟩
        · simp
      · refine rw_ch (G := [cur b1_ A l.length cp i2 k2]) (R := ch9 ++ ([])) rfl fun_spec_l1PickInt rfl ((((((List.Perm.refl _)).append_left _).trans (pullc _ _ _)).trans ((List.Perm.refl _).append_left _))) (fun w hs hin hnd => spec_l1PickInt (Rdb.own (c := cur b1_ A l.length cp i2 k2) hA (by omega) hs (List.mem_append_right _ (List.mem_append_right _ (List.mem_append_left _ List.mem_cons_self)))) hi2 (lit_rdb (c := cur b1_ A l.length cp i2 k2) eInt how9 (by decide) hs (((((List.Perm.refl _)).append_left _).trans (pullc _ _ _)).trans (((List.Perm.refl _).trans ((List.Perm.refl _).append_left _)).append_left _))) (by decide) (by decide) hin hnd) <| fun v11 ch11 how11 => ?_
        obtain ⟨x11, i11, k11, rfl, hx11, hi11, rfl⟩ := how11
        refine rw_aw <| ?_
        refine aw_step [0] (by kernel_rfl) rfl ⟨⟨_, [true, true, true, true, false, false], rfl, rfl, ?_⟩, trivial⟩
        refine LS (i := 0) [_, _, _] rfl tyS_impl_Count rfl rfl rfl rfl <| rw_aw <| ?_
        refine aw_step [4] (by kernel_rfl) rfl ⟨⟨_, [true, true, true, true, true, false], rfl, rfl, ?_⟩, trivial⟩
        refine ST (i := 1) [_, _, _] [_, _, _] tyS_impl_Count.sz rfl rfl rfl rfl rfl rfl rfl rfl <| rw_aw <| ?_
        refine aw_step [5] (by kernel_rfl) rfl ⟨⟨_, [true, true, true, true, true, true], rfl, rfl, ?_⟩, trivial⟩
        refine AS rfl rfl <| rw_aw <| aw_done (by kernel_rfl) <| ?_
        refine ret_cn [] Try.func26 (res2 Try.func26 rfl (rv_s (i := 1) [_, _, _] tyS_impl_Count rfl rfl rfl rfl) (rv_tmp rfl)) ?_ ?_
        · exact ⟨⟨⟨_, _, _⟩, _, rfl⟩, rfl⟩
        · simp
  · refine rw_sliceO (f := intC) ([-1, 0, 3, 9, 1152921504606846976, 1152921504606846977] : List Int) [_, _, _, _, _, _] rfl tyM_S_int rfl rfl rfl rfl rfl rfl rfl <| fun v12 ch12 how12 => rw_aw <| ?_
    refine aw_step [0, 1] (by kernel_rfl) rfl ⟨⟨_, [true, false, true, false, false, false], rfl, rfl, ?_⟩, ⟨_, [false, true, true, false, false, false], rfl, rfl, ?_⟩, trivial⟩
    · refine LS (i := 0) [_, _, _] rfl tyS_impl_Count rfl rfl rfl rfl <| rw_aw <| ?_
      refine aw_step [1] (by kernel_rfl) rfl ⟨⟨_, [true, true, true, false, false, false], rfl, rfl, ?_⟩, trivial⟩
      refine MV rfl rfl <| rw_aw <| ?_
      refine aw_step [3] (by kernel_rfl) rfl ⟨⟨_, [true, true, true, true, false, false], rfl, rfl, ?_⟩, trivial⟩
      refine rw_ch (G := [cur b1_ A l.length cp i2 k2]) (R := ch12 ++ ([])) rfl fun_spec_l1PickInt rfl ((((((List.Perm.refl _)).append_left _).trans (pullc _ _ _)).trans ((List.Perm.refl _).append_left _))) (fun w hs hin hnd => spec_l1PickInt (Rdb.own (c := cur b1_ A l.length cp i2 k2) hA (by omega) hs (List.mem_append_right _ (List.mem_append_right _ (List.mem_append_left _ List.mem_cons_self)))) hi2 (lit_rdb (c := cur b1_ A l.length cp i2 k2) eInt how12 (by decide) hs (((((List.Perm.refl _)).append_left _).trans (pullc _ _ _)).trans (((List.Perm.refl _).trans ((List.Perm.refl _).append_left _)).append_left _))) (by decide) (by decide) hin hnd) <| fun v13 ch13 how13 => ?_
      obtain ⟨x13, i13, k13, rfl, hx13, hi13, rfl⟩ := how13
      refine rw_aw <| ?_
      refine aw_step [4] (by kernel_rfl) rfl ⟨⟨_, [true, true, true, true, true, false], rfl, rfl, ?_⟩, trivial⟩
      refine ST (i := 1) [_, _, _] [_, _, _] tyS_impl_Count.sz rfl rfl rfl rfl rfl rfl rfl rfl <| rw_aw <| ?_
      refine aw_step [5] (by kernel_rfl) rfl ⟨⟨_, [true, true, true, true, true, true], rfl, rfl, ?_⟩, trivial⟩
      refine AS rfl rfl <| rw_aw <| aw_done (by kernel_rfl) <| ?_
      refine ret_cn [] Try.func26 (res2 Try.func26 rfl (rv_s (i := 1) [_, _, _] tyS_impl_Count rfl rfl rfl rfl) (rv_tmp rfl)) ?_ ?_
      · exact ⟨⟨⟨_, _, _⟩, _, rfl⟩, rfl⟩
      · simp
    · refine MV rfl rfl <| rw_aw <| ?_
      refine aw_step [0, 3] (by kernel_rfl) rfl ⟨⟨_, [true, true, true, false, false, false], rfl, rfl, ?_⟩, ⟨_, [false, true, true, true, false, false], rfl, rfl, ?_⟩, trivial⟩
      · refine LS (i := 0) [_, _, _] rfl tyS_impl_Count rfl rfl rfl rfl <| rw_aw <| ?_
        refine aw_step [3] (by kernel_rfl) rfl ⟨⟨_, [true, true, true, true, false, false], rfl, rfl, ?_⟩, trivial⟩
        refine rw_ch (G := [cur b1_ A l.length cp i2 k2]) (R := ch12 ++ ([])) rfl fun_spec_l1PickInt rfl ((((((List.Perm.refl _)).append_left _).trans (pullc _ _ _)).trans ((List.Perm.refl _).append_left _))) (fun w hs hin hnd => spec_l1PickInt (Rdb.own (c := cur b1_ A l.length cp i2 k2) hA (by omega) hs (List.mem_append_right _ (List.mem_append_right _ (List.mem_append_left _ List.mem_cons_self)))) hi2 (lit_rdb (c := cur b1_ A l.length cp i2 k2) eInt how12 (by decide) hs (((((List.Perm.refl _)).append_left _).trans (pullc _ _ _)).trans (((List.Perm.refl _).trans ((List.Perm.refl _).append_left _)).append_left _))) (by decide) (by decide) hin hnd) <| fun v14 ch14 how14 => ?_
        obtain ⟨x14, i14, k14, rfl, hx14, hi14, rfl⟩ := how14
        refine rw_aw <| ?_
        refine aw_step [4] (by kernel_rfl) rfl ⟨⟨_, [true, true, true, true, true, false], rfl, rfl, ?_⟩, trivial⟩
        refine ST (i := 1) [_, _, _] [_, _, _] tyS_impl_Count.sz rfl rfl rfl rfl rfl rfl rfl rfl <| rw_aw <| ?_
        refine aw_step [5] (by kernel_rfl) rfl ⟨⟨_, [true, true, true, true, true, true], rfl, rfl, ?_⟩, trivial⟩
        refine AS rfl rfl <| rw_aw <| aw_done (by kernel_rfl) <| ?_
        refine ret_cn [] Try.func26 (res2 Try.func26 rfl (rv_s (i := 1) [_, _, _] tyS_impl_Count rfl rfl rfl rfl) (rv_tmp rfl)) ?_ ?_
        · exact ⟨⟨⟨_, _, _⟩, _, rfl⟩, rfl⟩
        · simp
      · refine rw_ch (G := [cur b1_ A l.length cp i2 k2]) (R := ch12 ++ ([])) rfl fun_spec_l1PickInt rfl ((((((List.Perm.refl _)).append_left _).trans (pullc _ _ _)).trans ((List.Perm.refl _).append_left _))) (fun w hs hin hnd => spec_l1PickInt (Rdb.own (c := cur b1_ A l.length cp i2 k2) hA (by omega) hs (List.mem_append_right _ (List.mem_append_right _ (List.mem_append_left _ List.mem_cons_self)))) hi2 (lit_rdb (c := cur b1_ A l.length cp i2 k2) eInt how12 (by decide) hs (((((List.Perm.refl _)).append_left _).trans (pullc _ _ _)).trans (((List.Perm.refl _).trans ((List.Perm.refl _).append_left _)).append_left _))) (by decide) (by decide) hin hnd) <| fun v15 ch15 how15 => ?_
        obtain ⟨x15, i15, k15, rfl, hx15, hi15, rfl⟩ := how15
        refine rw_aw <| ?_
        refine aw_step [0] (by kernel_rfl) rfl ⟨⟨_, [true, true, true, true, false, false], rfl, rfl, ?_⟩, trivial⟩
        refine LS (i := 0) [_, _, _] rfl tyS_impl_Count rfl rfl rfl rfl <| rw_aw <| ?_
        refine aw_step [4] (by kernel_rfl) rfl ⟨⟨_, [true, true, true, true, true, false], rfl, rfl, ?_⟩, trivial⟩
        refine ST (i := 1) [_, _, _] [_, _, _] tyS_impl_Count.sz rfl rfl rfl rfl rfl rfl rfl rfl <| rw_aw <| ?_
        refine aw_step [5] (by kernel_rfl) rfl ⟨⟨_, [true, true, true, true, true, true], rfl, rfl, ?_⟩, trivial⟩
        refine AS rfl rfl <| rw_aw <| aw_done (by kernel_rfl) <| ?_
        refine ret_cn [] Try.func26 (res2 Try.func26 rfl (rv_s (i := 1) [_, _, _] tyS_impl_Count rfl rfl rfl rfl) (rv_tmp rfl)) ?_ ?_
        · exact ⟨⟨⟨_, _, _⟩, _, rfl⟩, rfl⟩
        · simp

theorem spec_NewAllow (n : Int) (w : World) : CV Try.prog 45 [.int .i64 n] w (.tuple #[.agg (newAllow n).cells.toArray, .bool (within n 0 1000)]) := by
  refine cv_of Try.func45 rfl rfl rfl <| SQ <| RG <| AL rfl tyZ_impl_Allow <| fun b1 => AS rfl rfl <| ND <| SQ <| SQ <| RG <| MV rfl rfl <| CV1 rfl fun_spec_l1In rfl (fun w hs => spec_l1In _ _ _ w) <| NT rfl rfl <| ND <| ?_
  refine gw_cond rfl (fun h1 => ?_) (fun h1 => ?_)
  · replace h1 := of_not_T h1
    refine SQ <| RG <| rw_build [_, _, _, _] rfl tyB_impl_Allow tyZ_impl_Allow rfl rfl <| ST (i := 0) [_, _, _, _] [_, _, _, _] tyS_impl_Allow.sz rfl rfl rfl rfl rfl rfl rfl rfl <| AS rfl rfl <| ND <| ret_cv Try.func45 (res2 Try.func45 rfl (rv_s (i := 0) [_, _, _, _] tyS_impl_Allow rfl rfl rfl rfl) (rv_tmp rfl)) <| ?_
    simp [newAllow, Allow.cells, h1]
  · replace h1 := of_not_F h1
    refine SK <| SQ <| RG <| MV rfl rfl <| MV rfl rfl <| rw_build [_, _, _, _] rfl tyB_impl_Allow tyZ_impl_Allow rfl rfl <| ST (i := 0) [_, _, _, _] [_, _, _, _] tyS_impl_Allow.sz rfl rfl rfl rfl rfl rfl rfl rfl <| AS rfl rfl <| ND <| ret_cv Try.func45 (res2 Try.func45 rfl (rv_s (i := 0) [_, _, _, _] tyS_impl_Allow rfl rfl rfl rfl) (rv_tmp rfl)) <| ?_
    simp [newAllow, Allow.cells, h1]

theorem spec_IsAllow (a : Allow) (w : World) : CV Try.prog 32 [.agg a.cells.toArray] w (.bool (isAllow a)) := by
  refine cv_of Try.func32 rfl rfl rfl <| SQ <| RG <| BX [_, _, _, _] rfl rfl rfl <| fun b1 => AS rfl rfl <| ND <| SQ <| RG <| FA rfl tyF_impl_Allow_0 rfl <| LD (i := 0) rfl tyP_int rfl rfl rfl <| CV1 rfl fun_spec_l1In rfl (fun w hs => spec_l1In _ _ _ w) <| MV rfl rfl <| ?_
  refine rw_case (j := 6) rfl (fun h1 => ?_) (fun h1 => ?_)
  · refine ON rfl rfl h1 <| FA rfl tyF_impl_Allow_1 rfl <| ON rfl rfl h1 <| LD (i := 0) rfl tyP_int rfl rfl rfl <| ON rfl rfl h1 <| FA rfl tyF_impl_Allow_0 rfl <| ON rfl rfl h1 <| LD (i := 0) rfl tyP_int rfl rfl rfl <| ON rfl rfl h1 <| CV1 rfl fun_spec_l1In rfl (fun w hs => spec_l1In _ _ _ w) <| PT rfl rfl h1 rfl <| MV rfl rfl <| ?_
    refine rw_case (j := 13) rfl (fun h2 => ?_) (fun h2 => ?_)
    · refine ON rfl rfl h2 <| FA rfl tyF_impl_Allow_2 rfl <| ON rfl rfl h2 <| LD (i := 0) rfl tyP_int rfl rfl rfl <| ON rfl rfl h2 <| FA rfl tyF_impl_Allow_1 rfl <| ON rfl rfl h2 <| LD (i := 0) rfl tyP_int rfl rfl rfl <| ON rfl rfl h2 <| CV1 rfl fun_spec_l1In rfl (fun w hs => spec_l1In _ _ _ w) <| PT rfl rfl h2 rfl <| MV rfl rfl <| ?_
      refine rw_case (j := 20) rfl (fun h3 => ?_) (fun h3 => ?_)
      · refine ON rfl rfl h3 <| FA rfl tyF_impl_Allow_3 rfl <| ON rfl rfl h3 <| LD (i := 0) rfl tyP_int rfl rfl rfl <| ON rfl rfl h3 <| FA rfl tyF_impl_Allow_2 rfl <| ON rfl rfl h3 <| LD (i := 0) rfl tyP_int rfl rfl rfl <| ON rfl rfl h3 <| CV1 rfl fun_spec_l1In rfl (fun w hs => spec_l1In _ _ _ w) <| PT rfl rfl h3 rfl <| MV rfl rfl <| ?_
        refine rw_case (j := 27) rfl (fun h4 => ?_) (fun h4 => ?_)
        · refine ON rfl rfl h4 <| FA rfl tyF_impl_Allow_1 rfl <| ON rfl rfl h4 <| LD (i := 0) rfl tyP_int rfl rfl rfl <| ON rfl rfl h4 <| FA rfl tyF_impl_Allow_3 rfl <| ON rfl rfl h4 <| LD (i := 0) rfl tyP_int rfl rfl rfl <| ON rfl rfl h4 <| FA rfl tyF_impl_Allow_0 rfl <| ON rfl rfl h4 <| LD (i := 0) rfl tyP_int rfl rfl rfl <| ON rfl rfl h4 <| rw_add rfl rfl rfl <| ON rfl rfl h4 <| rw_leq rfl rfl rfl <| PT rfl rfl h4 rfl <| AS rfl rfl <| ND <| ret_cv Try.func32 (res1 Try.func32 rfl (rv_tmp rfl)) <| ?_
          simp only [isAllow, h1, h2, h3, h4] <;> rfl
        · refine OF rfl rfl h4 rfl <| OF rfl rfl h4 rfl <| OF rfl rfl h4 rfl <| OF rfl rfl h4 rfl <| OF rfl rfl h4 rfl <| OF rfl rfl h4 rfl <| OF rfl rfl h4 rfl <| OF rfl rfl h4 rfl <| PF rfl rfl h4 rfl <| AS rfl rfl <| ND <| ret_cv Try.func32 (res1 Try.func32 rfl (rv_tmp rfl)) <| ?_
          simp only [isAllow, h1, h2, h3, h4] <;> rfl
      · refine OF rfl rfl h3 rfl <| OF rfl rfl h3 rfl <| OF rfl rfl h3 rfl <| OF rfl rfl h3 rfl <| OF rfl rfl h3 rfl <| PF rfl rfl h3 rfl <| MV rfl rfl <| OF rfl rfl rfl rfl <| OF rfl rfl rfl rfl <| OF rfl rfl rfl rfl <| OF rfl rfl rfl rfl <| OF rfl rfl rfl rfl <| OF rfl rfl rfl rfl <| OF rfl rfl rfl rfl <| OF rfl rfl rfl rfl <| PF rfl rfl rfl rfl <| AS rfl rfl <| ND <| ret_cv Try.func32 (res1 Try.func32 rfl (rv_tmp rfl)) <| ?_
        simp only [isAllow, h1, h2, h3] <;> rfl
    · refine OF rfl rfl h2 rfl <| OF rfl rfl h2 rfl <| OF rfl rfl h2 rfl <| OF rfl rfl h2 rfl <| OF rfl rfl h2 rfl <| PF rfl rfl h2 rfl <| MV rfl rfl <| OF rfl rfl rfl rfl <| OF rfl rfl rfl rfl <| OF rfl rfl rfl rfl <| OF rfl rfl rfl rfl <| OF rfl rfl rfl rfl <| PF rfl rfl rfl rfl <| MV rfl rfl <| OF rfl rfl rfl rfl <| OF rfl rfl rfl rfl <| OF rfl rfl rfl rfl <| OF rfl rfl rfl rfl <| OF rfl rfl rfl rfl <| OF rfl rfl rfl rfl <| OF rfl rfl rfl rfl <| ?_
      refine OF rfl rfl rfl rfl <| PF rfl rfl rfl rfl <| AS rfl rfl <| ND <| ret_cv Try.func32 (res1 Try.func32 rfl (rv_tmp rfl)) <| ?_
      simp only [isAllow, h1, h2] <;> rfl
  · refine OF rfl rfl h1 rfl <| OF rfl rfl h1 rfl <| OF rfl rfl h1 rfl <| OF rfl rfl h1 rfl <| OF rfl rfl h1 rfl <| PF rfl rfl h1 rfl <| MV rfl rfl <| OF rfl rfl rfl rfl <| OF rfl rfl rfl rfl <| OF rfl rfl rfl rfl <| OF rfl rfl rfl rfl <| OF rfl rfl rfl rfl <| PF rfl rfl rfl rfl <| MV rfl rfl <| OF rfl rfl rfl rfl <| OF rfl rfl rfl rfl <| OF rfl rfl rfl rfl <| OF rfl rfl rfl rfl <| OF rfl rfl rfl rfl <| PF rfl rfl rfl rfl <| MV rfl rfl <| ?_
    refine OF rfl rfl rfl rfl <| OF rfl rfl rfl rfl <| OF rfl rfl rfl rfl <| OF rfl rfl rfl rfl <| OF rfl rfl rfl rfl <| OF rfl rfl rfl rfl <| OF rfl rfl rfl rfl <| OF rfl rfl rfl rfl <| PF rfl rfl rfl rfl <| AS rfl rfl <| ND <| ret_cv Try.func32 (res1 Try.func32 rfl (rv_tmp rfl)) <| ?_
    simp only [isAllow, h1] <;> rfl

theorem spec_SeeIndex (a : Allow) (i : Int) (w : World) : CV Try.prog 31 [.agg a.cells.toArray, .int .i64 i] w (.tuple #[.agg (seeIndex a i).1.cells.toArray, .int .i64 (seeIndex a i).2.1, .bool (seeIndex a i).2.2]) := by
  refine cv_of Try.func31 rfl rfl rfl <| SQ <| RG <| BX [_, _, _, _] rfl rfl rfl <| fun b1 => AL rfl tyZ_impl_Allow <| fun b2 => AS rfl rfl <| AS rfl rfl <| ND <| SQ <| SQ <| RG <| LS (i := 1) [_, _, _, _] rfl tyS_impl_Allow rfl rfl rfl rfl <| CV1 rfl fun_spec_IsAllow rfl (fun w hs => spec_IsAllow _ w) <| NT rfl rfl <| MV rfl rfl <| ?_
  refine rw_case (j := 11) rfl (fun h1 => ?_) (fun h1 => ?_)
  · replace h1 := of_not_T h1
    refine OF rfl rfl (not_F h1) rfl <| OF rfl rfl (not_F h1) rfl <| PT rfl rfl (not_F h1) rfl <| MV rfl rfl <| OF rfl rfl rfl rfl <| OF rfl rfl rfl rfl <| OF rfl rfl rfl rfl <| OF rfl rfl rfl rfl <| PT rfl rfl rfl rfl <| ND <| CT rfl rfl <| SQ <| RG <| LS (i := 1) [_, _, _, _] rfl tyS_impl_Allow rfl rfl rfl rfl <| ST (i := 0) [_, _, _, _] [_, _, _, _] tyS_impl_Allow.sz rfl rfl rfl rfl rfl rfl rfl rfl <| AS rfl rfl <| AS rfl rfl <| ND <| ret_cv Try.func31 (res3 Try.func31 rfl (rv_s (i := 0) [_, _, _, _] tyS_impl_Allow rfl rfl rfl rfl) (rv_tmp rfl) (rv_tmp rfl)) <| ?_
    rw [seeIndex_spec]; simp only [seeIndexS, h1] <;> rfl
  · replace h1 := of_not_F h1
    refine ON rfl rfl (not_T h1) <| MV rfl rfl <| ON rfl rfl (not_T h1) <| rw_lss rfl rfl rfl <| PF rfl rfl (not_T h1) rfl <| MV rfl rfl <| ?_
    refine rw_case (j := 15) rfl (fun h2 => ?_) (fun h2 => ?_)
    · refine OF rfl rfl h2 rfl <| OF rfl rfl h2 rfl <| OF rfl rfl h2 rfl <| OF rfl rfl h2 rfl <| PT rfl rfl h2 rfl <| ND <| CT rfl rfl <| SQ <| RG <| LS (i := 1) [_, _, _, _] rfl tyS_impl_Allow rfl rfl rfl rfl <| ST (i := 0) [_, _, _, _] [_, _, _, _] tyS_impl_Allow.sz rfl rfl rfl rfl rfl rfl rfl rfl <| AS rfl rfl <| AS rfl rfl <| ND <| ret_cv Try.func31 (res3 Try.func31 rfl (rv_s (i := 0) [_, _, _, _] tyS_impl_Allow rfl rfl rfl rfl) (rv_tmp rfl) (rv_tmp rfl)) <| ?_
      rw [seeIndex_spec]; simp only [seeIndexS, h1, h2] <;> rfl
    · refine ON rfl rfl h2 <| MV rfl rfl <| ON rfl rfl h2 <| FA rfl tyF_impl_Allow_1 rfl <| ON rfl rfl h2 <| LD (i := 1) rfl tyP_int rfl rfl rfl <| ON rfl rfl h2 <| rw_geq rfl rfl rfl <| PF rfl rfl h2 rfl <| ND <| ?_
      refine gw_cond rfl (fun h3 => ?_) (fun h3 => ?_)
      · refine SQ <| RG <| LS (i := 1) [_, _, _, _] rfl tyS_impl_Allow rfl rfl rfl rfl <| ST (i := 0) [_, _, _, _] [_, _, _, _] tyS_impl_Allow.sz rfl rfl rfl rfl rfl rfl rfl rfl <| AS rfl rfl <| AS rfl rfl <| ND <| ret_cv Try.func31 (res3 Try.func31 rfl (rv_s (i := 0) [_, _, _, _] tyS_impl_Allow rfl rfl rfl rfl) (rv_tmp rfl) (rv_tmp rfl)) <| ?_
        rw [seeIndex_spec]; simp only [seeIndexS, h1, h2, h3] <;> rfl
      · refine SK <| SQ <| RG <| MV rfl rfl <| rw_add rfl rfl rfl <| FA rfl tyF_impl_Allow_2 rfl <| LD (i := 1) rfl tyP_int rfl rfl rfl <| rw_sub rfl rfl rfl <| rw_max rfl rfl rfl <| AS rfl rfl <| ND <| SQ <| RG <| FA rfl tyF_impl_Allow_2 rfl <| LD (i := 1) rfl tyP_int rfl rfl rfl <| MV rfl rfl <| rw_add rfl rfl rfl <| FA rfl tyF_impl_Allow_2 rfl <| ST (i := 1) [_] [_, _, _, _] tyP_int.sz rfl rfl rfl rfl rfl rfl rfl rfl <| ND <| SQ <| RG <| LS (i := 1) [_, _, _, _] rfl tyS_impl_Allow rfl rfl rfl rfl <| ?_
        refine MV rfl rfl <| ST (i := 0) [_, _, _, _] [_, _, _, _] tyS_impl_Allow.sz rfl rfl rfl rfl rfl rfl rfl rfl <| AS rfl rfl <| AS rfl rfl <| ND <| ret_cv Try.func31 (res3 Try.func31 rfl (rv_s (i := 0) [_, _, _, _] tyS_impl_Allow rfl rfl rfl rfl) (rv_tmp rfl) (rv_tmp rfl)) <| ?_
        rw [seeIndex_spec]; simp only [seeIndexS, h1, h2, h3] <;> rfl

theorem spec_CloseOne (a : Allow) (w : World) : CV Try.prog 36 [.agg a.cells.toArray] w (.tuple #[.agg (closeOne a).1.cells.toArray, .bool (closeOne a).2]) := by
  refine cv_of Try.func36 rfl rfl rfl <| SQ <| RG <| BX [_, _, _, _] rfl rfl rfl <| fun b1 => AL rfl tyZ_impl_Allow <| fun b2 => AS rfl rfl <| ND <| SQ <| SQ <| RG <| LS (i := 1) [_, _, _, _] rfl tyS_impl_Allow rfl rfl rfl rfl <| CV1 rfl fun_spec_IsAllow rfl (fun w hs => spec_IsAllow _ w) <| NT rfl rfl <| MV rfl rfl <| ?_
  refine rw_case (j := 7) rfl (fun h1 => ?_) (fun h1 => ?_)
  · replace h1 := of_not_T h1
    refine OF rfl rfl (not_F h1) rfl <| OF rfl rfl (not_F h1) rfl <| OF rfl rfl (not_F h1) rfl <| OF rfl rfl (not_F h1) rfl <| OF rfl rfl (not_F h1) rfl <| PT rfl rfl (not_F h1) rfl <| ND <| CT rfl rfl <| SQ <| RG <| LS (i := 1) [_, _, _, _] rfl tyS_impl_Allow rfl rfl rfl rfl <| ST (i := 0) [_, _, _, _] [_, _, _, _] tyS_impl_Allow.sz rfl rfl rfl rfl rfl rfl rfl rfl <| AS rfl rfl <| ND <| ret_cv Try.func36 (res2 Try.func36 rfl (rv_s (i := 0) [_, _, _, _] tyS_impl_Allow rfl rfl rfl rfl) (rv_tmp rfl)) <| ?_
    simp only [closeOne, h1] <;> rfl
  · replace h1 := of_not_F h1
    refine ON rfl rfl (not_T h1) <| FA rfl tyF_impl_Allow_3 rfl <| ON rfl rfl (not_T h1) <| LD (i := 1) rfl tyP_int rfl rfl rfl <| ON rfl rfl (not_T h1) <| FA rfl tyF_impl_Allow_2 rfl <| ON rfl rfl (not_T h1) <| LD (i := 1) rfl tyP_int rfl rfl rfl <| ON rfl rfl (not_T h1) <| EQ1 rfl rfl rfl <| PF rfl rfl (not_T h1) rfl <| ND <| ?_
    refine gw_cond rfl (fun h2 => ?_) (fun h2 => ?_)
    · refine SQ <| RG <| LS (i := 1) [_, _, _, _] rfl tyS_impl_Allow rfl rfl rfl rfl <| ST (i := 0) [_, _, _, _] [_, _, _, _] tyS_impl_Allow.sz rfl rfl rfl rfl rfl rfl rfl rfl <| AS rfl rfl <| ND <| ret_cv Try.func36 (res2 Try.func36 rfl (rv_s (i := 0) [_, _, _, _] tyS_impl_Allow rfl rfl rfl rfl) (rv_tmp rfl)) <| ?_
      simp only [closeOne, h1, h2] <;> rfl
    · refine SK <| SQ <| RG <| FA rfl tyF_impl_Allow_3 rfl <| LD (i := 1) rfl tyP_int rfl rfl rfl <| rw_add rfl rfl rfl <| FA rfl tyF_impl_Allow_3 rfl <| ST (i := 1) [_] [_, _, _, _] tyP_int.sz rfl rfl rfl rfl rfl rfl rfl rfl <| ND <| SQ <| RG <| LS (i := 1) [_, _, _, _] rfl tyS_impl_Allow rfl rfl rfl rfl <| ST (i := 0) [_, _, _, _] [_, _, _, _] tyS_impl_Allow.sz rfl rfl rfl rfl rfl rfl rfl rfl <| AS rfl rfl <| ND <| ret_cv Try.func36 (res2 Try.func36 rfl (rv_s (i := 0) [_, _, _, _] tyS_impl_Allow rfl rfl rfl rfl) (rv_tmp rfl)) <| ?_
      simp only [closeOne, h1, h2] <;> rfl

theorem spec_MustAllow (a : Allow) (w : World) : CV Try.prog 47 [.agg a.cells.toArray] w (.bool (mustAllow a)) := by
  refine cv_of Try.func47 rfl rfl rfl <| SQ <| RG <| BX [_, _, _, _] rfl rfl rfl <| fun b1 => AS rfl rfl <| ND <| SQ <| RG <| LS (i := 0) [_, _, _, _] rfl tyS_impl_Allow rfl rfl rfl rfl <| CV1 rfl fun_spec_IsAllow rfl (fun w hs => spec_IsAllow _ w) <| MV rfl rfl <| ?_
  refine rw_case (j := 5) rfl (fun h1 => ?_) (fun h1 => ?_)
  · refine ON rfl rfl h1 <| FA rfl tyF_impl_Allow_3 rfl <| ON rfl rfl h1 <| LD (i := 0) rfl tyP_int rfl rfl rfl <| ON rfl rfl h1 <| FA rfl tyF_impl_Allow_0 rfl <| ON rfl rfl h1 <| LD (i := 0) rfl tyP_int rfl rfl rfl <| ON rfl rfl h1 <| rw_add rfl rfl rfl <| ON rfl rfl h1 <| FA rfl tyF_impl_Allow_1 rfl <| ON rfl rfl h1 <| LD (i := 0) rfl tyP_int rfl rfl rfl <| ON rfl rfl h1 <| rw_sub rfl rfl rfl <| ON rfl rfl h1 <| FA rfl tyF_impl_Allow_0 rfl <| ?_
    refine ON rfl rfl h1 <| LD (i := 0) rfl tyP_int rfl rfl rfl <| ON rfl rfl h1 <| rw_add rfl rfl rfl <| ON rfl rfl h1 <| rw_quo rfl rfl rfl (by first | decide | omega) <| ON rfl rfl h1 <| rw_geq rfl rfl rfl <| PT rfl rfl h1 rfl <| MV rfl rfl <| ?_
    refine rw_case (j := 20) rfl (fun h2 => ?_) (fun h2 => ?_)
    · refine ON rfl rfl h2 <| FA rfl tyF_impl_Allow_0 rfl <| ON rfl rfl h2 <| LD (i := 0) rfl tyP_int rfl rfl rfl <| ON rfl rfl h2 <| rw_gtr rfl rfl rfl <| PT rfl rfl h2 rfl <| AS rfl rfl <| ND <| ret_cv Try.func47 (res1 Try.func47 rfl (rv_tmp rfl)) <| ?_
      simp [mustAllow, w64, h1, h2]
    · refine OF rfl rfl h2 rfl <| OF rfl rfl h2 rfl <| OF rfl rfl h2 rfl <| PF rfl rfl h2 rfl <| AS rfl rfl <| ND <| ret_cv Try.func47 (res1 Try.func47 rfl (rv_tmp rfl)) <| ?_
      simp [mustAllow, w64, h1, h2]
  · refine OF rfl rfl h1 rfl <| OF rfl rfl h1 rfl <| OF rfl rfl h1 rfl <| OF rfl rfl h1 rfl <| OF rfl rfl h1 rfl <| OF rfl rfl h1 rfl <| OF rfl rfl h1 rfl <| OF rfl rfl h1 rfl <| OF rfl rfl h1 rfl <| OF rfl rfl h1 rfl <| OF rfl rfl h1 rfl <| OF rfl rfl h1 rfl <| OF rfl rfl h1 rfl <| PF rfl rfl h1 rfl <| MV rfl rfl <| OF rfl rfl rfl rfl <| OF rfl rfl rfl rfl <| OF rfl rfl rfl rfl <| PF rfl rfl rfl rfl <| AS rfl rfl <| ND <| ret_cv Try.func47 (res1 Try.func47 rfl (rv_tmp rfl)) <| ?_
    simp [mustAllow, w64, h1]

theorem spec_RaiseAllow (a : Allow) (w : World) : CV Try.prog 39 [.agg a.cells.toArray] w (.tuple #[.agg (raiseAllow a).1.cells.toArray, .bool (raiseAllow a).2]) := by
  refine cv_of Try.func39 rfl rfl rfl <| SQ <| RG <| BX [_, _, _, _] rfl rfl rfl <| fun b1 => AL rfl tyZ_impl_Allow <| fun b2 => AS rfl rfl <| ND <| SQ <| SQ <| RG <| LS (i := 1) [_, _, _, _] rfl tyS_impl_Allow rfl rfl rfl rfl <| CV1 rfl fun_spec_MustAllow rfl (fun w hs => spec_MustAllow _ w) <| NT rfl rfl <| MV rfl rfl <| ?_
  refine rw_case (j := 7) rfl (fun h1 => ?_) (fun h1 => ?_)
  · replace h1 := of_not_T h1
    refine OF rfl rfl (not_F h1) rfl <| OF rfl rfl (not_F h1) rfl <| OF rfl rfl (not_F h1) rfl <| OF rfl rfl (not_F h1) rfl <| OF rfl rfl (not_F h1) rfl <| OF rfl rfl (not_F h1) rfl <| PT rfl rfl (not_F h1) rfl <| ND <| CT rfl rfl <| SQ <| RG <| LS (i := 1) [_, _, _, _] rfl tyS_impl_Allow rfl rfl rfl rfl <| ST (i := 0) [_, _, _, _] [_, _, _, _] tyS_impl_Allow.sz rfl rfl rfl rfl rfl rfl rfl rfl <| AS rfl rfl <| ND <| ret_cv Try.func39 (res2 Try.func39 rfl (rv_s (i := 0) [_, _, _, _] tyS_impl_Allow rfl rfl rfl rfl) (rv_tmp rfl)) <| ?_
    simp only [raiseAllow, h1] <;> rfl
  · replace h1 := of_not_F h1
    refine ON rfl rfl (not_T h1) <| FA rfl tyF_impl_Allow_3 rfl <| ON rfl rfl (not_T h1) <| LD (i := 1) rfl tyP_int rfl rfl rfl <| ON rfl rfl (not_T h1) <| FA rfl tyF_impl_Allow_0 rfl <| ON rfl rfl (not_T h1) <| LD (i := 1) rfl tyP_int rfl rfl rfl <| ON rfl rfl (not_T h1) <| rw_add rfl rfl rfl <| ON rfl rfl (not_T h1) <| rw_gtr rfl rfl rfl <| PF rfl rfl (not_T h1) rfl <| ND <| ?_
    refine gw_cond rfl (fun h2 => ?_) (fun h2 => ?_)
    · refine SQ <| RG <| LS (i := 1) [_, _, _, _] rfl tyS_impl_Allow rfl rfl rfl rfl <| ST (i := 0) [_, _, _, _] [_, _, _, _] tyS_impl_Allow.sz rfl rfl rfl rfl rfl rfl rfl rfl <| AS rfl rfl <| ND <| ret_cv Try.func39 (res2 Try.func39 rfl (rv_s (i := 0) [_, _, _, _] tyS_impl_Allow rfl rfl rfl rfl) (rv_tmp rfl)) <| ?_
      simp only [raiseAllow, h1, h2] <;> rfl
    · refine SK <| SQ <| RG <| FA rfl tyF_impl_Allow_3 rfl <| LD (i := 1) rfl tyP_int rfl rfl rfl <| FA rfl tyF_impl_Allow_0 rfl <| LD (i := 1) rfl tyP_int rfl rfl rfl <| rw_add rfl rfl rfl <| FA rfl tyF_impl_Allow_1 rfl <| ST (i := 1) [_] [_, _, _, _] tyP_int.sz rfl rfl rfl rfl rfl rfl rfl rfl <| ND <| SQ <| RG <| LS (i := 1) [_, _, _, _] rfl tyS_impl_Allow rfl rfl rfl rfl <| ST (i := 0) [_, _, _, _] [_, _, _, _] tyS_impl_Allow.sz rfl rfl rfl rfl rfl rfl rfl rfl <| AS rfl rfl <| ND <| ?_
      refine ret_cv Try.func39 (res2 Try.func39 rfl (rv_s (i := 0) [_, _, _, _] tyS_impl_Allow rfl rfl rfl rfl) (rv_tmp rfl)) <| ?_
      simp only [raiseAllow, h1, h2] <;> rfl

set_option maxRecDepth 20000 in
theorem spec_l12Allow {w : World} {b cp i : Nat} {A : Option Addr} {l : List UInt8} {h : Int} (hr : Rdb byC w A l b) (hi : i ≤ l.length) (hin : ∀ c ∈ [cur b A l.length cp i h], c.In w) (hnd : ([cur b A l.length cp i h].map Ck.b).Nodup) : CH Try.prog 60 [.pointer (some ⟨b, 0, none⟩)] w [cur b A l.length cp i h] (Drew (fun p : Allow => Value.agg p.cells.toArray) (fun _ => True) b A l.length cp []) := by
  refine ch_of hin hnd Try.func60 rfl rfl rfl <| SQ <| RG <| AL rfl tyZ_impl_Allow <| fun b1 => ND <| SQ <| RG <| MV rfl rfl <| rw_ch (G := [cur b A l.length cp i h]) (R := []) rfl fun_spec_l1Below rfl (((List.Perm.refl _).trans ((List.Perm.refl _).append_left _))) (fun w hs hin hnd => spec_l1Below (hr.sat hs) hi (n := 5) (by decide) (by decide) hin hnd) <| fun v1 ch1 how1 => ?_
  obtain ⟨x1, i1, k1, rfl, hx1, hi1, rfl⟩ := how1
  refine CV1 rfl fun_spec_NewAllow rfl (fun w hs => spec_NewAllow _ w) <| MV rfl rfl <| XT rfl rfl rfl <| XT rfl rfl rfl <| AL rfl tyZ_impl_Allow <| fun b2 => ST (i := 0) [_, _, _, _] [_, _, _, _] tyS_impl_Allow.sz rfl rfl rfl rfl rfl rfl rfl rfl <| AS rfl rfl <| ND <| SQ <| SQ <| RG <| MV rfl rfl <| rw_ch (G := [cur b A l.length cp i1 k1]) (R := []) rfl fun_spec_l1Below rfl (((List.Perm.refl _).trans ((List.Perm.refl _).append_left _))) (fun w hs hin hnd => spec_l1Below (hr.sat hs) hi1 (n := 8) (by decide) (by decide) hin hnd) <| fun v2 ch2 how2 => ?_
  obtain ⟨x2, i2, k2, rfl, hx2, hi2, rfl⟩ := how2
  refine AS rfl rfl <| ND <| BK <| ?_
  refine gw_loopX (α := Nat × Allow × Nat × Int) (fun z_ => z_.1 ≤ 256 ∧ z_.2.2.1 ≤ l.length) (fun z_ => z_.1) (fun e z_ => (5, .int .i64 (z_.1 : Int)) :: e) (fun B z_ => B.set 0 ⟨b2, 48, z_.2.1.cells⟩) (fun F z_ => [cur b A l.length cp z_.2.2.1 z_.2.2.2] ++ F.tail) (x2, (newAllow (x1 : Int)), i2, k2) [(0, _), (2, _), (3, _)] (Sub.consE rfl rfl (Sub.cons (i := 0) rfl (Sub.cons (i := 2) rfl (Sub.cons (i := 3) rfl (Sub.nil _))))) rfl rfl ?_ ?_
  · exact ⟨by omega, hi2⟩
  · rintro ⟨n, x, i_, k⟩ hI3 ih3
    dsimp only at hI3
    dsimp only [List.set]
    obtain ⟨hn_, hi_⟩ := hI3
    refine SQ <| SQ <| RG <| MV rfl rfl <| rw_gtr rfl rfl rfl <| ND <| ?_
    refine gw_cond rfl (fun h1 => ?_) (fun h1 => ?_)
    · have hp4 := pos_of h1
      refine SK <| SQ <| BK <| SQ <| RG <| MV rfl rfl <| rw_ch (G := [cur b A l.length cp i_ k]) (R := []) rfl fun_spec_l1Below rfl (((List.Perm.refl _).trans ((List.Perm.refl _).append_left _))) (fun w hs hin hnd => spec_l1Below (hr.sat hs) hi_ (n := 3) (by decide) (by decide) hin hnd) <| fun v5 ch5 how5 => ?_
      obtain ⟨x5, i5, k5, rfl, hx5, hi5, rfl⟩ := how5
      refine ND <| BK <| SQ <| RG <| EQ1 rfl rfl rfl <| AS rfl rfl <| ND <| ?_
      refine gw_cond rfl (fun h2 => ?_) (fun h2 => ?_)
      · refine gw_tree mixed 9 [false, false, false, false, false, false, false, false, false] rfl rfl <| ?_
        refine aw_step [0, 1] (by kernel_rfl) rfl ⟨⟨_, [true, false, false, false, false, false, false, false, false], rfl, rfl, ?_⟩, ⟨_, [false, true, false, false, false, false, false, false, false], rfl, rfl, ?_⟩, trivial⟩
        · refine LS (i := 0) [_, _, _, _] rfl tyS_impl_Allow rfl rfl rfl rfl <| rw_aw <| ?_
          refine aw_step [1] (by kernel_rfl) rfl ⟨⟨_, [true, true, false, false, false, false, false, false, false], rfl, rfl, ?_⟩, trivial⟩
          refine MV rfl rfl <| rw_aw <| ?_
          refine aw_step [2] (by kernel_rfl) rfl ⟨⟨_, [true, true, true, false, false, false, false, false, false], rfl, rfl, ?_⟩, trivial⟩
          refine rw_ch (G := [cur b A l.length cp i5 k5]) (R := []) rfl fun_spec_l1Below rfl (((List.Perm.refl _).trans ((List.Perm.refl _).append_left _))) (fun w hs hin hnd => spec_l1Below (hr.sat hs) hi5 (n := 7) (by decide) (by decide) hin hnd) <| fun v6 ch6 how6 => ?_
          obtain ⟨x6, i6, k6, rfl, hx6, hi6, rfl⟩ := how6
          refine rw_aw <| ?_
          refine aw_step [3] (by kernel_rfl) rfl ⟨⟨_, [true, true, true, true, false, false, false, false, false], rfl, rfl, ?_⟩, trivial⟩
          refine CV1 rfl fun_spec_SeeIndex rfl (fun w hs => spec_SeeIndex _ _ w) <| rw_aw <| ?_
          refine aw_step [4] (by kernel_rfl) rfl ⟨⟨_, [true, true, true, true, true, false, false, false, false], rfl, rfl, ?_⟩, trivial⟩
          refine MV rfl rfl <| rw_aw <| ?_
          refine aw_step [5, 6, 7] (by kernel_rfl) rfl ⟨⟨_, [true, true, true, true, true, true, false, false, false], rfl, rfl, ?_⟩, ⟨_, [true, true, true, true, true, false, true, false, false], rfl, rfl, ?_⟩, ⟨_, [true, true, true, true, true, false, false, true, false], rfl, rfl, ?_⟩, trivial⟩
          · refine XT rfl rfl rfl <| rw_aw <| ?_
            refine aw_step [6, 7, 8] (by kernel_rfl) rfl ⟨⟨_, [true, true, true, true, true, true, true, false, false], rfl, rfl, ?_⟩, ⟨_, [true, true, true, true, true, true, false, true, false], rfl, rfl, ?_⟩, ⟨_, [true, true, true, true, true, true, false, false, true], rfl, rfl, ?_⟩, trivial⟩
            · refine XT rfl rfl rfl <| rw_aw <| ?_
              refine aw_step [7, 8] (by kernel_rfl) rfl ⟨⟨_, [true, true, true, true, true, true, true, true, false], rfl, rfl, ?_⟩, ⟨_, [true, true, true, true, true, true, true, false, true], rfl, rfl, ?_⟩, trivial⟩
              · refine XT rfl rfl rfl <| rw_aw <| ?_
                refine aw_step [8] (by kernel_rfl) rfl ⟨⟨_, [true, true, true, true, true, true, true, true, true], rfl, rfl, ?_⟩, trivial⟩
                refine ST (i := 0) [_, _, _, _] [_, _, _, _] tyS_impl_Allow.sz rfl rfl rfl rfl rfl rfl rfl rfl <| rw_aw <| aw_done (by kernel_rfl) <| IB <| IB <| RG <| MV rfl rfl <| rw_sub rfl rfl rfl <| AS rfl rfl <| ND <| ?_
                refine gw_sub (Sub.consE (i := 5) rfl (int_pred hp4 (by omega)) (Sub.cons (i := 0) rfl (Sub.cons (i := 2) rfl (Sub.cons (i := 3) rfl (Sub.nil _))))) (ih3 (n - 1, _, i6, k6) ?_ ?_)
                · exact ⟨by omega, hi6⟩
                · show n - 1 < n; omega
              · refine ST (i := 0) [_, _, _, _] [_, _, _, _] tyS_impl_Allow.sz rfl rfl rfl rfl rfl rfl rfl rfl <| rw_aw <| ?_
                refine aw_step [7] (by kernel_rfl) rfl ⟨⟨_, [true, true, true, true, true, true, true, true, true], rfl, rfl, ?_⟩, trivial⟩
                refine XT rfl rfl rfl <| rw_aw <| aw_done (by kernel_rfl) <| IB <| IB <| RG <| MV rfl rfl <| rw_sub rfl rfl rfl <| AS rfl rfl <| ND <| ?_
                refine gw_sub (Sub.consE (i := 5) rfl (int_pred hp4 (by omega)) (Sub.cons (i := 0) rfl (Sub.cons (i := 2) rfl (Sub.cons (i := 3) rfl (Sub.nil _))))) (ih3 (n - 1, _, i6, k6) ?_ ?_)
                · exact ⟨by omega, hi6⟩
                · show n - 1 < n; omega
            · refine XT rfl rfl rfl <| rw_aw <| ?_
              refine aw_step [6, 8] (by kernel_rfl) rfl ⟨⟨_, [true, true, true, true, true, true, true, true, false], rfl, rfl, ?_⟩, ⟨_, [true, true, true, true, true, true, false, true, true], rfl, rfl, ?_⟩, trivial⟩
              · refine XT rfl rfl rfl <| rw_aw <| ?_
                refine aw_step [8] (by kernel_rfl) rfl ⟨⟨_, [true, true, true, true, true, true, true, true, true], rfl, rfl, ?_⟩, trivial⟩
                refine ST (i := 0) [_, _, _, _] [_, _, _, _] tyS_impl_Allow.sz rfl rfl rfl rfl rfl rfl rfl rfl <| rw_aw <| aw_done (by kernel_rfl) <| IB <| IB <| RG <| MV rfl rfl <| rw_sub rfl rfl rfl <| AS rfl rfl <| ND <| ?_
                refine gw_sub (Sub.consE (i := 5) rfl (int_pred hp4 (by omega)) (Sub.cons (i := 0) rfl (Sub.cons (i := 2) rfl (Sub.cons (i := 3) rfl (Sub.nil _))))) (ih3 (n - 1, _, i6, k6) ?_ ?_)
                · exact ⟨by omega, hi6⟩
                · show n - 1 < n; omega
              · refine ST (i := 0) [_, _, _, _] [_, _, _, _] tyS_impl_Allow.sz rfl rfl rfl rfl rfl rfl rfl rfl <| rw_aw <| ?_
                refine aw_step [6] (by kernel_rfl) rfl ⟨⟨_, [true, true, true, true, true, true, true, true, true], rfl, rfl, ?_⟩, trivial⟩
                refine XT rfl rfl rfl <| rw_aw <| aw_done (by kernel_rfl) <| IB <| IB <| RG <| MV rfl rfl <| rw_sub rfl rfl rfl <| AS rfl rfl <| ND <| ?_
                refine gw_sub (Sub.consE (i := 5) rfl (int_pred hp4 (by omega)) (Sub.cons (i := 0) rfl (Sub.cons (i := 2) rfl (Sub.cons (i := 3) rfl (Sub.nil _))))) (ih3 (n - 1, _, i6, k6) ?_ ?_)
                · exact ⟨by omega, hi6⟩
                · show n - 1 < n; omega
            · refine ST (i := 0) [_, _, _, _] [_, _, _, _] tyS_impl_Allow.sz rfl rfl rfl rfl rfl rfl rfl rfl <| rw_aw <| ?_
              refine aw_step [6, 7] (by kernel_rfl) rfl ⟨⟨_, [true, true, true, true, true, true, true, false, true], rfl, rfl, ?_⟩, ⟨_, [true, true, true, true, true, true, false, true, true], rfl, rfl, ?_⟩, trivial⟩
              · refine XT rfl rfl rfl <| rw_aw <| ?_
                refine aw_step [7] (by kernel_rfl) rfl ⟨⟨_, [true, true, true, true, true, true, true, true, true], rfl, rfl, ?_⟩, trivial⟩
                refine XT rfl rfl rfl <| rw_aw <| aw_done (by kernel_rfl) <| IB <| IB <| RG <| MV rfl rfl <| rw_sub rfl rfl rfl <| AS rfl rfl <| ND <| ?_
                refine gw_sub (Sub.consE (i := 5) rfl (int_pred hp4 (by omega)) (Sub.cons (i := 0) rfl (Sub.cons (i := 2) rfl (Sub.cons (i := 3) rfl (Sub.nil _))))) (ih3 (n - 1, _, i6, k6) ?_ ?_)
                · exact ⟨by omega, hi6⟩
                · show n - 1 < n; omega
              · refine XT rfl rfl rfl <| rw_aw <| ?_
                refine aw_step [6] (by kernel_rfl) rfl ⟨⟨_, [true, true, true, true, true, true, true, true, true], rfl, rfl, ?_⟩, trivial⟩
                refine XT rfl rfl rfl <| rw_aw <| aw_done (by kernel_rfl) <| IB <| IB <| RG <| MV rfl rfl <| rw_sub rfl rfl rfl <| AS rfl rfl <| ND <| ?_
                refine gw_sub (Sub.consE (i := 5) rfl (int_pred hp4 (by omega)) (Sub.cons (i := 0) rfl (Sub.cons (i := 2) rfl (Sub.cons (i := 3) rfl (Sub.nil _))))) (ih3 (n - 1, _, i6, k6) ?_ ?_)
                · exact ⟨by omega, hi6⟩
                · show n - 1 < n; omega
          · refine XT rfl rfl rfl <| rw_aw <| ?_
            refine aw_step [5, 7] (by kernel_rfl) rfl ⟨⟨_, [true, true, true, true, true, true, true, false, false], rfl, rfl, ?_⟩, ⟨_, [true, true, true, true, true, false, true, true, false], rfl, rfl, ?_⟩, trivial⟩
            · refine XT rfl rfl rfl <| rw_aw <| ?_
              refine aw_step [7, 8] (by kernel_rfl) rfl ⟨⟨_, [true, true, true, true, true, true, true, true, false], rfl, rfl, ?_⟩, ⟨_, [true, true, true, true, true, true, true, false, true], rfl, rfl, ?_⟩, trivial⟩
              · refine XT rfl rfl rfl <| rw_aw <| ?_
                refine aw_step [8] (by kernel_rfl) rfl ⟨⟨_, [true, true, true, true, true, true, true, true, true], rfl, rfl, ?_⟩, trivial⟩
                refine ST (i := 0) [_, _, _, _] [_, _, _, _] tyS_impl_Allow.sz rfl rfl rfl rfl rfl rfl rfl rfl <| rw_aw <| aw_done (by kernel_rfl) <| IB <| IB <| RG <| MV rfl rfl <| rw_sub rfl rfl rfl <| AS rfl rfl <| ND <| ?_
                refine gw_sub (Sub.consE (i := 5) rfl (int_pred hp4 (by omega)) (Sub.cons (i := 0) rfl (Sub.cons (i := 2) rfl (Sub.cons (i := 3) rfl (Sub.nil _))))) (ih3 (n - 1, _, i6, k6) ?_ ?_)
                · exact ⟨by omega, hi6⟩
                · show n - 1 < n; omega
              · refine ST (i := 0) [_, _, _, _] [_, _, _, _] tyS_impl_Allow.sz rfl rfl rfl rfl rfl rfl rfl rfl <| rw_aw <| ?_
                refine aw_step [7] (by kernel_rfl) rfl ⟨⟨_, [true, true, true, true, true, true, true, true, true], rfl, rfl, ?_⟩, trivial⟩
                refine XT rfl rfl rfl <| rw_aw <| aw_done (by kernel_rfl) <| IB <| IB <| RG <| MV rfl rfl <| rw_sub rfl rfl rfl <| AS rfl rfl <| ND <| ?_
                refine gw_sub (Sub.consE (i := 5) rfl (int_pred hp4 (by omega)) (Sub.cons (i := 0) rfl (Sub.cons (i := 2) rfl (Sub.cons (i := 3) rfl (Sub.nil _))))) (ih3 (n - 1, _, i6, k6) ?_ ?_)
                · exact ⟨by omega, hi6⟩
                · show n - 1 < n; omega
            · refine XT rfl rfl rfl <| rw_aw <| ?_
              refine aw_step [5] (by kernel_rfl) rfl ⟨⟨_, [true, true, true, true, true, true, true, true, false], rfl, rfl, ?_⟩, trivial⟩
              refine XT rfl rfl rfl <| rw_aw <| ?_
              refine aw_step [8] (by kernel_rfl) rfl ⟨⟨_, [true, true, true, true, true, true, true, true, true], rfl, rfl, ?_⟩, trivial⟩
              refine ST (i := 0) [_, _, _, _] [_, _, _, _] tyS_impl_Allow.sz rfl rfl rfl rfl rfl rfl rfl rfl <| rw_aw <| aw_done (by kernel_rfl) <| IB <| IB <| RG <| MV rfl rfl <| rw_sub rfl rfl rfl <| AS rfl rfl <| ND <| ?_
              refine gw_sub (Sub.consE (i := 5) rfl (int_pred hp4 (by omega)) (Sub.cons (i := 0) rfl (Sub.cons (i := 2) rfl (Sub.cons (i := 3) rfl (Sub.nil _))))) (ih3 (n - 1, _, i6, k6) ?_ ?_)
              · exact ⟨by omega, hi6⟩
              · show n - 1 < n; omega
          · refine XT rfl rfl rfl <| rw_aw <| ?_
            refine aw_step [5, 6] (by kernel_rfl) rfl ⟨⟨_, [true, true, true, true, true, true, false, true, false], rfl, rfl, ?_⟩, ⟨_, [true, true, true, true, true, false, true, true, false], rfl, rfl, ?_⟩, trivial⟩
            · refine XT rfl rfl rfl <| rw_aw <| ?_
              refine aw_step [6, 8] (by kernel_rfl) rfl ⟨⟨_, [true, true, true, true, true, true, true, true, false], rfl, rfl, ?_⟩, ⟨_, [true, true, true, true, true, true, false, true, true], rfl, rfl, ?_⟩, trivial⟩
              · refine XT rfl rfl rfl <| rw_aw <| ?_
                refine aw_step [8] (by kernel_rfl) rfl ⟨⟨_, [true, true, true, true, true, true, true, true, true], rfl, rfl, ?_⟩, trivial⟩
                refine ST (i := 0) [_, _, _, _] [_, _, _, _] tyS_impl_Allow.sz rfl rfl rfl rfl rfl rfl rfl rfl <| rw_aw <| aw_done (by kernel_rfl) <| IB <| IB <| RG <| MV rfl rfl <| rw_sub rfl rfl rfl <| AS rfl rfl <| ND <| ?_
                refine gw_sub (Sub.consE (i := 5) rfl (int_pred hp4 (by omega)) (Sub.cons (i := 0) rfl (Sub.cons (i := 2) rfl (Sub.cons (i := 3) rfl (Sub.nil _))))) (ih3 (n - 1, _, i6, k6) ?_ ?_)
                · exact ⟨by omega, hi6⟩
                · show n - 1 < n; omega
              · refine ST (i := 0) [_, _, _, _] [_, _, _, _] tyS_impl_Allow.sz rfl rfl rfl rfl rfl rfl rfl rfl <| rw_aw <| ?_
                refine aw_step [6] (by kernel_rfl) rfl ⟨⟨_, [true, true, true, true, true, true, true, true, true], rfl, rfl, ?_⟩, trivial⟩
                refine XT rfl rfl rfl <| rw_aw <| aw_done (by kernel_rfl) <| IB <| IB <| RG <| MV rfl rfl <| rw_sub rfl rfl rfl <| AS rfl rfl <| ND <| ?_
                refine gw_sub (Sub.consE (i := 5) rfl (int_pred hp4 (by omega)) (Sub.cons (i := 0) rfl (Sub.cons (i := 2) rfl (Sub.cons (i := 3) rfl (Sub.nil _))))) (ih3 (n - 1, _, i6, k6) ?_ ?_)
                · exact ⟨by omega, hi6⟩
                · show n - 1 < n; omega
            · refine XT rfl rfl rfl <| rw_aw <| ?_
              refine aw_step [5] (by kernel_rfl) rfl ⟨⟨_, [true, true, true, true, true, true, true, true, false], rfl, rfl, ?_⟩, trivial⟩
              refine XT rfl rfl rfl <| rw_aw <| ?_
              refine aw_step [8] (by kernel_rfl) rfl ⟨⟨_, [true, true, true, true, true, true, true, true, true], rfl, rfl, ?_⟩, trivial⟩
              refine ST (i := 0) [_, _, _, _] [_, _, _, _] tyS_impl_Allow.sz rfl rfl rfl rfl rfl rfl rfl rfl <| rw_aw <| aw_done (by kernel_rfl) <| IB <| IB <| RG <| MV rfl rfl <| rw_sub rfl rfl rfl <| AS rfl rfl <| ND <| ?_
              refine gw_sub (Sub.consE (i := 5) rfl (int_pred hp4 (by omega)) (Sub.cons (i := 0) rfl (Sub.cons (i := 2) rfl (Sub.cons (i := 3) rfl (Sub.nil _))))) (ih3 (n - 1, _, i6, k6) ?_ ?_)
              · exact ⟨by omega, hi6⟩
              · show n - 1 < n; omega
        · refine MV rfl rfl <| rw_aw <| ?_
          refine aw_step [0, 2] (by kernel_rfl) rfl ⟨⟨_, [true, true, false, false, false, false, false, false, false], rfl, rfl, ?_⟩, ⟨_, [false, true, true, false, false, false, false, false, false], rfl, rfl, ?_⟩, trivial⟩
          · refine LS (i := 0) [_, _, _, _] rfl tyS_impl_Allow rfl rfl rfl rfl <| rw_aw <| ?_
            refine aw_step [2] (by kernel_rfl) rfl ⟨⟨_, [true, true, true, false, false, false, false, false, false], rfl, rfl, ?_⟩, trivial⟩
            refine rw_ch (G := [cur b A l.length cp i5 k5]) (R := []) rfl fun_spec_l1Below rfl (((List.Perm.refl _).trans ((List.Perm.refl _).append_left _))) (fun w hs hin hnd => spec_l1Below (hr.sat hs) hi5 (n := 7) (by decide) (by decide) hin hnd) <| fun v7 ch7 how7 => ?_
            obtain ⟨x7, i7, k7, rfl, hx7, hi7, rfl⟩ := how7
            refine rw_aw <| ?_
            refine aw_step [3] (by kernel_rfl) rfl ⟨⟨_, [true, true, true, true, false, false, false, false, false], rfl, rfl, ?_⟩, trivial⟩
            refine CV1 rfl fun_spec_SeeIndex rfl (fun w hs => spec_SeeIndex _ _ w) <| rw_aw <| ?_
            refine aw_step [4] (by kernel_rfl) rfl ⟨⟨_, [true, true, true, true, true, false, false, false, false], rfl, rfl, ?_⟩, trivial⟩
            refine MV rfl rfl <| rw_aw <| ?_
            refine aw_step [5, 6, 7] (by kernel_rfl) rfl ⟨⟨_, [true, true, true, true, true, true, false, false, false], rfl, rfl, ?_⟩, ⟨_, [true, true, true, true, true, false, true, false, false], rfl, rfl, ?_⟩, ⟨_, [true, true, true, true, true, false, false, true, false], rfl, rfl, ?_⟩, trivial⟩
            · refine XT rfl rfl rfl <| rw_aw <| ?_
              refine aw_step [6, 7, 8] (by kernel_rfl) rfl ⟨⟨_, [true, true, true, true, true, true, true, false, false], rfl, rfl, ?_⟩, ⟨_, [true, true, true, true, true, true, false, true, false], rfl, rfl, ?_⟩, ⟨_, [true, true, true, true, true, true, false, false, true], rfl, rfl, ?_⟩, trivial⟩
              · refine XT rfl rfl rfl <| rw_aw <| ?_
                refine aw_step [7, 8] (by kernel_rfl) rfl ⟨⟨_, [true, true, true, true, true, true, true, true, false], rfl, rfl, ?_⟩, ⟨_, [true, true, true, true, true, true, true, false, true], rfl, rfl, ?_⟩, trivial⟩
                · refine XT rfl rfl rfl <| rw_aw <| ?_
                  refine aw_step [8] (by kernel_rfl) rfl ⟨⟨_, [true, true, true, true, true, true, true, true, true], rfl, rfl, ?_⟩, trivial⟩
                  refine ST (i := 0) [_, _, _, _] [_, _, _, _] tyS_impl_Allow.sz rfl rfl rfl rfl rfl rfl rfl rfl <| rw_aw <| aw_done (by kernel_rfl) <| IB <| IB <| RG <| MV rfl rfl <| rw_sub rfl rfl rfl <| AS rfl rfl <| ND <| ?_
                  refine gw_sub (Sub.consE (i := 5) rfl (int_pred hp4 (by omega)) (Sub.cons (i := 0) rfl (Sub.cons (i := 2) rfl (Sub.cons (i := 3) rfl (Sub.nil _))))) (ih3 (n - 1, _, i7, k7) ?_ ?_)
                  · exact ⟨by omega, hi7⟩
                  · show n - 1 < n; omega
                · refine ST (i := 0) [_, _, _, _] [_, _, _, _] tyS_impl_Allow.sz rfl rfl rfl rfl rfl rfl rfl rfl <| rw_aw <| ?_
                  refine aw_step [7] (by kernel_rfl) rfl ⟨⟨_, [true, true, true, true, true, true, true, true, true], rfl, rfl, ?_⟩, trivial⟩
                  refine XT rfl rfl rfl <| rw_aw <| aw_done (by kernel_rfl) <| IB <| IB <| RG <| MV rfl rfl <| rw_sub rfl rfl rfl <| AS rfl rfl <| ND <| ?_
                  refine gw_sub (Sub.consE (i := 5) rfl (int_pred hp4 (by omega)) (Sub.cons (i := 0) rfl (Sub.cons (i := 2) rfl (Sub.cons (i := 3) rfl (Sub.nil _))))) (ih3 (n - 1, _, i7, k7) ?_ ?_)
                  · exact ⟨by omega, hi7⟩
                  · show n - 1 < n; omega
              · refine XT rfl rfl rfl <| rw_aw <| ?_
                refine aw_step [6, 8] (by kernel_rfl) rfl ⟨⟨_, [true, true, true, true, true, true, true, true, false], rfl, rfl, ?_⟩, ⟨_, [true, true, true, true, true, true, false, true, true], rfl, rfl, ?_⟩, trivial⟩
                · refine XT rfl rfl rfl <| rw_aw <| ?_
                  refine aw_step [8] (by kernel_rfl) rfl ⟨⟨_, [true, true, true, true, true, true, true, true, true], rfl, rfl, ?_⟩, trivial⟩
                  refine ST (i := 0) [_, _, _, _] [_, _, _, _] tyS_impl_Allow.sz rfl rfl rfl rfl rfl rfl rfl rfl <| rw_aw <| aw_done (by kernel_rfl) <| IB <| IB <| RG <| MV rfl rfl <| rw_sub rfl rfl rfl <| AS rfl rfl <| ND <| ?_
                  refine gw_sub (Sub.consE (i := 5) rfl (int_pred hp4 (by omega)) (Sub.cons (i := 0) rfl (Sub.cons (i := 2) rfl (Sub.cons (i := 3) rfl (Sub.nil _))))) (ih3 (n - 1, _, i7, k7) ?_ ?_)
                  · exact ⟨by omega, hi7⟩
                  · show n - 1 < n; omega
                · refine ST (i := 0) [_, _, _, _] [_, _, _, _] tyS_impl_Allow.sz rfl rfl rfl rfl rfl rfl rfl rfl <| rw_aw <| ?_
                  refine aw_step [6] (by kernel_rfl) rfl ⟨⟨_, [true, true, true, true, true, true, true, true, true], rfl, rfl, ?_⟩, trivial⟩
                  refine XT rfl rfl rfl <| rw_aw <| aw_done (by kernel_rfl) <| IB <| IB <| RG <| MV rfl rfl <| rw_sub rfl rfl rfl <| AS rfl rfl <| ND <| ?_
                  refine gw_sub (Sub.consE (i := 5) rfl (int_pred hp4 (by omega)) (Sub.cons (i := 0) rfl (Sub.cons (i := 2) rfl (Sub.cons (i := 3) rfl (Sub.nil _))))) (ih3 (n - 1, _, i7, k7) ?_ ?_)
                  · exact ⟨by omega, hi7⟩
                  · show n - 1 < n; omega
              · refine ST (i := 0) [_, _, _, _] [_, _, _, _] tyS_impl_Allow.sz rfl rfl rfl rfl rfl rfl rfl rfl <| rw_aw <| ?_
                refine aw_step [6, 7] (by kernel_rfl) rfl ⟨⟨_, [true, true, true, true, true, true, true, false, true], rfl, rfl, ?_⟩, ⟨_, [true, true, true, true, true, true, false, true, true], rfl, rfl, ?_⟩, trivial⟩
                · refine XT rfl rfl rfl <| rw_aw <| ?_
                  refine aw_step [7] (by kernel_rfl) rfl ⟨⟨_, [true, true, true, true, true, true, true, true, true], rfl, rfl, ?_⟩, trivial⟩
                  refine XT rfl rfl rfl <| rw_aw <| aw_done (by kernel_rfl) <| IB <| IB <| RG <| MV rfl rfl <| rw_sub rfl rfl rfl <| AS rfl rfl <| ND <| ?_
                  refine gw_sub (Sub.consE (i := 5) rfl (int_pred hp4 (by omega)) (Sub.cons (i := 0) rfl (Sub.cons (i := 2) rfl (Sub.cons (i := 3) rfl (Sub.nil _))))) (ih3 (n - 1, _, i7, k7) ?_ ?_)
                  · exact ⟨by omega, hi7⟩
                  · show n - 1 < n; omega
                · refine XT rfl rfl rfl <| rw_aw <| ?_
                  refine aw_step [6] (by kernel_rfl) rfl ⟨⟨_, [true, true, true, true, true, true, true, true, true], rfl, rfl, ?_⟩, trivial⟩
                  refine XT rfl rfl rfl <| rw_aw <| aw_done (by kernel_rfl) <| IB <| IB <| RG <| MV rfl rfl <| rw_sub rfl rfl rfl <| AS rfl rfl <| ND <| ?_
                  refine gw_sub (Sub.consE (i := 5) rfl (int_pred hp4 (by omega)) (Sub.cons (i := 0) rfl (Sub.cons (i := 2) rfl (Sub.cons (i := 3) rfl (Sub.nil _))))) (ih3 (n - 1, _, i7, k7) ?_ ?_)
                  · exact ⟨by omega, hi7⟩
                  · show n - 1 < n; omega
            · refine XT rfl rfl rfl <| rw_aw <| ?_
              refine aw_step [5, 7] (by kernel_rfl) rfl ⟨⟨_, [true, true, true, true, true, true, true, false, false], rfl, rfl, ?_⟩, ⟨_, [true, true, true, true, true, false, true, true, false], rfl, rfl, ?_⟩, trivial⟩
              · refine XT rfl rfl rfl <| rw_aw <| ?_
                refine aw_step [7, 8] (by kernel_rfl) rfl ⟨⟨_, [true, true, true, true, true, true, true, true, false], rfl, rfl, ?_⟩, ⟨_, [true, true, true, true, true, true, true, false, true], rfl, rfl, ?_⟩, trivial⟩
                · refine XT rfl rfl rfl <| rw_aw <| ?_
                  refine aw_step [8] (by kernel_rfl) rfl ⟨⟨_, [true, true, true, true, true, true, true, true, true], rfl, rfl, ?_⟩, trivial⟩
                  refine ST (i := 0) [_, _, _, _] [_, _, _, _] tyS_impl_Allow.sz rfl rfl rfl rfl rfl rfl rfl rfl <| rw_aw <| aw_done (by kernel_rfl) <| IB <| IB <| RG <| MV rfl rfl <| rw_sub rfl rfl rfl <| AS rfl rfl <| ND <| ?_
                  refine gw_sub (Sub.consE (i := 5) rfl (int_pred hp4 (by omega)) (Sub.cons (i := 0) rfl (Sub.cons (i := 2) rfl (Sub.cons (i := 3) rfl (Sub.nil _))))) (ih3 (n - 1, _, i7, k7) ?_ ?_)
                  · exact ⟨by omega, hi7⟩
                  · show n - 1 < n; omega
                · refine ST (i := 0) [_, _, _, _] [_, _, _, _] tyS_impl_Allow.sz rfl rfl rfl rfl rfl rfl rfl rfl <| rw_aw <| ?_
                  refine aw_step [7] (by kernel_rfl) rfl ⟨⟨_, [true, true, true, true, true, true, true, true, true], rfl, rfl, ?_⟩, trivial⟩
                  refine XT rfl rfl rfl <| rw_aw <| aw_done (by kernel_rfl) <| IB <| IB <| RG <| MV rfl rfl <| rw_sub rfl rfl rfl <| AS rfl rfl <| ND <| ?_
                  refine gw_sub (Sub.consE (i := 5) rfl (int_pred hp4 (by omega)) (Sub.cons (i := 0) rfl (Sub.cons (i := 2) rfl (Sub.cons (i := 3) rfl (Sub.nil _))))) (ih3 (n - 1, _, i7, k7) ?_ ?_)
                  · exact ⟨by omega, hi7⟩
                  · show n - 1 < n; omega
              · refine XT rfl rfl rfl <| rw_aw <| ?_
                refine aw_step [5] (by kernel_rfl) rfl ⟨⟨_, [true, true, true, true, true, true, true, true, false], rfl, rfl, ?_⟩, trivial⟩
                refine XT rfl rfl rfl <| rw_aw <| ?_
                refine aw_step [8] (by kernel_rfl) rfl ⟨⟨_, [true, true, true, true, true, true, true, true, true], rfl, rfl, ?_⟩, trivial⟩
                refine ST (i := 0) [_, _, _, _] [_, _, _, _] tyS_impl_Allow.sz rfl rfl rfl rfl rfl rfl rfl rfl <| rw_aw <| aw_done (by kernel_rfl) <| IB <| IB <| RG <| MV rfl rfl <| rw_sub rfl rfl rfl <| AS rfl rfl <| ND <| ?_
                refine gw_sub (Sub.consE (i := 5) rfl (int_pred hp4 (by omega)) (Sub.cons (i := 0) rfl (Sub.cons (i := 2) rfl (Sub.cons (i := 3) rfl (Sub.nil _))))) (ih3 (n - 1, _, i7, k7) ?_ ?_)
                · exact ⟨by omega, hi7⟩
                · show n - 1 < n; omega
            · refine XT rfl rfl rfl <| rw_aw <| ?_
              refine aw_step [5, 6] (by kernel_rfl) rfl ⟨⟨_, [true, true, true, true, true, true, false, true, false], rfl, rfl, ?_⟩, ⟨_, [true, true, true, true, true, false, true, true, false], rfl, rfl, ?_⟩, trivial⟩
              · refine XT rfl rfl rfl <| rw_aw <| ?_
                refine aw_step [6, 8] (by kernel_rfl) rfl ⟨⟨_, [true, true, true, true, true, true, true, true, false], rfl, rfl, ?_⟩, ⟨_, [true, true, true, true, true, true, false, true, true], rfl, rfl, ?_⟩, trivial⟩
                · refine XT rfl rfl rfl <| rw_aw <| ?_
                  refine aw_step [8] (by kernel_rfl) rfl ⟨⟨_, [true, true, true, true, true, true, true, true, true], rfl, rfl, ?_⟩, trivial⟩
                  refine ST (i := 0) [_, _, _, _] [_, _, _, _] tyS_impl_Allow.sz rfl rfl rfl rfl rfl rfl rfl rfl <| rw_aw <| aw_done (by kernel_rfl) <| IB <| IB <| RG <| MV rfl rfl <| rw_sub rfl rfl rfl <| AS rfl rfl <| ND <| ?_
                  refine gw_sub (Sub.consE (i := 5) rfl (int_pred hp4 (by omega)) (Sub.cons (i := 0) rfl (Sub.cons (i := 2) rfl (Sub.cons (i := 3) rfl (Sub.nil _))))) (ih3 (n - 1, _, i7, k7) ?_ ?_)
                  · exact ⟨by omega, hi7⟩
                  · show n - 1 < n; omega
                · refine ST (i := 0) [_, _, _, _] [_, _, _, _] tyS_impl_Allow.sz rfl rfl rfl rfl rfl rfl rfl rfl <| rw_aw <| ?_
                  refine aw_step [6] (by kernel_rfl) rfl ⟨⟨_, [true, true, true, true, true, true, true, true, true], rfl, rfl, ?_⟩, trivial⟩
                  refine XT rfl rfl rfl <| rw_aw <| aw_done (by kernel_rfl) <| IB <| IB <| RG <| MV rfl rfl <| rw_sub rfl rfl rfl <| AS rfl rfl <| ND <| ?_
                  refine gw_sub (Sub.consE (i := 5) rfl (int_pred hp4 (by omega)) (Sub.cons (i := 0) rfl (Sub.cons (i := 2) rfl (Sub.cons (i := 3) rfl (Sub.nil _))))) (ih3 (n - 1, _, i7, k7) ?_ ?_)
                  · exact ⟨by omega, hi7⟩
                  · show n - 1 < n; omega
              · refine XT rfl rfl rfl <| rw_aw <| ?_
                refine aw_step [5] (by kernel_rfl) rfl ⟨⟨_, [true, true, true, true, true, true, true, true, false], rfl, rfl, ?_⟩, trivial⟩
                refine XT rfl rfl rfl <| rw_aw <| ?_
                refine aw_step [8] (by kernel_rfl) rfl ⟨⟨_, [true, true, true, true, true, true, true, true, true], rfl, rfl, ?_⟩, trivial⟩
                refine ST (i := 0) [_, _, _, _] [_, _, _, _] tyS_impl_Allow.sz rfl rfl rfl rfl rfl rfl rfl rfl <| rw_aw <| aw_done (by kernel_rfl) <| IB <| IB <| RG <| MV rfl rfl <| rw_sub rfl rfl rfl <| AS rfl rfl <| ND <| ?_
                refine gw_sub (Sub.consE (i := 5) rfl (int_pred hp4 (by omega)) (Sub.cons (i := 0) rfl (Sub.cons (i := 2) rfl (Sub.cons (i := 3) rfl (Sub.nil _))))) (ih3 (n - 1, _, i7, k7) ?_ ?_)
                · exact ⟨by omega, hi7⟩
                · show n - 1 < n; omega
          · refine rw_ch (G := [cur b A l.length cp i5 k5]) (R := []) rfl fun_spec_l1Below rfl (((List.Perm.refl _).trans ((List.Perm.refl _).append_left _))) (fun w hs hin hnd => spec_l1Below (hr.sat hs) hi5 (n := 7) (by decide) (by decide) hin hnd) <| fun v8 ch8 how8 => ?_
            obtain ⟨x8, i8, k8, rfl, hx8, hi8, rfl⟩ := how8
            refine rw_aw <| ?_
            refine aw_step [0] (by kernel_rfl) rfl ⟨⟨_, [true, true, true, false, false, false, false, false, false], rfl, rfl, ?_⟩, trivial⟩
            refine LS (i := 0) [_, _, _, _] rfl tyS_impl_Allow rfl rfl rfl rfl <| rw_aw <| ?_
            refine aw_step [3] (by kernel_rfl) rfl ⟨⟨_, [true, true, true, true, false, false, false, false, false], rfl, rfl, ?_⟩, trivial⟩
            refine CV1 rfl fun_spec_SeeIndex rfl (fun w hs => spec_SeeIndex _ _ w) <| rw_aw <| ?_
            refine aw_step [4] (by kernel_rfl) rfl ⟨⟨_, [true, true, true, true, true, false, false, false, false], rfl, rfl, ?_⟩, trivial⟩
            refine MV rfl rfl <| rw_aw <| ?_
            refine aw_step [5, 6, 7] (by kernel_rfl) rfl ⟨⟨_, [true, true, true, true, true, true, false, false, false], rfl, rfl, ?_⟩, ⟨_, [true, true, true, true, true, false, true, false, false], rfl, rfl, ?_⟩, ⟨_, [true, true, true, true, true, false, false, true, false], rfl, rfl, ?_⟩, trivial⟩
            · refine XT rfl rfl rfl <| rw_aw <| ?_
              refine aw_step [6, 7, 8] (by kernel_rfl) rfl ⟨⟨_, [true, true, true, true, true, true, true, false, false], rfl, rfl, ?_⟩, ⟨_, [true, true, true, true, true, true, false, true, false], rfl, rfl, ?_⟩, ⟨_, [true, true, true, true, true, true, false, false, true], rfl, rfl, ?_⟩, trivial⟩
              · refine XT rfl rfl rfl <| rw_aw <| ?_
                refine aw_step [7, 8] (by kernel_rfl) rfl ⟨⟨_, [true, true, true, true, true, true, true, true, false], rfl, rfl, ?_⟩, ⟨_, [true, true, true, true, true, true, true, false, true], rfl, rfl, ?_⟩, trivial⟩
                · refine XT rfl rfl rfl <| rw_aw <| ?_
                  refine aw_step [8] (by kernel_rfl) rfl ⟨⟨_, [true, true, true, true, true, true, true, true, true], rfl, rfl, ?_⟩, trivial⟩
                  refine ST (i := 0) [_, _, _, _] [_, _, _, _] tyS_impl_Allow.sz rfl rfl rfl rfl rfl rfl rfl rfl <| rw_aw <| aw_done (by kernel_rfl) <| IB <| IB <| RG <| MV rfl rfl <| rw_sub rfl rfl rfl <| AS rfl rfl <| ND <| ?_
                  refine gw_sub (Sub.consE (i := 5) rfl (int_pred hp4 (by omega)) (Sub.cons (i := 0) rfl (Sub.cons (i := 2) rfl (Sub.cons (i := 3) rfl (Sub.nil _))))) (ih3 (n - 1, _, i8, k8) ?_ ?_)
                  · exact ⟨by omega, hi8⟩
                  · show n - 1 < n; omega
                · refine ST (i := 0) [_, _, _, _] [_, _, _, _] tyS_impl_Allow.sz rfl rfl rfl rfl rfl rfl rfl rfl <| rw_aw <| ?_
                  refine aw_step [7] (by kernel_rfl) rfl ⟨⟨_, [true, true, true, true, true, true, true, true, true], rfl, rfl, ?_⟩, trivial⟩
                  refine XT rfl rfl rfl <| rw_aw <| aw_done (by kernel_rfl) <| IB <| IB <| RG <| MV rfl rfl <| rw_sub rfl rfl rfl <| AS rfl rfl <| ND <| ?_
                  refine gw_sub (Sub.consE (i := 5) rfl (int_pred hp4 (by omega)) (Sub.cons (i := 0) rfl (Sub.cons (i := 2) rfl (Sub.cons (i := 3) rfl (Sub.nil _))))) (ih3 (n - 1, _, i8, k8) ?_ ?_)
                  · exact ⟨by omega, hi8⟩
                  · show n - 1 < n; omega
              · refine XT rfl rfl rfl <| rw_aw <| ?_
                refine aw_step [6, 8] (by kernel_rfl) rfl ⟨⟨_, [true, true, true, true, true, true, true, true, false], rfl, rfl, ?_⟩, ⟨_, [true, true, true, true, true, true, false, true, true], rfl, rfl, ?_⟩, trivial⟩
                · refine XT rfl rfl rfl <| rw_aw <| ?_
                  refine aw_step [8] (by kernel_rfl) rfl ⟨⟨_, [true, true, true, true, true, true, true, true, true], rfl, rfl, ?_⟩, trivial⟩
                  refine ST (i := 0) [_, _, _, _] [_, _, _, _] tyS_impl_Allow.sz rfl rfl rfl rfl rfl rfl rfl rfl <| rw_aw <| aw_done (by kernel_rfl) <| IB <| IB <| RG <| MV rfl rfl <| rw_sub rfl rfl rfl <| AS rfl rfl <| ND <| ?_
                  refine gw_sub (Sub.consE (i := 5) rfl (int_pred hp4 (by omega)) (Sub.cons (i := 0) rfl (Sub.cons (i := 2) rfl (Sub.cons (i := 3) rfl (Sub.nil _))))) (ih3 (n - 1, _, i8, k8) ?_ ?_)
                  · exact ⟨by omega, hi8⟩
                  · show n - 1 < n; omega
                · refine ST (i := 0) [_, _, _, _] [_, _, _, _] tyS_impl_Allow.sz rfl rfl rfl rfl rfl rfl rfl rfl <| rw_aw <| ?_
                  refine aw_step [6] (by kernel_rfl) rfl ⟨⟨_, [true, true, true, true, true, true, true, true, true], rfl, rfl, ?_⟩, trivial⟩
                  refine XT rfl rfl rfl <| rw_aw <| aw_done (by kernel_rfl) <| IB <| IB <| RG <| MV rfl rfl <| rw_sub rfl rfl rfl <| AS rfl rfl <| ND <| ?_
                  refine gw_sub (Sub.consE (i := 5) rfl (int_pred hp4 (by omega)) (Sub.cons (i := 0) rfl (Sub.cons (i := 2) rfl (Sub.cons (i := 3) rfl (Sub.nil _))))) (ih3 (n - 1, _, i8, k8) ?_ ?_)
                  · exact ⟨by omega, hi8⟩
                  · show n - 1 < n; omega
              · refine ST (i := 0) [_, _, _, _] [_, _, _, _] tyS_impl_Allow.sz rfl rfl rfl rfl rfl rfl rfl rfl <| rw_aw <| ?_
                refine aw_step [6, 7] (by kernel_rfl) rfl ⟨⟨_, [true, true, true, true, true, true, true, false, true], rfl, rfl, ?_⟩, ⟨_, [true, true, true, true, true, true, false, true, true], rfl, rfl, ?_⟩, trivial⟩
                · refine XT rfl rfl rfl <| rw_aw <| ?_
                  refine aw_step [7] (by kernel_rfl) rfl ⟨⟨_, [true, true, true, true, true, true, true, true, true], rfl, rfl, ?_⟩, trivial⟩
                  refine XT rfl rfl rfl <| rw_aw <| aw_done (by kernel_rfl) <| IB <| IB <| RG <| MV rfl rfl <| rw_sub rfl rfl rfl <| AS rfl rfl <| ND <| ?_
                  refine gw_sub (Sub.consE (i := 5) rfl (int_pred hp4 (by omega)) (Sub.cons (i := 0) rfl (Sub.cons (i := 2) rfl (Sub.cons (i := 3) rfl (Sub.nil _))))) (ih3 (n - 1, _, i8, k8) ?_ ?_)
                  · exact ⟨by omega, hi8⟩
                  · show n - 1 < n; omega
                · refine XT rfl rfl rfl <| rw_aw <| ?_
                  refine aw_step [6] (by kernel_rfl) rfl ⟨⟨_, [true, true, true, true, true, true, true, true, true], rfl, rfl, ?_⟩, trivial⟩
                  refine XT rfl rfl rfl <| rw_aw <| aw_done (by kernel_rfl) <| IB <| IB <| RG <| MV rfl rfl <| rw_sub rfl rfl rfl <| AS rfl rfl <| ND <| ?_
                  refine gw_sub (Sub.consE (i := 5) rfl (int_pred hp4 (by omega)) (Sub.cons (i := 0) rfl (Sub.cons (i := 2) rfl (Sub.cons (i := 3) rfl (Sub.nil _))))) (ih3 (n - 1, _, i8, k8) ?_ ?_)
                  · exact ⟨by omega, hi8⟩
                  · show n - 1 < n; omega
            · refine XT rfl rfl rfl <| rw_aw <| ?_
              refine aw_step [5, 7] (by kernel_rfl) rfl ⟨⟨_, [true, true, true, true, true, true, true, false, false], rfl, rfl, ?_⟩, ⟨_, [true, true, true, true, true, false, true, true, false], rfl, rfl, ?_⟩, trivial⟩
              · refine XT rfl rfl rfl <| rw_aw <| ?_
                refine aw_step [7, 8] (by kernel_rfl) rfl ⟨⟨_, [true, true, true, true, true, true, true, true, false], rfl, rfl, ?_⟩, ⟨_, [true, true, true, true, true, true, true, false, true], rfl, rfl, ?_⟩, trivial⟩
                · refine XT rfl rfl rfl <| rw_aw <| ?_
                  refine aw_step [8] (by kernel_rfl) rfl ⟨⟨_, [true, true, true, true, true, true, true, true, true], rfl, rfl, ?_⟩, trivial⟩
                  refine ST (i := 0) [_, _, _, _] [_, _, _, _] tyS_impl_Allow.sz rfl rfl rfl rfl rfl rfl rfl rfl <| rw_aw <| aw_done (by kernel_rfl) <| IB <| IB <| RG <| MV rfl rfl <| rw_sub rfl rfl rfl <| AS rfl rfl <| ND <| ?_
                  refine gw_sub (Sub.consE (i := 5) rfl (int_pred hp4 (by omega)) (Sub.cons (i := 0) rfl (Sub.cons (i := 2) rfl (Sub.cons (i := 3) rfl (Sub.nil _))))) (ih3 (n - 1, _, i8, k8) ?_ ?_)
                  · exact ⟨by omega, hi8⟩
                  · show n - 1 < n; omega
                · refine ST (i := 0) [_, _, _, _] [_, _, _, _] tyS_impl_Allow.sz rfl rfl rfl rfl rfl rfl rfl rfl <| rw_aw <| ?_
                  refine aw_step [7] (by kernel_rfl) rfl ⟨⟨_, [true, true, true, true, true, true, true, true, true], rfl, rfl, ?_⟩, trivial⟩
                  refine XT rfl rfl rfl <| rw_aw <| aw_done (by kernel_rfl) <| IB <| IB <| RG <| MV rfl rfl <| rw_sub rfl rfl rfl <| AS rfl rfl <| ND <| ?_
                  refine gw_sub (Sub.consE (i := 5) rfl (int_pred hp4 (by omega)) (Sub.cons (i := 0) rfl (Sub.cons (i := 2) rfl (Sub.cons (i := 3) rfl (Sub.nil _))))) (ih3 (n - 1, _, i8, k8) ?_ ?_)
                  · exact ⟨by omega, hi8⟩
                  · show n - 1 < n; omega
              · refine XT rfl rfl rfl <| rw_aw <| ?_
                refine aw_step [5] (by kernel_rfl) rfl ⟨⟨_, [true, true, true, true, true, true, true, true, false], rfl, rfl, ?_⟩, trivial⟩
                refine XT rfl rfl rfl <| rw_aw <| ?_
                refine aw_step [8] (by kernel_rfl) rfl ⟨⟨_, [true, true, true, true, true, true, true, true, true], rfl, rfl, ?_⟩, trivial⟩
                refine ST (i := 0) [_, _, _, _] [_, _, _, _] tyS_impl_Allow.sz rfl rfl rfl rfl rfl rfl rfl rfl <| rw_aw <| aw_done (by kernel_rfl) <| IB <| IB <| RG <| MV rfl rfl <| rw_sub rfl rfl rfl <| AS rfl rfl <| ND <| ?_
                refine gw_sub (Sub.consE (i := 5) rfl (int_pred hp4 (by omega)) (Sub.cons (i := 0) rfl (Sub.cons (i := 2) rfl (Sub.cons (i := 3) rfl (Sub.nil _))))) (ih3 (n - 1, _, i8, k8) ?_ ?_)
                · exact ⟨by omega, hi8⟩
                · show n - 1 < n; omega
            · refine XT rfl rfl rfl <| rw_aw <| ?_
              refine aw_step [5, 6] (by kernel_rfl) rfl ⟨⟨_, [true, true, true, true, true, true, false, true, false], rfl, rfl, ?_⟩, ⟨_, [true, true, true, true, true, false, true, true, false], rfl, rfl, ?_⟩, trivial⟩
              · refine XT rfl rfl rfl <| rw_aw <| ?_
                refine aw_step [6, 8] (by kernel_rfl) rfl ⟨⟨_, [true, true, true, true, true, true, true, true, false], rfl, rfl, ?_⟩, ⟨_, [true, true, true, true, true, true, false, true, true], rfl, rfl, ?_⟩, trivial⟩
                · refine XT rfl rfl rfl <| rw_aw <| ?_
                  refine aw_step [8] (by kernel_rfl) rfl ⟨⟨_, [true, true, true, true, true, true, true, true, true], rfl, rfl, ?_⟩, trivial⟩
                  refine ST (i := 0) [_, _, _, _] [_, _, _, _] tyS_impl_Allow.sz rfl rfl rfl rfl rfl rfl rfl rfl <| rw_aw <| aw_done (by kernel_rfl) <| IB <| IB <| RG <| MV rfl rfl <| rw_sub rfl rfl rfl <| AS rfl rfl <| ND <| ?_
                  refine gw_sub (Sub.consE (i := 5) rfl (int_pred hp4 (by omega)) (Sub.cons (i := 0) rfl (Sub.cons (i := 2) rfl (Sub.cons (i := 3) rfl (Sub.nil _))))) (ih3 (n - 1, _, i8, k8) ?_ ?_)
                  · exact ⟨by omega, hi8⟩
                  · show n - 1 < n; omega
                · refine ST (i := 0) [_, _, _, _] [_, _, _, _] tyS_impl_Allow.sz rfl rfl rfl rfl rfl rfl rfl rfl <| rw_aw <| ?_
                  refine aw_step [6] (by kernel_rfl) rfl ⟨⟨_, [true, true, true, true, true, true, true, true, true], rfl, rfl, ?_⟩, trivial⟩
                  refine XT rfl rfl rfl <| rw_aw <| aw_done (by kernel_rfl) <| IB <| IB <| RG <| MV rfl rfl <| rw_sub rfl rfl rfl <| AS rfl rfl <| ND <| ?_
                  refine gw_sub (Sub.consE (i := 5) rfl (int_pred hp4 (by omega)) (Sub.cons (i := 0) rfl (Sub.cons (i := 2) rfl (Sub.cons (i := 3) rfl (Sub.nil _))))) (ih3 (n - 1, _, i8, k8) ?_ ?_)
                  · exact ⟨by omega, hi8⟩
                  · show n - 1 < n; omega
              · refine XT rfl rfl rfl <| rw_aw <| ?_
                refine aw_step [5] (by kernel_rfl) rfl ⟨⟨_, [true, true, true, true, true, true, true, true, false], rfl, rfl, ?_⟩, trivial⟩
                refine XT rfl rfl rfl <| rw_aw <| ?_
                refine aw_step [8] (by kernel_rfl) rfl ⟨⟨_, [true, true, true, true, true, true, true, true, true], rfl, rfl, ?_⟩, trivial⟩
                refine ST (i := 0) [_, _, _, _] [_, _, _, _] tyS_impl_Allow.sz rfl rfl rfl rfl rfl rfl rfl rfl <| rw_aw <| aw_done (by kernel_rfl) <| IB <| IB <| RG <| MV rfl rfl <| rw_sub rfl rfl rfl <| AS rfl rfl <| ND <| ?_
                refine gw_sub (Sub.consE (i := 5) rfl (int_pred hp4 (by omega)) (Sub.cons (i := 0) rfl (Sub.cons (i := 2) rfl (Sub.cons (i := 3) rfl (Sub.nil _))))) (ih3 (n - 1, _, i8, k8) ?_ ?_)
                · exact ⟨by omega, hi8⟩
                · show n - 1 < n; omega
      · refine SQ <| RG <| EQ1 rfl rfl rfl <| AS rfl rfl <| ND <| ?_
        refine gw_cond rfl (fun h3 => ?_) (fun h3 => ?_)
        · refine RG <| LS (i := 0) [_, _, _, _] rfl tyS_impl_Allow rfl rfl rfl rfl <| CV1 rfl fun_spec_CloseOne rfl (fun w hs => spec_CloseOne _ w) <| MV rfl rfl <| XT rfl rfl rfl <| XT rfl rfl rfl <| ST (i := 0) [_, _, _, _] [_, _, _, _] tyS_impl_Allow.sz rfl rfl rfl rfl rfl rfl rfl rfl <| ND <| IB <| IB <| RG <| MV rfl rfl <| rw_sub rfl rfl rfl <| AS rfl rfl <| ND <| ?_
          refine gw_sub (Sub.consE (i := 5) rfl (int_pred hp4 (by omega)) (Sub.cons (i := 0) rfl (Sub.cons (i := 2) rfl (Sub.cons (i := 3) rfl (Sub.nil _))))) (ih3 (n - 1, _, i5, k5) ?_ ?_)
          · exact ⟨by omega, hi5⟩
          · show n - 1 < n; omega
        · refine SQ <| RG <| EQ1 rfl rfl rfl <| AS rfl rfl <| ND <| ?_
          refine gw_cond rfl (fun h4 => ?_) (fun h4 => ?_)
          · refine RG <| LS (i := 0) [_, _, _, _] rfl tyS_impl_Allow rfl rfl rfl rfl <| CV1 rfl fun_spec_RaiseAllow rfl (fun w hs => spec_RaiseAllow _ w) <| MV rfl rfl <| XT rfl rfl rfl <| XT rfl rfl rfl <| ST (i := 0) [_, _, _, _] [_, _, _, _] tyS_impl_Allow.sz rfl rfl rfl rfl rfl rfl rfl rfl <| ND <| IB <| IB <| RG <| MV rfl rfl <| rw_sub rfl rfl rfl <| AS rfl rfl <| ND <| ?_
            refine gw_sub (Sub.consE (i := 5) rfl (int_pred hp4 (by omega)) (Sub.cons (i := 0) rfl (Sub.cons (i := 2) rfl (Sub.cons (i := 3) rfl (Sub.nil _))))) (ih3 (n - 1, _, i5, k5) ?_ ?_)
            · exact ⟨by omega, hi5⟩
            · show n - 1 < n; omega
          · refine SK <| IB <| IB <| RG <| MV rfl rfl <| rw_sub rfl rfl rfl <| AS rfl rfl <| ND <| ?_
            refine gw_sub (Sub.consE (i := 5) rfl (int_pred hp4 (by omega)) (Sub.cons (i := 0) rfl (Sub.cons (i := 2) rfl (Sub.cons (i := 3) rfl (Sub.nil _))))) (ih3 (n - 1, _, i5, k5) ?_ ?_)
            · exact ⟨by omega, hi5⟩
            · show n - 1 < n; omega
    · have hz9 := zero_of h1
      refine EX rfl <| SQ <| SQ <| RG <| MV rfl rfl <| rw_ch (G := [cur b A l.length cp i_ k]) (R := []) rfl fun_spec_l1Below rfl (((List.Perm.refl _).trans ((List.Perm.refl _).append_left _))) (fun w hs hin hnd => spec_l1Below (hr.sat hs) hi_ (n := 12) (by decide) (by decide) hin hnd) <| fun v10 ch10 how10 => ?_
      obtain ⟨x10, i10, k10, rfl, hx10, hi10, rfl⟩ := how10
      refine ND <| BK <| SQ <| RG <| EQ1 rfl rfl rfl <| AS rfl rfl <| ND <| ?_
      refine gw_cond rfl (fun h5 => ?_) (fun h5 => ?_)
      · refine RG <| MV rfl rfl <| rw_sliceO (f := intC) ([-1, 0, 1001] : List Int) [_, _, _] rfl tyM_S_int rfl rfl rfl rfl rfl rfl rfl <| fun v11 ch11 how11 => rw_ch (G := [cur b A l.length cp i10 k10]) (R := ch11 ++ ([])) rfl fun_spec_l1PickInt rfl ((((((List.Perm.refl _)).append_left _).trans (pullc _ _ _)).trans ((List.Perm.refl _).append_left _))) (fun w hs hin hnd => spec_l1PickInt (hr.sat hs) hi10 (lit_rdb (c := cur b A l.length cp i10 k10) eInt how11 (by decide) hs (((((List.Perm.refl _)).append_left _).trans (pullc _ _ _)).trans (((List.Perm.refl _).trans ((List.Perm.refl _).append_left _)).append_left _))) (by decide) (by decide) hin hnd) <| fun v12 ch12 how12 => ?_
        obtain ⟨x12, i12, k12, rfl, hx12, hi12, rfl⟩ := how12
        refine FA rfl tyF_impl_Allow_0 rfl <| ST (i := 0) [_] [_, _, _, _] tyP_int.sz rfl rfl rfl rfl rfl rfl rfl rfl <| ND <| IB <| SQ <| RG <| LS (i := 0) [_, _, _, _] rfl tyS_impl_Allow rfl rfl rfl rfl <| ST (i := 1) [_, _, _, _] [_, _, _, _] tyS_impl_Allow.sz rfl rfl rfl rfl rfl rfl rfl rfl <| ND <| ?_
        refine ret_ch [cur b A l.length cp i12 k12] Try.func60 (res1 Try.func60 rfl (rv_s (i := 1) [_, _, _, _] tyS_impl_Allow rfl rfl rfl rfl)) ?_ ?_
        · exact ⟨⟨_, _, _, _⟩, _, _, allow_val _ _ _ _, trivial, hi12, rfl⟩
        · exact List.singleton_sublist.2 (by simp)
      · refine SQ <| RG <| EQ1 rfl rfl rfl <| AS rfl rfl <| ND <| ?_
        refine gw_cond rfl (fun h6 => ?_) (fun h6 => ?_)
        · refine RG <| MV rfl rfl <| rw_sliceO (f := intC) ([-1, 9] : List Int) [_, _] rfl tyM_S_int rfl rfl rfl rfl rfl rfl rfl <| fun v13 ch13 how13 => rw_ch (G := [cur b A l.length cp i10 k10]) (R := ch13 ++ ([])) rfl fun_spec_l1PickInt rfl ((((((List.Perm.refl _)).append_left _).trans (pullc _ _ _)).trans ((List.Perm.refl _).append_left _))) (fun w hs hin hnd => spec_l1PickInt (hr.sat hs) hi10 (lit_rdb (c := cur b A l.length cp i10 k10) eInt how13 (by decide) hs (((((List.Perm.refl _)).append_left _).trans (pullc _ _ _)).trans (((List.Perm.refl _).trans ((List.Perm.refl _).append_left _)).append_left _))) (by decide) (by decide) hin hnd) <| fun v14 ch14 how14 => ?_
          obtain ⟨x14, i14, k14, rfl, hx14, hi14, rfl⟩ := how14
          refine FA rfl tyF_impl_Allow_3 rfl <| ST (i := 0) [_] [_, _, _, _] tyP_int.sz rfl rfl rfl rfl rfl rfl rfl rfl <| ND <| IB <| SQ <| RG <| LS (i := 0) [_, _, _, _] rfl tyS_impl_Allow rfl rfl rfl rfl <| ST (i := 1) [_, _, _, _] [_, _, _, _] tyS_impl_Allow.sz rfl rfl rfl rfl rfl rfl rfl rfl <| ND <| ?_
          refine ret_ch [cur b A l.length cp i14 k14] Try.func60 (res1 Try.func60 rfl (rv_s (i := 1) [_, _, _, _] tyS_impl_Allow rfl rfl rfl rfl)) ?_ ?_
          · exact ⟨⟨_, _, _, _⟩, _, _, allow_val _ _ _ _, trivial, hi14, rfl⟩
          · exact List.singleton_sublist.2 (by simp)
        · refine SK <| IB <| SQ <| RG <| LS (i := 0) [_, _, _, _] rfl tyS_impl_Allow rfl rfl rfl rfl <| ST (i := 1) [_, _, _, _] [_, _, _, _] tyS_impl_Allow.sz rfl rfl rfl rfl rfl rfl rfl rfl <| ND <| ?_
          refine ret_ch [cur b A l.length cp i10 k10] Try.func60 (res1 Try.func60 rfl (rv_s (i := 1) [_, _, _, _] tyS_impl_Allow rfl rfl rfl rfl)) ?_ ?_
          · exact ⟨⟨_, _, _, _⟩, _, _, allow_val _ _ _ _, trivial, hi10, rfl⟩
          · exact List.singleton_sublist.2 (by simp)

theorem spec_DrawSeeIndex {w : World} {v : Value} {l : List UInt8} (hv : RdS w 1 (Pl byC) v l) (hl : l.length ≤ 1048576) : CN Try.prog 29 [v] w (fun v ch => (∃ (p : Allow) (n : Int), v = .tuple #[.agg p.cells.toArray, .int .i64 n]) ∧ ch = []) := by
  obtain ⟨A, cp, rfl, hA⟩ := hv
  refine cn_of Try.func29 rfl rfl rfl <| SQ <| RG <| AL rfl tyZ_impl_Allow <| fun b1 => AS rfl rfl <| ND <| SQ <| RG <| MV rfl rfl <| CN1 rfl fun_spec_l1New rfl (fun w hs => spec_l1New (cp := cp) (hA.sat Pl.keeps hs) (by omega)) <| fun v1 ch1 how1 => ?_
  obtain ⟨b1_, k1, rfl, rfl⟩ := how1
  refine AS rfl rfl <| ND <| SQ <| RG <| MV rfl rfl <| rw_ch (G := [cur b1_ A l.length cp 0 k1]) (R := []) rfl fun_spec_l12Allow rfl (((List.Perm.refl _).trans ((List.Perm.refl _).append_left _))) (fun w hs hin hnd => spec_l12Allow (Rdb.own (c := cur b1_ A l.length cp 0 k1) hA (by omega) hs (List.mem_append_right _ (List.mem_append_left _ List.mem_cons_self))) (Nat.zero_le _) hin hnd) <| fun v2 ch2 how2 => ?_
  obtain ⟨x2, i2, k2, rfl, hx2, hi2, rfl⟩ := how2
  refine AL rfl tyZ_impl_Allow <| fun b2 => ST (i := 0) [_, _, _, _] [_, _, _, _] tyS_impl_Allow.sz rfl rfl rfl rfl rfl rfl rfl rfl <| ND <| SQ <| gw_tree mixed 6 [false, false, false, false, false, false] rfl rfl <| ?_
  refine aw_step [0, 1] (by kernel_rfl) rfl ⟨⟨_, [true, false, false, false, false, false], rfl, rfl, ?_⟩, ⟨_, [false, true, false, false, false, false], rfl, rfl, ?_⟩, trivial⟩
  · refine LS (i := 0) [_, _, _, _] rfl tyS_impl_Allow rfl rfl rfl rfl <| rw_aw <| ?_
    refine aw_step [1] (by kernel_rfl) rfl ⟨⟨_, [true, true, false, false, false, false], rfl, rfl, ?_⟩, trivial⟩
    refine MV rfl rfl <| rw_aw <| ?_
    refine aw_step [2] (by kernel_rfl) rfl ⟨⟨_, [true, true, true, false, false, false], rfl, rfl, ?_⟩, trivial⟩
    refine rw_ch (G := [cur b1_ A l.length cp i2 k2]) (R := []) rfl fun_spec_l1Below rfl (((List.Perm.refl _).trans ((List.Perm.refl _).append_left _))) (fun w hs hin hnd => spec_l1Below (Rdb.own (c := cur b1_ A l.length cp i2 k2) hA (by omega) hs (List.mem_append_right _ (List.mem_append_left _ List.mem_cons_self))) hi2 (n := 9) (by decide) (by decide) hin hnd) <| fun v3 ch3 how3 => ?_
    obtain ⟨x3, i3, k3, rfl, hx3, hi3, rfl⟩ := how3
    refine rw_aw <| ?_
    refine aw_step [3, 4] (by kernel_rfl) rfl ⟨⟨_, [true, true, true, true, false, false], rfl, rfl, ?_⟩, ⟨_, [true, true, true, false, true, false], rfl, rfl, ?_⟩, trivial⟩
    · refine rw_sub rfl rfl rfl <| rw_aw <| ?_
      refine aw_step [4] (by kernel_rfl) rfl ⟨⟨_, [true, true, true, true, true, false], rfl, rfl, ?_⟩, trivial⟩
      refine ST (i := 1) [_, _, _, _] [_, _, _, _] tyS_impl_Allow.sz rfl rfl rfl rfl rfl rfl rfl rfl <| rw_aw <| ?_
      refine aw_step [5] (by kernel_rfl) rfl ⟨⟨_, [true, true, true, true, true, true], rfl, rfl, ?_⟩, trivial⟩
      refine AS rfl rfl <| rw_aw <| aw_done (by kernel_rfl) <| ?_
      refine ret_cn [] Try.func29 (res2 Try.func29 rfl (rv_s (i := 1) [_, _, _, _] tyS_impl_Allow rfl rfl rfl rfl) (rv_tmp rfl)) ?_ ?_
      · exact ⟨⟨⟨_, _, _, _⟩, _, rfl⟩, rfl⟩
      · simp
    · refine ST (i := 1) [_, _, _, _] [_, _, _, _] tyS_impl_Allow.sz rfl rfl rfl rfl rfl rfl rfl rfl <| rw_aw <| ?_
      refine aw_step [3] (by kernel_rfl) rfl ⟨⟨_, [true, true, true, true, true, false], rfl, rfl, ?_⟩, trivial⟩
      refine rw_sub rfl rfl rfl <| rw_aw <| ?_
      refine aw_step [5] (by kernel_rfl) rfl ⟨⟨_, [true, true, true, true, true, true], rfl, rfl, ?_⟩, trivial⟩
      refine AS rfl rfl <| rw_aw <| aw_done (by kernel_rfl) <| ?_
      refine ret_cn [] Try.func29 (res2 Try.func29 rfl (rv_s (i := 1) [_, _, _, _] tyS_impl_Allow rfl rfl rfl rfl) (rv_tmp rfl)) ?_ ?_
      · exact ⟨⟨⟨_, _, _, _⟩, _, rfl⟩, rfl⟩
      · simp
  · refine MV rfl rfl <| rw_aw <| ?_
    refine aw_step [0, 2] (by kernel_rfl) rfl ⟨⟨_, [true, true, false, false, false, false], rfl, rfl, ?_⟩, ⟨_, [false, true, true, false, false, false], rfl, rfl, ?_⟩, trivial⟩
    · refine LS (i := 0) [_, _, _, _] rfl tyS_impl_Allow rfl rfl rfl rfl <| rw_aw <| ?_
      refine aw_step [2] (by kernel_rfl) rfl ⟨⟨_, [true, true, true, false, false, false], rfl, rfl, ?_⟩, trivial⟩
      refine rw_ch (G := [cur b1_ A l.length cp i2 k2]) (R := []) rfl fun_spec_l1Below rfl (((List.Perm.refl _).trans ((List.Perm.refl _).append_left _))) (fun w hs hin hnd => spec_l1Below (Rdb.own (c := cur b1_ A l.length cp i2 k2) hA (by omega) hs (List.mem_append_right _ (List.mem_append_left _ List.mem_cons_self))) hi2 (n := 9) (by decide) (by decide) hin hnd) <| fun v4 ch4 how4 => ?_
      obtain ⟨x4, i4, k4, rfl, hx4, hi4, rfl⟩ := how4
      refine rw_aw <| ?_
      refine aw_step [3, 4] (by kernel_rfl) rfl ⟨⟨_, [true, true, true, true, false, false], rfl, rfl, ?_⟩, ⟨_, [true, true, true, false, true, false], rfl, rfl, ?_⟩, trivial⟩
      · refine rw_sub rfl rfl rfl <| rw_aw <| ?_
        refine aw_step [4] (by kernel_rfl) rfl ⟨⟨_, [true, true, true, true, true, false], rfl, rfl, ?_⟩, trivial⟩
        refine ST (i := 1) [_, _, _, _] [_, _, _, _] tyS_impl_Allow.sz rfl rfl rfl rfl rfl rfl rfl rfl <| rw_aw <| ?_
        refine aw_step [5] (by kernel_rfl) rfl ⟨⟨_, [true, true, true, true, true, true], rfl, rfl, ?_⟩, trivial⟩
        refine AS rfl rfl <| rw_aw <| aw_done (by kernel_rfl) <| ?_
        refine ret_cn [] Try.func29 (res2 Try.func29 rfl (rv_s (i := 1) [_, _, _, _] tyS_impl_Allow rfl rfl rfl rfl) (rv_tmp rfl)) ?_ ?_
        · exact ⟨⟨⟨_, _, _, _⟩, _, rfl⟩, rfl⟩
        · simp
      · refine ST (i := 1) [_, _, _, _] [_, _, _, _] tyS_impl_Allow.sz rfl rfl rfl rfl rfl rfl rfl rfl <| rw_aw <| ?_
        refine aw_step [3] (by kernel_rfl) rfl ⟨⟨_, [true, true, true, true, true, false], rfl, rfl, ?_⟩, trivial⟩
        refine rw_sub rfl rfl rfl <| rw_aw <| ?_
        refine aw_step [5] (by kernel_rfl) rfl ⟨⟨_, [true, true, true, true, true, true], rfl, rfl, ?_⟩, trivial⟩
        refine AS rfl rfl <| rw_aw <| aw_done (by kernel_rfl) <| ?_
        refine ret_cn [] Try.func29 (res2 Try.func29 rfl (rv_s (i := 1) [_, _, _, _] tyS_impl_Allow rfl rfl rfl rfl) (rv_tmp rfl)) ?_ ?_
        · exact ⟨⟨⟨_, _, _, _⟩, _, rfl⟩, rfl⟩
        · simp
    · refine rw_ch (G := [cur b1_ A l.length cp i2 k2]) (R := []) rfl fun_spec_l1Below rfl (((List.Perm.refl _).trans ((List.Perm.refl _).append_left _))) (fun w hs hin hnd => spec_l1Below (Rdb.own (c := cur b1_ A l.length cp i2 k2) hA (by omega) hs (List.mem_append_right _ (List.mem_append_left _ List.mem_cons_self))) hi2 (n := 9) (by decide) (by decide) hin hnd) <| fun v5 ch5 how5 => ?_
      obtain ⟨x5, i5, k5, rfl, hx5, hi5, rfl⟩ := how5
      refine rw_aw <| ?_
      refine aw_step [0, 3] (by kernel_rfl) rfl ⟨⟨_, [true, true, true, false, false, false], rfl, rfl, ?_⟩, ⟨_, [false, true, true, true, false, false], rfl, rfl, ?_⟩, trivial⟩
      · refine LS (i := 0) [_, _, _, _] rfl tyS_impl_Allow rfl rfl rfl rfl <| rw_aw <| ?_
        refine aw_step [3, 4] (by kernel_rfl) rfl ⟨⟨_, [true, true, true, true, false, false], rfl, rfl, ?_⟩, ⟨_, [true, true, true, false, true, false], rfl, rfl, ?_⟩, trivial⟩
        · refine rw_sub rfl rfl rfl <| rw_aw <| ?_
          refine aw_step [4] (by kernel_rfl) rfl ⟨⟨_, [true, true, true, true, true, false], rfl, rfl, ?_⟩, trivial⟩
          refine ST (i := 1) [_, _, _, _] [_, _, _, _] tyS_impl_Allow.sz rfl rfl rfl rfl rfl rfl rfl rfl <| rw_aw <| ?_
          refine aw_step [5] (by kernel_rfl) rfl ⟨⟨_, [true, true, true, true, true, true], rfl, rfl, ?_⟩, trivial⟩
          refine AS rfl rfl <| rw_aw <| aw_done (by kernel_rfl) <| ?_
          refine ret_cn [] Try.func29 (res2 Try.func29 rfl (rv_s (i := 1) [_, _, _, _] tyS_impl_Allow rfl rfl rfl rfl) (rv_tmp rfl)) ?_ ?_
          · exact ⟨⟨⟨_, _, _, _⟩, _, rfl⟩, rfl⟩
          · simp
        · refine ST (i := 1) [_, _, _, _] [_, _, _, _] tyS_impl_Allow.sz rfl rfl rfl rfl rfl rfl rfl rfl <| rw_aw <| ?_
          refine aw_step [3] (by kernel_rfl) rfl ⟨⟨_, [true, true, true, true, true, false], rfl, rfl, ?_⟩, trivial⟩
          refine rw_sub rfl rfl rfl <| rw_aw <| ?_
          refine aw_step [5] (by kernel_rfl) rfl ⟨⟨_, [true, true, true, true, true, true], rfl, rfl, ?_⟩, trivial⟩
          refine AS rfl rfl <| rw_aw <| aw_done (by kernel_rfl) <| ?_
          refine ret_cn [] Try.func29 (res2 Try.func29 rfl (rv_s (i := 1) [_, _, _, _] tyS_impl_Allow rfl rfl rfl rfl) (rv_tmp rfl)) ?_ ?_
          · exact ⟨⟨⟨_, _, _, _⟩, _, rfl⟩, rfl⟩
          · simp
      · refine rw_sub rfl rfl rfl <| rw_aw <| ?_
        refine aw_step [0] (by kernel_rfl) rfl ⟨⟨_, [true, true, true, true, false, false], rfl, rfl, ?_⟩, trivial⟩
        refine LS (i := 0) [_, _, _, _] rfl tyS_impl_Allow rfl rfl rfl rfl <| rw_aw <| ?_
        refine aw_step [4] (by kernel_rfl) rfl ⟨⟨_, [true, true, true, true, true, false], rfl, rfl, ?_⟩, trivial⟩
        refine ST (i := 1) [_, _, _, _] [_, _, _, _] tyS_impl_Allow.sz rfl rfl rfl rfl rfl rfl rfl rfl <| rw_aw <| ?_
        refine aw_step [5] (by kernel_rfl) rfl ⟨⟨_, [true, true, true, true, true, true], rfl, rfl, ?_⟩, trivial⟩
        refine AS rfl rfl <| rw_aw <| aw_done (by kernel_rfl) <| ?_
        refine ret_cn [] Try.func29 (res2 Try.func29 rfl (rv_s (i := 1) [_, _, _, _] tyS_impl_Allow rfl rfl rfl rfl) (rv_tmp rfl)) ?_ ?_
        · exact ⟨⟨⟨_, _, _, _⟩, _, rfl⟩, rfl⟩
        · simp

theorem spec_DrawCloseOne {w : World} {v : Value} {l : List UInt8} (hv : RdS w 1 (Pl byC) v l) (hl : l.length ≤ 1048576) : CN Try.prog 34 [v] w (fun v ch => (∃ p : Allow, v = .agg p.cells.toArray) ∧ ch = []) := by
  obtain ⟨A, cp, rfl, hA⟩ := hv
  refine cn_of Try.func34 rfl rfl rfl <| SQ <| RG <| AL rfl tyZ_impl_Allow <| fun b1 => ND <| SQ <| RG <| MV rfl rfl <| CN1 rfl fun_spec_l1New rfl (fun w hs => spec_l1New (cp := cp) (hA.sat Pl.keeps hs) (by omega)) <| fun v1 ch1 how1 => ?_
  obtain ⟨b1_, k1, rfl, rfl⟩ := how1
  refine rw_ch (G := [cur b1_ A l.length cp 0 k1]) (R := []) rfl fun_spec_l12Allow rfl (((List.Perm.refl _).trans ((List.Perm.refl _).append_left _))) (fun w hs hin hnd => spec_l12Allow (Rdb.own (c := cur b1_ A l.length cp 0 k1) hA (by omega) hs (List.mem_append_right _ (List.mem_append_left _ List.mem_cons_self))) (Nat.zero_le _) hin hnd) <| fun v2 ch2 how2 => ?_
  obtain ⟨x2, i2, k2, rfl, hx2, hi2, rfl⟩ := how2
  refine ST (i := 0) [_, _, _, _] [_, _, _, _] tyS_impl_Allow.sz rfl rfl rfl rfl rfl rfl rfl rfl <| ND <| ?_
  refine ret_cn [] Try.func34 (res1 Try.func34 rfl (rv_s (i := 0) [_, _, _, _] tyS_impl_Allow rfl rfl rfl rfl)) ?_ ?_
  · exact ⟨⟨⟨_, _, _, _⟩, rfl⟩, rfl⟩
  · simp

theorem spec_DrawRaiseAllow {w : World} {v : Value} {l : List UInt8} (hv : RdS w 1 (Pl byC) v l) (hl : l.length ≤ 1048576) : CN Try.prog 37 [v] w (fun v ch => (∃ p : Allow, v = .agg p.cells.toArray) ∧ ch = []) := by
  obtain ⟨A, cp, rfl, hA⟩ := hv
  refine cn_of Try.func37 rfl rfl rfl <| SQ <| RG <| AL rfl tyZ_impl_Allow <| fun b1 => ND <| SQ <| RG <| MV rfl rfl <| CN1 rfl fun_spec_l1New rfl (fun w hs => spec_l1New (cp := cp) (hA.sat Pl.keeps hs) (by omega)) <| fun v1 ch1 how1 => ?_
  obtain ⟨b1_, k1, rfl, rfl⟩ := how1
  refine rw_ch (G := [cur b1_ A l.length cp 0 k1]) (R := []) rfl fun_spec_l12Allow rfl (((List.Perm.refl _).trans ((List.Perm.refl _).append_left _))) (fun w hs hin hnd => spec_l12Allow (Rdb.own (c := cur b1_ A l.length cp 0 k1) hA (by omega) hs (List.mem_append_right _ (List.mem_append_left _ List.mem_cons_self))) (Nat.zero_le _) hin hnd) <| fun v2 ch2 how2 => ?_
  obtain ⟨x2, i2, k2, rfl, hx2, hi2, rfl⟩ := how2
  refine ST (i := 0) [_, _, _, _] [_, _, _, _] tyS_impl_Allow.sz rfl rfl rfl rfl rfl rfl rfl rfl <| ND <| ?_
  refine ret_cn [] Try.func37 (res1 Try.func37 rfl (rv_s (i := 0) [_, _, _, _] tyS_impl_Allow rfl rfl rfl rfl)) ?_ ?_
  · exact ⟨⟨⟨_, _, _, _⟩, rfl⟩, rfl⟩
  · simp

theorem spec_DrawNewCount {w : World} {v : Value} {l : List UInt8} (hv : RdS w 1 (Pl byC) v l) (hl : l.length ≤ 1048576) : CN Try.prog 40 [v] w (fun v ch => (∃ n : Int, v = .int .i64 n) ∧ ch = []) := by
  obtain ⟨A, cp, rfl, hA⟩ := hv
  refine cn_of Try.func40 rfl rfl rfl <| SQ <| RG <| AS rfl rfl <| ND <| SQ <| RG <| MV rfl rfl <| CN1 rfl fun_spec_l1New rfl (fun w hs => spec_l1New (cp := cp) (hA.sat Pl.keeps hs) (by omega)) <| fun v1 ch1 how1 => ?_
  obtain ⟨b1_, k1, rfl, rfl⟩ := how1
  refine rw_sliceO (f := intC) ([-1, 0, 3, 1152921504606846976, 1152921504606846977] : List Int) [_, _, _, _, _] rfl tyM_S_int rfl rfl rfl rfl rfl rfl rfl <| fun v2 ch2 how2 => rw_ch (G := [cur b1_ A l.length cp 0 k1]) (R := ch2 ++ ([])) rfl fun_spec_l1PickInt rfl ((((((List.Perm.refl _)).append_left _).trans (pullc _ _ _)).trans ((List.Perm.refl _).append_left _))) (fun w hs hin hnd => spec_l1PickInt (Rdb.own (c := cur b1_ A l.length cp 0 k1) hA (by omega) hs (List.mem_append_right _ (List.mem_append_right _ (List.mem_append_left _ List.mem_cons_self)))) (Nat.zero_le _) (lit_rdb (c := cur b1_ A l.length cp 0 k1) eInt how2 (by decide) hs (((((List.Perm.refl _)).append_left _).trans (pullc _ _ _)).trans (((List.Perm.refl _).trans ((List.Perm.refl _).append_left _)).append_left _))) (by decide) (by decide) hin hnd) <| fun v3 ch3 how3 => ?_
  obtain ⟨x3, i3, k3, rfl, hx3, hi3, rfl⟩ := how3
  refine AS rfl rfl <| ND <| ?_
  refine ret_cn [] Try.func40 (res1 Try.func40 rfl (rv_tmp rfl)) ?_ ?_
  · exact ⟨⟨_, rfl⟩, rfl⟩
  · simp

theorem spec_DrawNewAllow {w : World} {v : Value} {l : List UInt8} (hv : RdS w 1 (Pl byC) v l) (hl : l.length ≤ 1048576) : CN Try.prog 43 [v] w (fun v ch => (∃ n : Int, v = .int .i64 n) ∧ ch = []) := by
  obtain ⟨A, cp, rfl, hA⟩ := hv
  refine cn_of Try.func43 rfl rfl rfl <| SQ <| RG <| AS rfl rfl <| ND <| SQ <| RG <| MV rfl rfl <| CN1 rfl fun_spec_l1New rfl (fun w hs => spec_l1New (cp := cp) (hA.sat Pl.keeps hs) (by omega)) <| fun v1 ch1 how1 => ?_
  obtain ⟨b1_, k1, rfl, rfl⟩ := how1
  refine rw_sliceO (f := intC) ([-1, 0, 3, 1000, 1001] : List Int) [_, _, _, _, _] rfl tyM_S_int rfl rfl rfl rfl rfl rfl rfl <| fun v2 ch2 how2 => rw_ch (G := [cur b1_ A l.length cp 0 k1]) (R := ch2 ++ ([])) rfl fun_spec_l1PickInt rfl ((((((List.Perm.refl _)).append_left _).trans (pullc _ _ _)).trans ((List.Perm.refl _).append_left _))) (fun w hs hin hnd => spec_l1PickInt (Rdb.own (c := cur b1_ A l.length cp 0 k1) hA (by omega) hs (List.mem_append_right _ (List.mem_append_right _ (List.mem_append_left _ List.mem_cons_self)))) (Nat.zero_le _) (lit_rdb (c := cur b1_ A l.length cp 0 k1) eInt how2 (by decide) hs (((((List.Perm.refl _)).append_left _).trans (pullc _ _ _)).trans (((List.Perm.refl _).trans ((List.Perm.refl _).append_left _)).append_left _))) (by decide) (by decide) hin hnd) <| fun v3 ch3 how3 => ?_
  obtain ⟨x3, i3, k3, rfl, hx3, hi3, rfl⟩ := how3
  refine AS rfl rfl <| ND <| ?_
  refine ret_cn [] Try.func43 (res1 Try.func43 rfl (rv_tmp rfl)) ?_ ?_
  · exact ⟨⟨_, rfl⟩, rfl⟩
  · simp
end Go.Proofs.Ytajcfmibcnibpaa
