/- Walks: priorities drawn, written, read back. -/
import Derived.Test.YtcobcopmkafcoaaDoorFactsO
import Derived.Test.YtcobcopmkafcoaaDoorLibO
import Derived.Test.YtcobcopmkafcoaaDoorPri
import Derived.Test.YtcobcopmkafcoaaDoorCur
namespace Go.Proofs.YtcobcopmkafcoaaDoor
open SL Go.RowKit
theorem eqC_cells {p q : Priority} (h : p = q) : eqC p.cells q.cells = true := by
  subst h; simp [eqC, Priority.cells, veq]
theorem laws_big {w : World} {v : Value} {l : List UInt8} (hv : RdS w 1 (Pl byC) v l) : CV Tryd.prog 4 [v] w (.bool (decide ((1048576 : Int) < (l.length : Int)))) := by
  obtain ⟨A, cp, rfl, hA⟩ := hv
  refine cv_of Tryd.func4 rfl rfl rfl <| SQ <| RG <| AS rfl rfl <| ND <| SQ <| RG <| MV rfl rfl <| rw_len rfl tyE_S_uint8 rfl <| rw_gtr rfl rfl rfl <| AS rfl rfl <| ND <| ret_cv Tryd.func4 (res1 Tryd.func4 rfl (rv_tmp rfl)) <| ?_
  rfl

theorem spec_l1New {w : World} {cp : Nat} {A : Option Addr} {l : List UInt8} (hA : RdL w 1 (Pl byC) A l) (hb : l.length ≤ 134217728) : CN Tryd.prog 19 [.slice A l.length cp] w (fun v ch => ∃ (b : Nat) (h : Int), v = .pointer (some ⟨b, 0, none⟩) ∧ ch = [cur b A l.length cp 0 h]) := by
  refine cn_of Tryd.func19 rfl rfl rfl <| SQ <| RG <| AS rfl rfl <| ND <| SQ <| RG <| MV rfl rfl <| rw_len rfl tyE_S_uint8 rfl <| rw_add rfl rfl rfl <| AS rfl rfl <| ND <| SQ <| SQ <| RG <| AS rfl rfl <| ND <| BK <| ?_
  refine gw_loopC (α := Nat × Int) (fun z_ => z_.1 ≤ l.length) (fun z_ => l.length - z_.1) (fun e z_ => (4, .int .i64 (z_.1 : Int)) :: (3, .int .i64 z_.2) :: e) (0, _) [(0, _), (2, _)] (Sub.consE rfl rfl (Sub.consE rfl rfl (Sub.cons (i := 0) rfl (Sub.cons (i := 2) rfl (Sub.nil _))))) ?_ ?_
  · exact Nat.zero_le _
  · rintro ⟨i, h⟩ hI1 ih1
    dsimp only at hI1
    dsimp only
    have hle := hI1
    refine SQ <| SQ <| RG <| MV rfl rfl <| MV rfl rfl <| rw_len rfl tyE_S_uint8 rfl <| rw_lss rfl rfl rfl <| MV rfl rfl <| ?_
    refine rw_case (j := 12) rfl (fun h1 => ?_) (fun h1 => ?_)
    · have hi2 := lt_of_dec h1
      obtain ⟨x3, hx3⟩ := get_of_lt hi2
      have hd3 := drop_cons hx3
      refine ON rfl rfl h1 <| MV rfl rfl <| ON rfl rfl h1 <| rw_lss rfl rfl rfl <| PT rfl rfl h1 rfl <| ND <| ?_
      refine gw_cond rfl (fun h2 => ?_) (fun h2 => ?_)
      · refine SK <| SQ <| BK <| RG <| MV rfl rfl <| rw_mul rfl rfl rfl <| MV rfl rfl <| MV rfl rfl <| ?_
        have hq4 := hA.plain hx3
        refine rw_indexAddr (i) rfl tyE_S_uint8 rfl rfl rfl (hA.some hi2) hi2 <| rw_loadX _ rfl tyP_uint8 rfl (fun w hs => hq4.ld0 hs rfl) <| rw_convI rfl tyCI_uint8_int rfl <| rw_add rfl rfl rfl <| rw_add rfl rfl rfl <| rw_and rfl rfl rfl <| AS rfl rfl <| ND <| IB <| RG <| MV rfl rfl <| rw_add rfl rfl rfl <| AS rfl rfl <| ND <| ?_
        refine gw_sub (Sub.consE (i := 4) rfl (int_succ (by omega)) (Sub.consE (i := 3) rfl rfl (Sub.cons (i := 0) rfl (Sub.cons (i := 2) rfl (Sub.nil _))))) (ih1 (i + 1, _) ?_ ?_)
        · show i + 1 ≤ l.length; omega
        · show l.length - (i + 1) < l.length - i; omega
      · refine EX rfl <| SQ <| RG <| MV rfl rfl <| MV rfl rfl <| rw_build [_, _, _] rfl tyB_spec_l1Cur tyZ_spec_l1Cur rfl rfl <| BX [_, _, _] rfl rfl rfl <| fun b1 => AS rfl rfl <| ND <| ret_cnB Tryd.func19 (res1 Tryd.func19 rfl (rv_tmp rfl)) <| ?_
        exact ⟨_, _, rfl, rfl⟩
    · have hn5 := nil_of_dec h1
      refine OF rfl rfl h1 rfl <| OF rfl rfl h1 rfl <| PF rfl rfl h1 rfl <| ND <| CF rfl rfl <| EX rfl <| SQ <| RG <| MV rfl rfl <| MV rfl rfl <| rw_build [_, _, _] rfl tyB_spec_l1Cur tyZ_spec_l1Cur rfl rfl <| BX [_, _, _] rfl rfl rfl <| fun b2 => AS rfl rfl <| ND <| ret_cnB Tryd.func19 (res1 Tryd.func19 rfl (rv_tmp rfl)) <| ?_
      exact ⟨_, _, rfl, rfl⟩

theorem spec_l1Byte {w : World} {b cp i : Nat} {A : Option Addr} {l : List UInt8} {h : Int} (hr : Rdb byC w A l b) (hi : i ≤ l.length) (hin : ∀ c ∈ [cur b A l.length cp i h], c.In w) (hnd : ([cur b A l.length cp i h].map Ck.b).Nodup) : CH Tryd.prog 34 [.pointer (some ⟨b, 0, none⟩)] w [cur b A l.length cp i h] (Drew natV (· ≤ 255) b A l.length cp []) := by
  refine ch_ofB hin hnd Tryd.func34 rfl rfl rfl <| SQ <| RG <| AS rfl rfl <| ND <| SQ <| RG <| MV rfl rfl <| MV rfl rfl <| rw_nilCheck rfl rfl <| FA rfl tyF_spec_l1Cur_2 rfl <| LD (i := 0) rfl tyP_int rfl rfl rfl <| rw_mul rfl rfl rfl <| rw_add rfl rfl rfl <| rw_nilCheck rfl rfl <| FA rfl tyF_spec_l1Cur_2 rfl <| ST (i := 0) [_] [_, _, _] tyP_int.sz rfl rfl rfl rfl rfl rfl rfl rfl <| ND <| SQ <| gw_draw' [(0, .det), (1, .det), (2, .det), (3, .det), (4, .det), (5, .det), (6, .det), (7, .det), (8, .det), (9, .det)] [10, 11, 12] mixed rfl (free_det (free_det (free_det (free_det (free_det (free_det (free_det (free_det (free_det (free_det free_nil)))))))))) (ts := [_, _, _]) rfl <| ?_
  refine DT rfl rfl (fun K hk => MV rfl rfl hk) <| DT rfl rfl (fun K hk => rw_nilCheck rfl rfl hk) <| DT rfl rfl (fun K hk => FA rfl tyF_spec_l1Cur_2 rfl hk) <| DT rfl rfl (fun K hk => LD (i := 0) rfl tyP_int rfl rfl rfl hk) <| DT rfl rfl (fun K hk => rw_shr rfl rfl rfl (by decide) (by decide) hk) <| DT rfl rfl (fun K hk => MV rfl rfl hk) <| DT rfl rfl (fun K hk => rw_nilCheck rfl rfl hk) <| DT rfl rfl (fun K hk => FA rfl tyF_spec_l1Cur_2 rfl hk) <| DT rfl rfl (fun K hk => LD (i := 0) rfl tyP_int rfl rfl rfl hk) <| ?_
  refine DT rfl rfl (fun K hk => rw_shr rfl rfl rfl (by decide) (by decide) hk) <| dw_nil <| rw_xor rfl rfl rfl <| rw_and rfl rfl rfl <| AS rfl rfl <| ND <| SQ <| SQ <| gw_draw' [(0, .det), (1, .det), (2, .det), (3, .det), (4, .det), (5, .det), (6, .det), (7, .det), (8, .det)] [9] mixed rfl (free_det (free_det (free_det (free_det (free_det (free_det (free_det (free_det (free_det free_nil))))))))) (ts := [_]) rfl <| DT rfl rfl (fun K hk => MV rfl rfl hk) <| DT rfl rfl (fun K hk => rw_nilCheck rfl rfl hk) <| DT rfl rfl (fun K hk => FA rfl tyF_spec_l1Cur_1 rfl hk) <| ?_
  refine DT rfl rfl (fun K hk => LD (i := 0) rfl tyP_int rfl rfl rfl hk) <| DT rfl rfl (fun K hk => MV rfl rfl hk) <| DT rfl rfl (fun K hk => rw_nilCheck rfl rfl hk) <| DT rfl rfl (fun K hk => FA rfl tyF_spec_l1Cur_0 rfl hk) <| DT rfl rfl (fun K hk => LD (i := 0) rfl tyP_S_uint8 rfl rfl rfl hk) <| DT rfl rfl (fun K hk => rw_len rfl tyE_S_uint8 rfl hk) <| dw_nil <| rw_lss rfl rfl rfl <| ND <| ?_
  refine gw_cond rfl (fun h1 => ?_) (fun h1 => ?_)
  · have hi1 := lt_of_dec h1
    obtain ⟨x2, hx2⟩ := get_of_lt hi1
    have hd2 := drop_cons hx2
    refine SQ <| gw_draw' [(0, .det), (1, .det), (2, .det), (3, .det), (4, .det), (5, .det), (6, .det), (7, .det), (8, .det), (9, .det), (10, .det), (11, .det)] [12, 13, 14] mixed rfl (free_det (free_det (free_det (free_det (free_det (free_det (free_det (free_det (free_det (free_det (free_det (free_det free_nil)))))))))))) (ts := [_, _, _]) rfl <| DT rfl rfl (fun K hk => MV rfl rfl hk) <| DT rfl rfl (fun K hk => MV rfl rfl hk) <| DT rfl rfl (fun K hk => rw_nilCheck rfl rfl hk) <| DT rfl rfl (fun K hk => FA rfl tyF_spec_l1Cur_0 rfl hk) <| DT rfl rfl (fun K hk => LD (i := 0) rfl tyP_S_uint8 rfl rfl rfl hk) <| ?_
    refine DT rfl rfl (fun K hk => MV rfl rfl hk) <| DT rfl rfl (fun K hk => rw_nilCheck rfl rfl hk) <| DT rfl rfl (fun K hk => FA rfl tyF_spec_l1Cur_1 rfl hk) <| DT rfl rfl (fun K hk => LD (i := 0) rfl tyP_int rfl rfl rfl hk) <| ?_
    have hq3 := hr.plain hx2
    refine DT rfl rfl (fun K hk => rw_indexAddr (i) rfl tyE_S_uint8 rfl rfl rfl (hr.some hi1) hi1 hk) <| DT rfl rfl (fun K hk => rw_loadX _ rfl tyP_uint8 rfl (fun w hs => hq3.ld0 hs rfl) hk) <| DT rfl rfl (fun K hk => rw_convI rfl tyCI_uint8_int rfl hk) <| dw_nil <| rw_add rfl rfl rfl <| rw_and rfl rfl rfl <| AS rfl rfl <| ND <| RG <| MV rfl rfl <| MV rfl rfl <| rw_nilCheck rfl rfl <| FA rfl tyF_spec_l1Cur_1 rfl <| LD (i := 0) rfl tyP_int rfl rfl rfl <| rw_add rfl rfl rfl <| rw_nilCheck rfl rfl <| FA rfl tyF_spec_l1Cur_1 rfl <| ?_
    refine ST (i := 0) [_] [_, _, _] tyP_int.sz rfl rfl rfl rfl rfl rfl rfl rfl <| ND <| SQ <| RG <| MV rfl rfl <| AS rfl rfl <| ND <| ret_chB Tryd.func34 (res1 Tryd.func34 rfl (rv_tmp rfl)) <| ?_
    exact drew_byte1 hi1 hr.len
  · have hn4 := nil_of_dec h1
    refine SK <| SQ <| RG <| MV rfl rfl <| AS rfl rfl <| ND <| ret_chB Tryd.func34 (res1 Tryd.func34 rfl (rv_tmp rfl)) <| ?_
    exact drew_byte hi

theorem spec_l1Below {w : World} {b cp i : Nat} {A : Option Addr} {l : List UInt8} {h : Int} (hr : Rdb byC w A l b) (hi : i ≤ l.length) {n : Nat} (h0 : 0 < n) (h256 : n ≤ 256) (hin : ∀ c ∈ [cur b A l.length cp i h], c.In w) (hnd : ([cur b A l.length cp i h].map Ck.b).Nodup) : CH Tryd.prog 24 [.pointer (some ⟨b, 0, none⟩), .int .i64 (n : Int)] w [cur b A l.length cp i h] (Drew natV (· < n) b A l.length cp []) := by
  refine ch_of hin hnd Tryd.func24 rfl rfl rfl <| SQ <| RG <| AS rfl rfl <| ND <| SQ <| SQ <| RG <| MV rfl rfl <| rw_leq rfl rfl rfl <| ND <| CF rfl (decide_eq_false (by omega)) <| SK <| SQ <| SQ <| RG <| MV rfl rfl <| rw_leq rfl rfl rfl <| ND <| CT rfl (decide_eq_true (by omega)) <| SQ <| RG <| MV rfl rfl <| rw_ch (G := [cur b A l.length cp i h]) (R := []) rfl fun_spec_l1Byte rfl (((List.Perm.refl _).trans ((List.Perm.refl _).append_left _))) (fun w hs hin hnd => spec_l1Byte (hr.sat hs) hi hin hnd) <| fun v1 ch1 how1 => ?_
  obtain ⟨x1, i1, k1, rfl, hx1, hi1, rfl⟩ := how1
  refine MV rfl rfl <| rw_rem rfl rfl rfl (by first | decide | omega) <| AS rfl rfl <| ND <| ?_
  refine ret_ch [cur b A l.length cp i1 k1] Tryd.func24 (res1 Tryd.func24 rfl (rv_tmp rfl)) ?_ ?_
  · exact drew_below h0 hi1
  · exact List.singleton_sublist.2 (by simp)

theorem spec_l1PickInt {w : World} {b cp i : Nat} {A : Option Addr} {l : List UInt8} {h : Int} (hr : Rdb byC w A l b) (hi : i ≤ l.length) {vL : Value} {L : List Int} (hE : ∃ A2 cp2, vL = .slice A2 (L).length cp2 ∧ Rdb intC w A2 L b) (hL0 : 0 < L.length) (hL1 : L.length ≤ 256) (hin : ∀ c ∈ [cur b A l.length cp i h], c.In w) (hnd : ([cur b A l.length cp i h].map Ck.b).Nodup) : CH Tryd.prog 32 [.pointer (some ⟨b, 0, none⟩), vL] w [cur b A l.length cp i h] (Drew (Value.int .i64) (fun _ => True) b A l.length cp []) := by
  obtain ⟨A2, cp2, rfl, hL⟩ := hE
  refine ch_of hin hnd Tryd.func32 rfl rfl rfl <| SQ <| RG <| AS rfl rfl <| ND <| SQ <| RG <| MV rfl rfl <| MV rfl rfl <| MV rfl rfl <| rw_len rfl tyE_S_int rfl <| rw_ch (G := [cur b A l.length cp i h]) (R := []) rfl fun_spec_l1Below rfl (((List.Perm.refl _).trans ((List.Perm.refl _).append_left _))) (fun w hs hin hnd => spec_l1Below (hr.sat hs) hi (n := L.length) hL0 hL1 hin hnd) <| fun v1 ch1 how1 => ?_
  obtain ⟨x1, i1, k1, rfl, hx1, hi1, rfl⟩ := how1
  obtain ⟨x2, hx2⟩ := get_of_lt hx1
  have hd2 := drop_cons hx2
  have hq3 := hL.plain hx2
  refine rw_indexAddr (x1) rfl tyE_S_int rfl rfl rfl (hL.some hx1) hx1 <| rw_loadX _ rfl tyP_int rfl (fun w hs => hq3.ld0 hs rfl) <| AS rfl rfl <| ND <| ?_
  refine ret_ch [cur b A l.length cp i1 k1] Tryd.func32 (res1 Tryd.func32 rfl (rv_tmp rfl)) ?_ ?_
  · exact ⟨_, _, _, rfl, trivial, hi1, rfl⟩
  · exact List.singleton_sublist.2 (by simp)

theorem spec_l1Once {w : World} {b cp i : Nat} {A : Option Addr} {l : List UInt8} {h : Int} (hr : Rdb byC w A l b) (hi : i ≤ l.length) {n : Nat} (h0 : 0 < n) (h256 : n ≤ 256) (hin : ∀ c ∈ [cur b A l.length cp i h], c.In w) (hnd : ([cur b A l.length cp i h].map Ck.b).Nodup) : CH Tryd.prog 31 [.pointer (some ⟨b, 0, none⟩), .int .i64 (n : Int)] w [cur b A l.length cp i h] (Drew Value.bool (fun _ => True) b A l.length cp []) := by
  refine ch_of hin hnd Tryd.func31 rfl rfl rfl <| SQ <| RG <| AS rfl rfl <| ND <| SQ <| RG <| MV rfl rfl <| MV rfl rfl <| rw_ch (G := [cur b A l.length cp i h]) (R := []) rfl fun_spec_l1Below rfl (((List.Perm.refl _).trans ((List.Perm.refl _).append_left _))) (fun w hs hin hnd => spec_l1Below (hr.sat hs) hi (n := n) h0 h256 hin hnd) <| fun v1 ch1 how1 => ?_
  obtain ⟨x1, i1, k1, rfl, hx1, hi1, rfl⟩ := how1
  refine EQ1 rfl rfl rfl <| AS rfl rfl <| ND <| ?_
  refine ret_ch [cur b A l.length cp i1 k1] Tryd.func31 (res1 Tryd.func31 rfl (rv_tmp rfl)) ?_ ?_
  · exact ⟨_, _, _, rfl, trivial, hi1, rfl⟩
  · exact List.singleton_sublist.2 (by simp)

theorem spec_l13Priority {w : World} {b cp i : Nat} {A : Option Addr} {l : List UInt8} {h : Int} (hr : Rdb byC w A l b) (hi : i ≤ l.length) (hin : ∀ c ∈ [cur b A l.length cp i h], c.In w) (hnd : ([cur b A l.length cp i h].map Ck.b).Nodup) : CH Tryd.prog 30 [.pointer (some ⟨b, 0, none⟩)] w [cur b A l.length cp i h] (Drew (fun p : Priority => Value.agg p.cells.toArray) (fun _ => True) b A l.length cp []) := by
  refine ch_of hin hnd Tryd.func30 rfl rfl rfl <| SQ <| RG <| AL rfl tyZ_impl_Priority <| fun b1 => ND <| SQ <| RG <| MV rfl rfl <| rw_sliceO (f := intC) ([0, 1, 3, 3, 3, 7] : List Int) [_, _, _, _, _, _] rfl tyM_S_int rfl rfl rfl rfl rfl rfl rfl <| fun v1 ch1 how1 => rw_ch (G := [cur b A l.length cp i h]) (R := ch1 ++ ([])) rfl fun_spec_l1PickInt rfl ((((((List.Perm.refl _)).append_left _).trans (pullc _ _ _)).trans ((List.Perm.refl _).append_left _))) (fun w hs hin hnd => spec_l1PickInt (hr.sat hs) hi (lit_rdb (c := cur b A l.length cp i h) eInt how1 (by decide) hs (((((List.Perm.refl _)).append_left _).trans (pullc _ _ _)).trans (((List.Perm.refl _).trans ((List.Perm.refl _).append_left _)).append_left _))) (by decide) (by decide) hin hnd) <| fun v2 ch2 how2 => ?_
  obtain ⟨x2, i2, k2, rfl, hx2, hi2, rfl⟩ := how2
  refine AS rfl rfl <| ND <| SQ <| RG <| MV rfl rfl <| MV rfl rfl <| rw_ch (G := [cur b A l.length cp i2 k2]) (R := ch1 ++ ([])) rfl fun_spec_l1Once rfl (((List.Perm.refl _).trans ((List.Perm.refl _).append_left _))) (fun w hs hin hnd => spec_l1Once (hr.sat hs) hi2 (n := 2) (by decide) (by decide) hin hnd) <| fun v3 ch3 how3 => ?_
  obtain ⟨x3, i3, k3, rfl, hx3, hi3, rfl⟩ := how3
  refine rw_build [_, _] rfl tyB_impl_Priority tyZ_impl_Priority rfl rfl <| ST (i := 0) [_, _] [_, _] tyS_impl_Priority.sz rfl rfl rfl rfl rfl rfl rfl rfl <| ND <| ?_
  refine ret_ch [cur b A l.length cp i3 k3] Tryd.func30 (res1 Tryd.func30 rfl (rv_s (i := 0) [_, _] tyS_impl_Priority rfl rfl rfl rfl)) ?_ ?_
  · exact ⟨⟨_, _⟩, _, _, rfl, trivial, hi3, rfl⟩
  · exact List.singleton_sublist.2 (by simp)

theorem spec_l13Any {w : World} {b cp i : Nat} {A : Option Addr} {l : List UInt8} {h : Int} (hr : Rdb byC w A l b) (hi : i ≤ l.length) (hin : ∀ c ∈ [cur b A l.length cp i h], c.In w) (hnd : ([cur b A l.length cp i h].map Ck.b).Nodup) : CH Tryd.prog 18 [.pointer (some ⟨b, 0, none⟩)] w [cur b A l.length cp i h] (Drew (fun p : Priority => Value.agg p.cells.toArray) (fun _ => True) b A l.length cp []) := by
  refine ch_of hin hnd Tryd.func18 rfl rfl rfl <| SQ <| RG <| AL rfl tyZ_impl_Priority <| fun b1 => ND <| SQ <| RG <| MV rfl rfl <| rw_ch (G := [cur b A l.length cp i h]) (R := []) rfl fun_spec_l13Priority rfl (((List.Perm.refl _).trans ((List.Perm.refl _).append_left _))) (fun w hs hin hnd => spec_l13Priority (hr.sat hs) hi hin hnd) <| fun v1 ch1 how1 => ?_
  obtain ⟨x1, i1, k1, rfl, hx1, hi1, rfl⟩ := how1
  refine AL rfl tyZ_impl_Priority <| fun b2 => ST (i := 0) [_, _] [_, _] tyS_impl_Priority.sz rfl rfl rfl rfl rfl rfl rfl rfl <| ND <| SQ <| SQ <| RG <| MV rfl rfl <| rw_ch (G := [cur b A l.length cp i1 k1]) (R := []) rfl fun_spec_l1Once rfl (((List.Perm.refl _).trans ((List.Perm.refl _).append_left _))) (fun w hs hin hnd => spec_l1Once (hr.sat hs) hi1 (n := 8) (by decide) (by decide) hin hnd) <| fun v2 ch2 how2 => ?_
  obtain ⟨x2, i2, k2, rfl, hx2, hi2, rfl⟩ := how2
  refine ND <| ?_
  refine gw_cond rfl (fun h1 => ?_) (fun h1 => ?_)
  · refine RG <| MV rfl rfl <| rw_sliceO (f := intC) ([-1, 8] : List Int) [_, _] rfl tyM_S_int rfl rfl rfl rfl rfl rfl rfl <| fun v3 ch3 how3 => rw_ch (G := [cur b A l.length cp i2 k2]) (R := ch3 ++ ([])) rfl fun_spec_l1PickInt rfl ((((((List.Perm.refl _)).append_left _).trans (pullc _ _ _)).trans ((List.Perm.refl _).append_left _))) (fun w hs hin hnd => spec_l1PickInt (hr.sat hs) hi2 (lit_rdb (c := cur b A l.length cp i2 k2) eInt how3 (by decide) hs (((((List.Perm.refl _)).append_left _).trans (pullc _ _ _)).trans (((List.Perm.refl _).trans ((List.Perm.refl _).append_left _)).append_left _))) (by decide) (by decide) hin hnd) <| fun v4 ch4 how4 => ?_
    obtain ⟨x4, i4, k4, rfl, hx4, hi4, rfl⟩ := how4
    refine FA rfl tyF_impl_Priority_0 rfl <| ST (i := 0) [_] [_, _] tyP_int.sz rfl rfl rfl rfl rfl rfl rfl rfl <| ND <| SQ <| RG <| LS (i := 0) [_, _] rfl tyS_impl_Priority rfl rfl rfl rfl <| ST (i := 1) [_, _] [_, _] tyS_impl_Priority.sz rfl rfl rfl rfl rfl rfl rfl rfl <| ND <| ?_
    refine ret_ch [cur b A l.length cp i4 k4] Tryd.func18 (res1 Tryd.func18 rfl (rv_s (i := 1) [_, _] tyS_impl_Priority rfl rfl rfl rfl)) ?_ ?_
    · exact ⟨⟨_, _⟩, _, _, rfl, trivial, hi4, rfl⟩
    · exact List.singleton_sublist.2 (by simp)
  · refine SK <| SQ <| RG <| LS (i := 0) [_, _] rfl tyS_impl_Priority rfl rfl rfl rfl <| ST (i := 1) [_, _] [_, _] tyS_impl_Priority.sz rfl rfl rfl rfl rfl rfl rfl rfl <| ND <| ?_
    refine ret_ch [cur b A l.length cp i2 k2] Tryd.func18 (res1 Tryd.func18 rfl (rv_s (i := 1) [_, _] tyS_impl_Priority rfl rfl rfl rfl)) ?_ ?_
    · exact ⟨⟨_, _⟩, _, _, rfl, trivial, hi2, rfl⟩
    · exact List.singleton_sublist.2 (by simp)

theorem spec_DrawFormatPriority {w : World} {v : Value} {l : List UInt8} (hv : RdS w 1 (Pl byC) v l) (hl : l.length ≤ 1048576) : CN Tryd.prog 5 [v] w (fun v ch => (∃ p : Priority, v = .agg p.cells.toArray) ∧ ch = []) := by
  obtain ⟨A, cp, rfl, hA⟩ := hv
  refine cn_of Tryd.func5 rfl rfl rfl <| SQ <| RG <| AL rfl tyZ_impl_Priority <| fun b1 => ND <| SQ <| RG <| MV rfl rfl <| CN1 rfl fun_spec_l1New rfl (fun w hs => spec_l1New (cp := cp) (hA.sat Pl.keeps hs) (by omega)) <| fun v1 ch1 how1 => ?_
  obtain ⟨b1_, k1, rfl, rfl⟩ := how1
  refine rw_ch (G := [cur b1_ A l.length cp 0 k1]) (R := []) rfl fun_spec_l13Any rfl (((List.Perm.refl _).trans ((List.Perm.refl _).append_left _))) (fun w hs hin hnd => spec_l13Any (Rdb.own (c := cur b1_ A l.length cp 0 k1) hA (by omega) hs (List.mem_append_right _ (List.mem_append_left _ List.mem_cons_self))) (Nat.zero_le _) hin hnd) <| fun v2 ch2 how2 => ?_
  obtain ⟨x2, i2, k2, rfl, hx2, hi2, rfl⟩ := how2
  refine ST (i := 0) [_, _] [_, _] tyS_impl_Priority.sz rfl rfl rfl rfl rfl rfl rfl rfl <| ND <| ?_
  refine ret_cn [] Tryd.func5 (res1 Tryd.func5 rfl (rv_s (i := 0) [_, _] tyS_impl_Priority rfl rfl rfl rfl)) ?_ ?_
  · exact ⟨⟨⟨_, _⟩, rfl⟩, rfl⟩
  · simp

theorem impl_within (a b c : Int) (w : World) : CV Tryd.prog 22 [.int .i64 a, .int .i64 b, .int .i64 c] w (.bool (within a b c)) := by
  refine cv_of Tryd.func22 rfl rfl rfl <| SQ <| RG <| AS rfl rfl <| ND <| SQ <| RG <| MV rfl rfl <| MV rfl rfl <| rw_leq rfl rfl rfl <| MV rfl rfl <| ?_
  refine rw_case (j := 10) rfl (fun h1 => ?_) (fun h1 => ?_)
  · refine ON rfl rfl h1 <| MV rfl rfl <| ON rfl rfl h1 <| MV rfl rfl <| ON rfl rfl h1 <| rw_leq rfl rfl rfl <| PT rfl rfl h1 rfl <| AS rfl rfl <| ND <| ret_cv Tryd.func22 (res1 Tryd.func22 rfl (rv_tmp rfl)) <| ?_
    simp only [within, h1] <;> rfl
  · refine OF rfl rfl h1 rfl <| OF rfl rfl h1 rfl <| OF rfl rfl h1 rfl <| PF rfl rfl h1 rfl <| AS rfl rfl <| ND <| ret_cv Tryd.func22 (res1 Tryd.func22 rfl (rv_tmp rfl)) <| ?_
    simp only [within, h1] <;> rfl

theorem impl_IsPriority (p : Priority) (w : World) : CV Tryd.prog 8 [.agg p.cells.toArray] w (.bool (isPriority p)) := by
  refine cv_of Tryd.func8 rfl rfl rfl <| SQ <| RG <| BX [_, _] rfl rfl rfl <| fun b1 => AS rfl rfl <| ND <| SQ <| RG <| FA rfl tyF_impl_Priority_0 rfl <| LD (i := 0) rfl tyP_int rfl rfl rfl <| CV1 rfl fun_impl_within rfl (fun w hs => impl_within _ _ _ w) <| AS rfl rfl <| ND <| ret_cv Tryd.func8 (res1 Tryd.func8 rfl (rv_tmp rfl)) <| ?_
  simp only [isPriority] <;> rfl

theorem strconv_small_0 (w : World) : CV Tryd.prog 58 [.int .i64 0] w (.string ⟨#[48]⟩) := by
  refine cv_of Tryd.func58 rfl rfl rfl <| SQ <| RG <| AS rfl rfl <| ND <| SQ <| SQ <| RG <| MV rfl rfl <| rw_lss rfl rfl rfl <| ND <| CT rfl rfl <| SQ <| RG <| MV rfl rfl <| MV rfl rfl <| rw_add rfl rfl rfl <| rw_sliceS 0 1 rfl tyStr_string rfl rfl rfl rfl rfl rfl rfl <| AS rfl rfl <| ND <| ret_cv Tryd.func58 (res1 Tryd.func58 rfl (rv_tmp rfl)) <| ?_
  rfl

theorem strconv_small_1 (w : World) : CV Tryd.prog 58 [.int .i64 1] w (.string ⟨#[49]⟩) := by
  refine cv_of Tryd.func58 rfl rfl rfl <| SQ <| RG <| AS rfl rfl <| ND <| SQ <| SQ <| RG <| MV rfl rfl <| rw_lss rfl rfl rfl <| ND <| CT rfl rfl <| SQ <| RG <| MV rfl rfl <| MV rfl rfl <| rw_add rfl rfl rfl <| rw_sliceS 1 2 rfl tyStr_string rfl rfl rfl rfl rfl rfl rfl <| AS rfl rfl <| ND <| ret_cv Tryd.func58 (res1 Tryd.func58 rfl (rv_tmp rfl)) <| ?_
  rfl

theorem strconv_small_2 (w : World) : CV Tryd.prog 58 [.int .i64 2] w (.string ⟨#[50]⟩) := by
  refine cv_of Tryd.func58 rfl rfl rfl <| SQ <| RG <| AS rfl rfl <| ND <| SQ <| SQ <| RG <| MV rfl rfl <| rw_lss rfl rfl rfl <| ND <| CT rfl rfl <| SQ <| RG <| MV rfl rfl <| MV rfl rfl <| rw_add rfl rfl rfl <| rw_sliceS 2 3 rfl tyStr_string rfl rfl rfl rfl rfl rfl rfl <| AS rfl rfl <| ND <| ret_cv Tryd.func58 (res1 Tryd.func58 rfl (rv_tmp rfl)) <| ?_
  rfl

theorem strconv_small_3 (w : World) : CV Tryd.prog 58 [.int .i64 3] w (.string ⟨#[51]⟩) := by
  refine cv_of Tryd.func58 rfl rfl rfl <| SQ <| RG <| AS rfl rfl <| ND <| SQ <| SQ <| RG <| MV rfl rfl <| rw_lss rfl rfl rfl <| ND <| CT rfl rfl <| SQ <| RG <| MV rfl rfl <| MV rfl rfl <| rw_add rfl rfl rfl <| rw_sliceS 3 4 rfl tyStr_string rfl rfl rfl rfl rfl rfl rfl <| AS rfl rfl <| ND <| ret_cv Tryd.func58 (res1 Tryd.func58 rfl (rv_tmp rfl)) <| ?_
  rfl

theorem strconv_small_4 (w : World) : CV Tryd.prog 58 [.int .i64 4] w (.string ⟨#[52]⟩) := by
  refine cv_of Tryd.func58 rfl rfl rfl <| SQ <| RG <| AS rfl rfl <| ND <| SQ <| SQ <| RG <| MV rfl rfl <| rw_lss rfl rfl rfl <| ND <| CT rfl rfl <| SQ <| RG <| MV rfl rfl <| MV rfl rfl <| rw_add rfl rfl rfl <| rw_sliceS 4 5 rfl tyStr_string rfl rfl rfl rfl rfl rfl rfl <| AS rfl rfl <| ND <| ret_cv Tryd.func58 (res1 Tryd.func58 rfl (rv_tmp rfl)) <| ?_
  rfl

theorem strconv_small_5 (w : World) : CV Tryd.prog 58 [.int .i64 5] w (.string ⟨#[53]⟩) := by
  refine cv_of Tryd.func58 rfl rfl rfl <| SQ <| RG <| AS rfl rfl <| ND <| SQ <| SQ <| RG <| MV rfl rfl <| rw_lss rfl rfl rfl <| ND <| CT rfl rfl <| SQ <| RG <| MV rfl rfl <| MV rfl rfl <| rw_add rfl rfl rfl <| rw_sliceS 5 6 rfl tyStr_string rfl rfl rfl rfl rfl rfl rfl <| AS rfl rfl <| ND <| ret_cv Tryd.func58 (res1 Tryd.func58 rfl (rv_tmp rfl)) <| ?_
  rfl

theorem strconv_small_6 (w : World) : CV Tryd.prog 58 [.int .i64 6] w (.string ⟨#[54]⟩) := by
  refine cv_of Tryd.func58 rfl rfl rfl <| SQ <| RG <| AS rfl rfl <| ND <| SQ <| SQ <| RG <| MV rfl rfl <| rw_lss rfl rfl rfl <| ND <| CT rfl rfl <| SQ <| RG <| MV rfl rfl <| MV rfl rfl <| rw_add rfl rfl rfl <| rw_sliceS 6 7 rfl tyStr_string rfl rfl rfl rfl rfl rfl rfl <| AS rfl rfl <| ND <| ret_cv Tryd.func58 (res1 Tryd.func58 rfl (rv_tmp rfl)) <| ?_
  rfl

theorem strconv_small_7 (w : World) : CV Tryd.prog 58 [.int .i64 7] w (.string ⟨#[55]⟩) := by
  refine cv_of Tryd.func58 rfl rfl rfl <| SQ <| RG <| AS rfl rfl <| ND <| SQ <| SQ <| RG <| MV rfl rfl <| rw_lss rfl rfl rfl <| ND <| CT rfl rfl <| SQ <| RG <| MV rfl rfl <| MV rfl rfl <| rw_add rfl rfl rfl <| rw_sliceS 7 8 rfl tyStr_string rfl rfl rfl rfl rfl rfl rfl <| AS rfl rfl <| ND <| ret_cv Tryd.func58 (res1 Tryd.func58 rfl (rv_tmp rfl)) <| ?_
  rfl

theorem istrconv_FormatInt_0 (w : World) : CV Tryd.prog 51 [.int .i64 0, .int .i64 10] w (.string ⟨#[48]⟩) := by
  refine cv_of Tryd.func51 rfl rfl rfl <| SQ <| RG <| AS rfl rfl <| ND <| SQ <| SQ <| RG <| MV rfl rfl <| EQ1 rfl rfl rfl <| ND <| CT rfl rfl <| SQ <| SQ <| RG <| MV rfl rfl <| rw_leq rfl rfl rfl <| MV rfl rfl <| ON rfl rfl rfl <| MV rfl rfl <| ON rfl rfl rfl <| rw_lss rfl rfl rfl <| PT rfl rfl rfl rfl <| ND <| CT rfl rfl <| SQ <| RG <| MV rfl rfl <| CV1 rfl fun_internal_strconv_small rfl (fun w hs => strconv_small_0 w) <| AS rfl rfl <| ND <| ?_
  refine ret_cv Tryd.func51 (res1 Tryd.func51 rfl (rv_tmp rfl)) <| ?_
  rfl

theorem istrconv_FormatInt_1 (w : World) : CV Tryd.prog 51 [.int .i64 1, .int .i64 10] w (.string ⟨#[49]⟩) := by
  refine cv_of Tryd.func51 rfl rfl rfl <| SQ <| RG <| AS rfl rfl <| ND <| SQ <| SQ <| RG <| MV rfl rfl <| EQ1 rfl rfl rfl <| ND <| CT rfl rfl <| SQ <| SQ <| RG <| MV rfl rfl <| rw_leq rfl rfl rfl <| MV rfl rfl <| ON rfl rfl rfl <| MV rfl rfl <| ON rfl rfl rfl <| rw_lss rfl rfl rfl <| PT rfl rfl rfl rfl <| ND <| CT rfl rfl <| SQ <| RG <| MV rfl rfl <| CV1 rfl fun_internal_strconv_small rfl (fun w hs => strconv_small_1 w) <| AS rfl rfl <| ND <| ?_
  refine ret_cv Tryd.func51 (res1 Tryd.func51 rfl (rv_tmp rfl)) <| ?_
  rfl

theorem istrconv_FormatInt_2 (w : World) : CV Tryd.prog 51 [.int .i64 2, .int .i64 10] w (.string ⟨#[50]⟩) := by
  refine cv_of Tryd.func51 rfl rfl rfl <| SQ <| RG <| AS rfl rfl <| ND <| SQ <| SQ <| RG <| MV rfl rfl <| EQ1 rfl rfl rfl <| ND <| CT rfl rfl <| SQ <| SQ <| RG <| MV rfl rfl <| rw_leq rfl rfl rfl <| MV rfl rfl <| ON rfl rfl rfl <| MV rfl rfl <| ON rfl rfl rfl <| rw_lss rfl rfl rfl <| PT rfl rfl rfl rfl <| ND <| CT rfl rfl <| SQ <| RG <| MV rfl rfl <| CV1 rfl fun_internal_strconv_small rfl (fun w hs => strconv_small_2 w) <| AS rfl rfl <| ND <| ?_
  refine ret_cv Tryd.func51 (res1 Tryd.func51 rfl (rv_tmp rfl)) <| ?_
  rfl

theorem istrconv_FormatInt_3 (w : World) : CV Tryd.prog 51 [.int .i64 3, .int .i64 10] w (.string ⟨#[51]⟩) := by
  refine cv_of Tryd.func51 rfl rfl rfl <| SQ <| RG <| AS rfl rfl <| ND <| SQ <| SQ <| RG <| MV rfl rfl <| EQ1 rfl rfl rfl <| ND <| CT rfl rfl <| SQ <| SQ <| RG <| MV rfl rfl <| rw_leq rfl rfl rfl <| MV rfl rfl <| ON rfl rfl rfl <| MV rfl rfl <| ON rfl rfl rfl <| rw_lss rfl rfl rfl <| PT rfl rfl rfl rfl <| ND <| CT rfl rfl <| SQ <| RG <| MV rfl rfl <| CV1 rfl fun_internal_strconv_small rfl (fun w hs => strconv_small_3 w) <| AS rfl rfl <| ND <| ?_
  refine ret_cv Tryd.func51 (res1 Tryd.func51 rfl (rv_tmp rfl)) <| ?_
  rfl

theorem istrconv_FormatInt_4 (w : World) : CV Tryd.prog 51 [.int .i64 4, .int .i64 10] w (.string ⟨#[52]⟩) := by
  refine cv_of Tryd.func51 rfl rfl rfl <| SQ <| RG <| AS rfl rfl <| ND <| SQ <| SQ <| RG <| MV rfl rfl <| EQ1 rfl rfl rfl <| ND <| CT rfl rfl <| SQ <| SQ <| RG <| MV rfl rfl <| rw_leq rfl rfl rfl <| MV rfl rfl <| ON rfl rfl rfl <| MV rfl rfl <| ON rfl rfl rfl <| rw_lss rfl rfl rfl <| PT rfl rfl rfl rfl <| ND <| CT rfl rfl <| SQ <| RG <| MV rfl rfl <| CV1 rfl fun_internal_strconv_small rfl (fun w hs => strconv_small_4 w) <| AS rfl rfl <| ND <| ?_
  refine ret_cv Tryd.func51 (res1 Tryd.func51 rfl (rv_tmp rfl)) <| ?_
  rfl

theorem istrconv_FormatInt_5 (w : World) : CV Tryd.prog 51 [.int .i64 5, .int .i64 10] w (.string ⟨#[53]⟩) := by
  refine cv_of Tryd.func51 rfl rfl rfl <| SQ <| RG <| AS rfl rfl <| ND <| SQ <| SQ <| RG <| MV rfl rfl <| EQ1 rfl rfl rfl <| ND <| CT rfl rfl <| SQ <| SQ <| RG <| MV rfl rfl <| rw_leq rfl rfl rfl <| MV rfl rfl <| ON rfl rfl rfl <| MV rfl rfl <| ON rfl rfl rfl <| rw_lss rfl rfl rfl <| PT rfl rfl rfl rfl <| ND <| CT rfl rfl <| SQ <| RG <| MV rfl rfl <| CV1 rfl fun_internal_strconv_small rfl (fun w hs => strconv_small_5 w) <| AS rfl rfl <| ND <| ?_
  refine ret_cv Tryd.func51 (res1 Tryd.func51 rfl (rv_tmp rfl)) <| ?_
  rfl

theorem istrconv_FormatInt_6 (w : World) : CV Tryd.prog 51 [.int .i64 6, .int .i64 10] w (.string ⟨#[54]⟩) := by
  refine cv_of Tryd.func51 rfl rfl rfl <| SQ <| RG <| AS rfl rfl <| ND <| SQ <| SQ <| RG <| MV rfl rfl <| EQ1 rfl rfl rfl <| ND <| CT rfl rfl <| SQ <| SQ <| RG <| MV rfl rfl <| rw_leq rfl rfl rfl <| MV rfl rfl <| ON rfl rfl rfl <| MV rfl rfl <| ON rfl rfl rfl <| rw_lss rfl rfl rfl <| PT rfl rfl rfl rfl <| ND <| CT rfl rfl <| SQ <| RG <| MV rfl rfl <| CV1 rfl fun_internal_strconv_small rfl (fun w hs => strconv_small_6 w) <| AS rfl rfl <| ND <| ?_
  refine ret_cv Tryd.func51 (res1 Tryd.func51 rfl (rv_tmp rfl)) <| ?_
  rfl

theorem istrconv_FormatInt_7 (w : World) : CV Tryd.prog 51 [.int .i64 7, .int .i64 10] w (.string ⟨#[55]⟩) := by
  refine cv_of Tryd.func51 rfl rfl rfl <| SQ <| RG <| AS rfl rfl <| ND <| SQ <| SQ <| RG <| MV rfl rfl <| EQ1 rfl rfl rfl <| ND <| CT rfl rfl <| SQ <| SQ <| RG <| MV rfl rfl <| rw_leq rfl rfl rfl <| MV rfl rfl <| ON rfl rfl rfl <| MV rfl rfl <| ON rfl rfl rfl <| rw_lss rfl rfl rfl <| PT rfl rfl rfl rfl <| ND <| CT rfl rfl <| SQ <| RG <| MV rfl rfl <| CV1 rfl fun_internal_strconv_small rfl (fun w hs => strconv_small_7 w) <| AS rfl rfl <| ND <| ?_
  refine ret_cv Tryd.func51 (res1 Tryd.func51 rfl (rv_tmp rfl)) <| ?_
  rfl

theorem istrconv_Itoa_0 (w : World) : CV Tryd.prog 43 [.int .i64 0] w (.string ⟨#[48]⟩) := by
  refine cv_of Tryd.func43 rfl rfl rfl <| SQ <| RG <| AS rfl rfl <| ND <| SQ <| RG <| MV rfl rfl <| CV1 rfl fun_internal_strconv_FormatInt rfl (fun w hs => istrconv_FormatInt_0 w) <| AS rfl rfl <| ND <| ret_cv Tryd.func43 (res1 Tryd.func43 rfl (rv_tmp rfl)) <| ?_
  rfl

theorem istrconv_Itoa_1 (w : World) : CV Tryd.prog 43 [.int .i64 1] w (.string ⟨#[49]⟩) := by
  refine cv_of Tryd.func43 rfl rfl rfl <| SQ <| RG <| AS rfl rfl <| ND <| SQ <| RG <| MV rfl rfl <| CV1 rfl fun_internal_strconv_FormatInt rfl (fun w hs => istrconv_FormatInt_1 w) <| AS rfl rfl <| ND <| ret_cv Tryd.func43 (res1 Tryd.func43 rfl (rv_tmp rfl)) <| ?_
  rfl

theorem istrconv_Itoa_2 (w : World) : CV Tryd.prog 43 [.int .i64 2] w (.string ⟨#[50]⟩) := by
  refine cv_of Tryd.func43 rfl rfl rfl <| SQ <| RG <| AS rfl rfl <| ND <| SQ <| RG <| MV rfl rfl <| CV1 rfl fun_internal_strconv_FormatInt rfl (fun w hs => istrconv_FormatInt_2 w) <| AS rfl rfl <| ND <| ret_cv Tryd.func43 (res1 Tryd.func43 rfl (rv_tmp rfl)) <| ?_
  rfl

theorem istrconv_Itoa_3 (w : World) : CV Tryd.prog 43 [.int .i64 3] w (.string ⟨#[51]⟩) := by
  refine cv_of Tryd.func43 rfl rfl rfl <| SQ <| RG <| AS rfl rfl <| ND <| SQ <| RG <| MV rfl rfl <| CV1 rfl fun_internal_strconv_FormatInt rfl (fun w hs => istrconv_FormatInt_3 w) <| AS rfl rfl <| ND <| ret_cv Tryd.func43 (res1 Tryd.func43 rfl (rv_tmp rfl)) <| ?_
  rfl

theorem istrconv_Itoa_4 (w : World) : CV Tryd.prog 43 [.int .i64 4] w (.string ⟨#[52]⟩) := by
  refine cv_of Tryd.func43 rfl rfl rfl <| SQ <| RG <| AS rfl rfl <| ND <| SQ <| RG <| MV rfl rfl <| CV1 rfl fun_internal_strconv_FormatInt rfl (fun w hs => istrconv_FormatInt_4 w) <| AS rfl rfl <| ND <| ret_cv Tryd.func43 (res1 Tryd.func43 rfl (rv_tmp rfl)) <| ?_
  rfl

theorem istrconv_Itoa_5 (w : World) : CV Tryd.prog 43 [.int .i64 5] w (.string ⟨#[53]⟩) := by
  refine cv_of Tryd.func43 rfl rfl rfl <| SQ <| RG <| AS rfl rfl <| ND <| SQ <| RG <| MV rfl rfl <| CV1 rfl fun_internal_strconv_FormatInt rfl (fun w hs => istrconv_FormatInt_5 w) <| AS rfl rfl <| ND <| ret_cv Tryd.func43 (res1 Tryd.func43 rfl (rv_tmp rfl)) <| ?_
  rfl

theorem istrconv_Itoa_6 (w : World) : CV Tryd.prog 43 [.int .i64 6] w (.string ⟨#[54]⟩) := by
  refine cv_of Tryd.func43 rfl rfl rfl <| SQ <| RG <| AS rfl rfl <| ND <| SQ <| RG <| MV rfl rfl <| CV1 rfl fun_internal_strconv_FormatInt rfl (fun w hs => istrconv_FormatInt_6 w) <| AS rfl rfl <| ND <| ret_cv Tryd.func43 (res1 Tryd.func43 rfl (rv_tmp rfl)) <| ?_
  rfl

theorem istrconv_Itoa_7 (w : World) : CV Tryd.prog 43 [.int .i64 7] w (.string ⟨#[55]⟩) := by
  refine cv_of Tryd.func43 rfl rfl rfl <| SQ <| RG <| AS rfl rfl <| ND <| SQ <| RG <| MV rfl rfl <| CV1 rfl fun_internal_strconv_FormatInt rfl (fun w hs => istrconv_FormatInt_7 w) <| AS rfl rfl <| ND <| ret_cv Tryd.func43 (res1 Tryd.func43 rfl (rv_tmp rfl)) <| ?_
  rfl

theorem strconv_Itoa_0 (w : World) : CV Tryd.prog 33 [.int .i64 0] w (.string ⟨#[48]⟩) := by
  refine cv_of Tryd.func33 rfl rfl rfl <| SQ <| RG <| AS rfl rfl <| ND <| SQ <| RG <| MV rfl rfl <| CV1 rfl fun_internal_strconv_Itoa rfl (fun w hs => istrconv_Itoa_0 w) <| AS rfl rfl <| ND <| ret_cv Tryd.func33 (res1 Tryd.func33 rfl (rv_tmp rfl)) <| ?_
  rfl

theorem strconv_Itoa_1 (w : World) : CV Tryd.prog 33 [.int .i64 1] w (.string ⟨#[49]⟩) := by
  refine cv_of Tryd.func33 rfl rfl rfl <| SQ <| RG <| AS rfl rfl <| ND <| SQ <| RG <| MV rfl rfl <| CV1 rfl fun_internal_strconv_Itoa rfl (fun w hs => istrconv_Itoa_1 w) <| AS rfl rfl <| ND <| ret_cv Tryd.func33 (res1 Tryd.func33 rfl (rv_tmp rfl)) <| ?_
  rfl

theorem strconv_Itoa_2 (w : World) : CV Tryd.prog 33 [.int .i64 2] w (.string ⟨#[50]⟩) := by
  refine cv_of Tryd.func33 rfl rfl rfl <| SQ <| RG <| AS rfl rfl <| ND <| SQ <| RG <| MV rfl rfl <| CV1 rfl fun_internal_strconv_Itoa rfl (fun w hs => istrconv_Itoa_2 w) <| AS rfl rfl <| ND <| ret_cv Tryd.func33 (res1 Tryd.func33 rfl (rv_tmp rfl)) <| ?_
  rfl

theorem strconv_Itoa_3 (w : World) : CV Tryd.prog 33 [.int .i64 3] w (.string ⟨#[51]⟩) := by
  refine cv_of Tryd.func33 rfl rfl rfl <| SQ <| RG <| AS rfl rfl <| ND <| SQ <| RG <| MV rfl rfl <| CV1 rfl fun_internal_strconv_Itoa rfl (fun w hs => istrconv_Itoa_3 w) <| AS rfl rfl <| ND <| ret_cv Tryd.func33 (res1 Tryd.func33 rfl (rv_tmp rfl)) <| ?_
  rfl

theorem strconv_Itoa_4 (w : World) : CV Tryd.prog 33 [.int .i64 4] w (.string ⟨#[52]⟩) := by
  refine cv_of Tryd.func33 rfl rfl rfl <| SQ <| RG <| AS rfl rfl <| ND <| SQ <| RG <| MV rfl rfl <| CV1 rfl fun_internal_strconv_Itoa rfl (fun w hs => istrconv_Itoa_4 w) <| AS rfl rfl <| ND <| ret_cv Tryd.func33 (res1 Tryd.func33 rfl (rv_tmp rfl)) <| ?_
  rfl

theorem strconv_Itoa_5 (w : World) : CV Tryd.prog 33 [.int .i64 5] w (.string ⟨#[53]⟩) := by
  refine cv_of Tryd.func33 rfl rfl rfl <| SQ <| RG <| AS rfl rfl <| ND <| SQ <| RG <| MV rfl rfl <| CV1 rfl fun_internal_strconv_Itoa rfl (fun w hs => istrconv_Itoa_5 w) <| AS rfl rfl <| ND <| ret_cv Tryd.func33 (res1 Tryd.func33 rfl (rv_tmp rfl)) <| ?_
  rfl

theorem strconv_Itoa_6 (w : World) : CV Tryd.prog 33 [.int .i64 6] w (.string ⟨#[54]⟩) := by
  refine cv_of Tryd.func33 rfl rfl rfl <| SQ <| RG <| AS rfl rfl <| ND <| SQ <| RG <| MV rfl rfl <| CV1 rfl fun_internal_strconv_Itoa rfl (fun w hs => istrconv_Itoa_6 w) <| AS rfl rfl <| ND <| ret_cv Tryd.func33 (res1 Tryd.func33 rfl (rv_tmp rfl)) <| ?_
  rfl

theorem strconv_Itoa_7 (w : World) : CV Tryd.prog 33 [.int .i64 7] w (.string ⟨#[55]⟩) := by
  refine cv_of Tryd.func33 rfl rfl rfl <| SQ <| RG <| AS rfl rfl <| ND <| SQ <| RG <| MV rfl rfl <| CV1 rfl fun_internal_strconv_Itoa rfl (fun w hs => istrconv_Itoa_7 w) <| AS rfl rfl <| ND <| ret_cv Tryd.func33 (res1 Tryd.func33 rfl (rv_tmp rfl)) <| ?_
  rfl

theorem impl_FormatInt_0 (w : World) : CV Tryd.prog 20 [.int .i64 0] w (.string ⟨#[48]⟩) := by
  refine cv_of Tryd.func20 rfl rfl rfl <| SQ <| RG <| AS rfl rfl <| ND <| SQ <| RG <| MV rfl rfl <| CV1 rfl fun_strconv_Itoa rfl (fun w hs => strconv_Itoa_0 w) <| AS rfl rfl <| ND <| ret_cv Tryd.func20 (res1 Tryd.func20 rfl (rv_tmp rfl)) <| ?_
  rfl

theorem impl_FormatInt_1 (w : World) : CV Tryd.prog 20 [.int .i64 1] w (.string ⟨#[49]⟩) := by
  refine cv_of Tryd.func20 rfl rfl rfl <| SQ <| RG <| AS rfl rfl <| ND <| SQ <| RG <| MV rfl rfl <| CV1 rfl fun_strconv_Itoa rfl (fun w hs => strconv_Itoa_1 w) <| AS rfl rfl <| ND <| ret_cv Tryd.func20 (res1 Tryd.func20 rfl (rv_tmp rfl)) <| ?_
  rfl

theorem impl_FormatInt_2 (w : World) : CV Tryd.prog 20 [.int .i64 2] w (.string ⟨#[50]⟩) := by
  refine cv_of Tryd.func20 rfl rfl rfl <| SQ <| RG <| AS rfl rfl <| ND <| SQ <| RG <| MV rfl rfl <| CV1 rfl fun_strconv_Itoa rfl (fun w hs => strconv_Itoa_2 w) <| AS rfl rfl <| ND <| ret_cv Tryd.func20 (res1 Tryd.func20 rfl (rv_tmp rfl)) <| ?_
  rfl

theorem impl_FormatInt_3 (w : World) : CV Tryd.prog 20 [.int .i64 3] w (.string ⟨#[51]⟩) := by
  refine cv_of Tryd.func20 rfl rfl rfl <| SQ <| RG <| AS rfl rfl <| ND <| SQ <| RG <| MV rfl rfl <| CV1 rfl fun_strconv_Itoa rfl (fun w hs => strconv_Itoa_3 w) <| AS rfl rfl <| ND <| ret_cv Tryd.func20 (res1 Tryd.func20 rfl (rv_tmp rfl)) <| ?_
  rfl

theorem impl_FormatInt_4 (w : World) : CV Tryd.prog 20 [.int .i64 4] w (.string ⟨#[52]⟩) := by
  refine cv_of Tryd.func20 rfl rfl rfl <| SQ <| RG <| AS rfl rfl <| ND <| SQ <| RG <| MV rfl rfl <| CV1 rfl fun_strconv_Itoa rfl (fun w hs => strconv_Itoa_4 w) <| AS rfl rfl <| ND <| ret_cv Tryd.func20 (res1 Tryd.func20 rfl (rv_tmp rfl)) <| ?_
  rfl

theorem impl_FormatInt_5 (w : World) : CV Tryd.prog 20 [.int .i64 5] w (.string ⟨#[53]⟩) := by
  refine cv_of Tryd.func20 rfl rfl rfl <| SQ <| RG <| AS rfl rfl <| ND <| SQ <| RG <| MV rfl rfl <| CV1 rfl fun_strconv_Itoa rfl (fun w hs => strconv_Itoa_5 w) <| AS rfl rfl <| ND <| ret_cv Tryd.func20 (res1 Tryd.func20 rfl (rv_tmp rfl)) <| ?_
  rfl

theorem impl_FormatInt_6 (w : World) : CV Tryd.prog 20 [.int .i64 6] w (.string ⟨#[54]⟩) := by
  refine cv_of Tryd.func20 rfl rfl rfl <| SQ <| RG <| AS rfl rfl <| ND <| SQ <| RG <| MV rfl rfl <| CV1 rfl fun_strconv_Itoa rfl (fun w hs => strconv_Itoa_6 w) <| AS rfl rfl <| ND <| ret_cv Tryd.func20 (res1 Tryd.func20 rfl (rv_tmp rfl)) <| ?_
  rfl

theorem impl_FormatInt_7 (w : World) : CV Tryd.prog 20 [.int .i64 7] w (.string ⟨#[55]⟩) := by
  refine cv_of Tryd.func20 rfl rfl rfl <| SQ <| RG <| AS rfl rfl <| ND <| SQ <| RG <| MV rfl rfl <| CV1 rfl fun_strconv_Itoa rfl (fun w hs => strconv_Itoa_7 w) <| AS rfl rfl <| ND <| ret_cv Tryd.func20 (res1 Tryd.func20 rfl (rv_tmp rfl)) <| ?_
  rfl

theorem impl_FormatInt (n : Int) (h : 0 ≤ n ∧ n ≤ 7) (w : World) : CV Tryd.prog 20 [.int .i64 n] w (.string ⟨[digit n].toArray⟩) := by
  rcases upto7 h with rfl | rfl | rfl | rfl | rfl | rfl | rfl | rfl
  · exact impl_FormatInt_0 w
  · exact impl_FormatInt_1 w
  · exact impl_FormatInt_2 w
  · exact impl_FormatInt_3 w
  · exact impl_FormatInt_4 w
  · exact impl_FormatInt_5 w
  · exact impl_FormatInt_6 w
  · exact impl_FormatInt_7 w

theorem impl_FormatPriority (p : Priority) (w : World) : CV Tryd.prog 6 [.agg p.cells.toArray] w (.string ⟨(formatPriority p).toArray⟩) := by
  refine cv_of Tryd.func6 rfl rfl rfl <| SQ <| RG <| BX [_, _] rfl rfl rfl <| fun b1 => AS rfl rfl <| ND <| SQ <| SQ <| RG <| LS (i := 0) [_, _] rfl tyS_impl_Priority rfl rfl rfl rfl <| CV1 rfl fun_impl_IsPriority rfl (fun w hs => impl_IsPriority _ w) <| NT rfl rfl <| ND <| ?_
  refine gw_cond rfl (fun h1 => ?_) (fun h1 => ?_)
  · replace h1 := of_not_T h1
    refine SQ <| RG <| AS rfl rfl <| ND <| ret_cv Tryd.func6 (res1 Tryd.func6 rfl (rv_tmp rfl)) <| ?_
    simp [formatPriority, h1]
  · replace h1 := of_not_F h1
    refine SK <| SQ <| RG <| FA rfl tyF_impl_Priority_0 rfl <| LD (i := 0) rfl tyP_int rfl rfl rfl <| CV1 rfl fun_impl_FormatInt rfl (fun w hs => impl_FormatInt _ (pri_ok h1) w) <| rw_catS rfl rfl rfl (by first | decide | (simp; done) | (simp; omega)) (by first | decide | (simp; done) | (simp; omega)) <| AS rfl rfl <| ND <| SQ <| SQ <| RG <| FA rfl tyF_impl_Priority_1 rfl <| LD (i := 0) rfl tyP_bool rfl rfl rfl <| ND <| ?_
    refine gw_cond rfl (fun h2 => ?_) (fun h2 => ?_)
    · refine RG <| MV rfl rfl <| rw_catS rfl rfl rfl (by first | decide | (simp; done) | (simp; omega)) (by first | decide | (simp; done) | (simp; omega)) <| AS rfl rfl <| ND <| SQ <| RG <| MV rfl rfl <| AS rfl rfl <| ND <| ret_cv Tryd.func6 (res1 Tryd.func6 rfl (rv_tmp rfl)) <| ?_
      simp [formatPriority, h1, h2]
    · refine SK <| SQ <| RG <| MV rfl rfl <| AS rfl rfl <| ND <| ret_cv Tryd.func6 (res1 Tryd.func6 rfl (rv_tmp rfl)) <| ?_
      simp [formatPriority, h1, h2]

theorem spec_l1In (a b c : Int) (w : World) : CV Tryd.prog 23 [.int .i64 a, .int .i64 b, .int .i64 c] w (.bool (within a b c)) := by
  refine cv_of Tryd.func23 rfl rfl rfl <| SQ <| RG <| AS rfl rfl <| ND <| SQ <| RG <| MV rfl rfl <| MV rfl rfl <| rw_geq rfl rfl rfl <| MV rfl rfl <| ?_
  refine rw_case (j := 10) rfl (fun h1 => ?_) (fun h1 => ?_)
  · refine ON rfl rfl h1 <| MV rfl rfl <| ON rfl rfl h1 <| MV rfl rfl <| ON rfl rfl h1 <| rw_leq rfl rfl rfl <| PT rfl rfl h1 rfl <| AS rfl rfl <| ND <| ret_cv Tryd.func23 (res1 Tryd.func23 rfl (rv_tmp rfl)) <| ?_
    simp only [within, h1] <;> rfl
  · refine OF rfl rfl h1 rfl <| OF rfl rfl h1 rfl <| OF rfl rfl h1 rfl <| PF rfl rfl h1 rfl <| AS rfl rfl <| ND <| ret_cv Tryd.func23 (res1 Tryd.func23 rfl (rv_tmp rfl)) <| ?_
    simp only [within, h1] <;> rfl

theorem spec_IsPriority (p : Priority) (w : World) : CV Tryd.prog 9 [.agg p.cells.toArray] w (.bool (isPriority p)) := by
  refine cv_of Tryd.func9 rfl rfl rfl <| SQ <| RG <| BX [_, _] rfl rfl rfl <| fun b1 => AS rfl rfl <| ND <| SQ <| RG <| FA rfl tyF_impl_Priority_0 rfl <| LD (i := 0) rfl tyP_int rfl rfl rfl <| CV1 rfl fun_spec_l1In rfl (fun w hs => spec_l1In _ _ _ w) <| AS rfl rfl <| ND <| ret_cv Tryd.func9 (res1 Tryd.func9 rfl (rv_tmp rfl)) <| ?_
  simp only [isPriority] <;> rfl

theorem spec_FormatInt_0 (w : World) : CV Tryd.prog 21 [.int .i64 0] w (.string ⟨#[48]⟩) := by
  refine cv_of Tryd.func21 rfl rfl rfl <| SQ <| RG <| AS rfl rfl <| ND <| SQ <| SQ <| RG <| MV rfl rfl <| EQ1 rfl rfl rfl <| ND <| CT rfl rfl <| SQ <| RG <| AS rfl rfl <| ND <| ret_cv Tryd.func21 (res1 Tryd.func21 rfl (rv_tmp rfl)) <| ?_
  rfl

theorem spec_FormatInt_1 (w : World) : CV Tryd.prog 21 [.int .i64 1] w (.string ⟨#[49]⟩) := by
  refine cv_of Tryd.func21 rfl rfl rfl <| SQ <| RG <| AS rfl rfl <| ND <| SQ <| SQ <| RG <| MV rfl rfl <| EQ1 rfl rfl rfl <| ND <| CF rfl rfl <| SK <| SQ <| RG <| AS rfl rfl <| ND <| SQ <| RG <| MV rfl rfl <| rw_lss rfl rfl rfl <| AS rfl rfl <| ND <| SQ <| BK <| gw_loop1 <| SQ <| SQ <| RG <| MV rfl rfl <| rw_neq rfl rfl rfl <| ND <| CT rfl rfl <| SK <| BK <| SQ <| RG <| MV rfl rfl <| rw_rem rfl rfl rfl (by first | decide | omega) <| AS rfl rfl <| ?_
  refine ND <| SQ <| SQ <| RG <| MV rfl rfl <| rw_lss rfl rfl rfl <| ND <| CF rfl rfl <| SK <| SQ <| RG <| MV rfl rfl <| rw_add rfl rfl rfl <| rw_convI rfl tyCI_int_uint8 rfl <| rw_slice (xs := [(0, _)]) [_] rfl tyM_S_uint8 rfl rfl rfl rfl <| fun b1 => rw_convB (i := 0) [49] rfl tyCB_S_uint8_string rfl rfl rfl rfl <| MV rfl rfl <| rw_catS rfl rfl rfl (by first | decide | (simp; done) | (simp; omega)) (by first | decide | (simp; done) | (simp; omega)) <| AS rfl rfl <| ND <| RG <| MV rfl rfl <| rw_quo rfl rfl rfl (by first | decide | omega) <| ?_
  refine AS rfl rfl <| ND <| IB <| gw_again <| SQ <| SQ <| RG <| MV rfl rfl <| rw_neq rfl rfl rfl <| ND <| CF rfl rfl <| EX rfl <| SQ <| SQ <| RG <| MV rfl rfl <| ND <| CF rfl rfl <| SK <| SQ <| RG <| MV rfl rfl <| AS rfl rfl <| ND <| ret_cv Tryd.func21 (res1 Tryd.func21 rfl (rv_tmp rfl)) <| ?_
  rfl

theorem spec_FormatInt_2 (w : World) : CV Tryd.prog 21 [.int .i64 2] w (.string ⟨#[50]⟩) := by
  refine cv_of Tryd.func21 rfl rfl rfl <| SQ <| RG <| AS rfl rfl <| ND <| SQ <| SQ <| RG <| MV rfl rfl <| EQ1 rfl rfl rfl <| ND <| CF rfl rfl <| SK <| SQ <| RG <| AS rfl rfl <| ND <| SQ <| RG <| MV rfl rfl <| rw_lss rfl rfl rfl <| AS rfl rfl <| ND <| SQ <| BK <| gw_loop1 <| SQ <| SQ <| RG <| MV rfl rfl <| rw_neq rfl rfl rfl <| ND <| CT rfl rfl <| SK <| BK <| SQ <| RG <| MV rfl rfl <| rw_rem rfl rfl rfl (by first | decide | omega) <| AS rfl rfl <| ?_
  refine ND <| SQ <| SQ <| RG <| MV rfl rfl <| rw_lss rfl rfl rfl <| ND <| CF rfl rfl <| SK <| SQ <| RG <| MV rfl rfl <| rw_add rfl rfl rfl <| rw_convI rfl tyCI_int_uint8 rfl <| rw_slice (xs := [(0, _)]) [_] rfl tyM_S_uint8 rfl rfl rfl rfl <| fun b1 => rw_convB (i := 0) [50] rfl tyCB_S_uint8_string rfl rfl rfl rfl <| MV rfl rfl <| rw_catS rfl rfl rfl (by first | decide | (simp; done) | (simp; omega)) (by first | decide | (simp; done) | (simp; omega)) <| AS rfl rfl <| ND <| RG <| MV rfl rfl <| rw_quo rfl rfl rfl (by first | decide | omega) <| ?_
  refine AS rfl rfl <| ND <| IB <| gw_again <| SQ <| SQ <| RG <| MV rfl rfl <| rw_neq rfl rfl rfl <| ND <| CF rfl rfl <| EX rfl <| SQ <| SQ <| RG <| MV rfl rfl <| ND <| CF rfl rfl <| SK <| SQ <| RG <| MV rfl rfl <| AS rfl rfl <| ND <| ret_cv Tryd.func21 (res1 Tryd.func21 rfl (rv_tmp rfl)) <| ?_
  rfl

theorem spec_FormatInt_3 (w : World) : CV Tryd.prog 21 [.int .i64 3] w (.string ⟨#[51]⟩) := by
  refine cv_of Tryd.func21 rfl rfl rfl <| SQ <| RG <| AS rfl rfl <| ND <| SQ <| SQ <| RG <| MV rfl rfl <| EQ1 rfl rfl rfl <| ND <| CF rfl rfl <| SK <| SQ <| RG <| AS rfl rfl <| ND <| SQ <| RG <| MV rfl rfl <| rw_lss rfl rfl rfl <| AS rfl rfl <| ND <| SQ <| BK <| gw_loop1 <| SQ <| SQ <| RG <| MV rfl rfl <| rw_neq rfl rfl rfl <| ND <| CT rfl rfl <| SK <| BK <| SQ <| RG <| MV rfl rfl <| rw_rem rfl rfl rfl (by first | decide | omega) <| AS rfl rfl <| ?_
  refine ND <| SQ <| SQ <| RG <| MV rfl rfl <| rw_lss rfl rfl rfl <| ND <| CF rfl rfl <| SK <| SQ <| RG <| MV rfl rfl <| rw_add rfl rfl rfl <| rw_convI rfl tyCI_int_uint8 rfl <| rw_slice (xs := [(0, _)]) [_] rfl tyM_S_uint8 rfl rfl rfl rfl <| fun b1 => rw_convB (i := 0) [51] rfl tyCB_S_uint8_string rfl rfl rfl rfl <| MV rfl rfl <| rw_catS rfl rfl rfl (by first | decide | (simp; done) | (simp; omega)) (by first | decide | (simp; done) | (simp; omega)) <| AS rfl rfl <| ND <| RG <| MV rfl rfl <| rw_quo rfl rfl rfl (by first | decide | omega) <| ?_
  refine AS rfl rfl <| ND <| IB <| gw_again <| SQ <| SQ <| RG <| MV rfl rfl <| rw_neq rfl rfl rfl <| ND <| CF rfl rfl <| EX rfl <| SQ <| SQ <| RG <| MV rfl rfl <| ND <| CF rfl rfl <| SK <| SQ <| RG <| MV rfl rfl <| AS rfl rfl <| ND <| ret_cv Tryd.func21 (res1 Tryd.func21 rfl (rv_tmp rfl)) <| ?_
  rfl

theorem spec_FormatInt_4 (w : World) : CV Tryd.prog 21 [.int .i64 4] w (.string ⟨#[52]⟩) := by
  refine cv_of Tryd.func21 rfl rfl rfl <| SQ <| RG <| AS rfl rfl <| ND <| SQ <| SQ <| RG <| MV rfl rfl <| EQ1 rfl rfl rfl <| ND <| CF rfl rfl <| SK <| SQ <| RG <| AS rfl rfl <| ND <| SQ <| RG <| MV rfl rfl <| rw_lss rfl rfl rfl <| AS rfl rfl <| ND <| SQ <| BK <| gw_loop1 <| SQ <| SQ <| RG <| MV rfl rfl <| rw_neq rfl rfl rfl <| ND <| CT rfl rfl <| SK <| BK <| SQ <| RG <| MV rfl rfl <| rw_rem rfl rfl rfl (by first | decide | omega) <| AS rfl rfl <| ?_
  refine ND <| SQ <| SQ <| RG <| MV rfl rfl <| rw_lss rfl rfl rfl <| ND <| CF rfl rfl <| SK <| SQ <| RG <| MV rfl rfl <| rw_add rfl rfl rfl <| rw_convI rfl tyCI_int_uint8 rfl <| rw_slice (xs := [(0, _)]) [_] rfl tyM_S_uint8 rfl rfl rfl rfl <| fun b1 => rw_convB (i := 0) [52] rfl tyCB_S_uint8_string rfl rfl rfl rfl <| MV rfl rfl <| rw_catS rfl rfl rfl (by first | decide | (simp; done) | (simp; omega)) (by first | decide | (simp; done) | (simp; omega)) <| AS rfl rfl <| ND <| RG <| MV rfl rfl <| rw_quo rfl rfl rfl (by first | decide | omega) <| ?_
  refine AS rfl rfl <| ND <| IB <| gw_again <| SQ <| SQ <| RG <| MV rfl rfl <| rw_neq rfl rfl rfl <| ND <| CF rfl rfl <| EX rfl <| SQ <| SQ <| RG <| MV rfl rfl <| ND <| CF rfl rfl <| SK <| SQ <| RG <| MV rfl rfl <| AS rfl rfl <| ND <| ret_cv Tryd.func21 (res1 Tryd.func21 rfl (rv_tmp rfl)) <| ?_
  rfl

theorem spec_FormatInt_5 (w : World) : CV Tryd.prog 21 [.int .i64 5] w (.string ⟨#[53]⟩) := by
  refine cv_of Tryd.func21 rfl rfl rfl <| SQ <| RG <| AS rfl rfl <| ND <| SQ <| SQ <| RG <| MV rfl rfl <| EQ1 rfl rfl rfl <| ND <| CF rfl rfl <| SK <| SQ <| RG <| AS rfl rfl <| ND <| SQ <| RG <| MV rfl rfl <| rw_lss rfl rfl rfl <| AS rfl rfl <| ND <| SQ <| BK <| gw_loop1 <| SQ <| SQ <| RG <| MV rfl rfl <| rw_neq rfl rfl rfl <| ND <| CT rfl rfl <| SK <| BK <| SQ <| RG <| MV rfl rfl <| rw_rem rfl rfl rfl (by first | decide | omega) <| AS rfl rfl <| ?_
  refine ND <| SQ <| SQ <| RG <| MV rfl rfl <| rw_lss rfl rfl rfl <| ND <| CF rfl rfl <| SK <| SQ <| RG <| MV rfl rfl <| rw_add rfl rfl rfl <| rw_convI rfl tyCI_int_uint8 rfl <| rw_slice (xs := [(0, _)]) [_] rfl tyM_S_uint8 rfl rfl rfl rfl <| fun b1 => rw_convB (i := 0) [53] rfl tyCB_S_uint8_string rfl rfl rfl rfl <| MV rfl rfl <| rw_catS rfl rfl rfl (by first | decide | (simp; done) | (simp; omega)) (by first | decide | (simp; done) | (simp; omega)) <| AS rfl rfl <| ND <| RG <| MV rfl rfl <| rw_quo rfl rfl rfl (by first | decide | omega) <| ?_
  refine AS rfl rfl <| ND <| IB <| gw_again <| SQ <| SQ <| RG <| MV rfl rfl <| rw_neq rfl rfl rfl <| ND <| CF rfl rfl <| EX rfl <| SQ <| SQ <| RG <| MV rfl rfl <| ND <| CF rfl rfl <| SK <| SQ <| RG <| MV rfl rfl <| AS rfl rfl <| ND <| ret_cv Tryd.func21 (res1 Tryd.func21 rfl (rv_tmp rfl)) <| ?_
  rfl

theorem spec_FormatInt_6 (w : World) : CV Tryd.prog 21 [.int .i64 6] w (.string ⟨#[54]⟩) := by
  refine cv_of Tryd.func21 rfl rfl rfl <| SQ <| RG <| AS rfl rfl <| ND <| SQ <| SQ <| RG <| MV rfl rfl <| EQ1 rfl rfl rfl <| ND <| CF rfl rfl <| SK <| SQ <| RG <| AS rfl rfl <| ND <| SQ <| RG <| MV rfl rfl <| rw_lss rfl rfl rfl <| AS rfl rfl <| ND <| SQ <| BK <| gw_loop1 <| SQ <| SQ <| RG <| MV rfl rfl <| rw_neq rfl rfl rfl <| ND <| CT rfl rfl <| SK <| BK <| SQ <| RG <| MV rfl rfl <| rw_rem rfl rfl rfl (by first | decide | omega) <| AS rfl rfl <| ?_
  refine ND <| SQ <| SQ <| RG <| MV rfl rfl <| rw_lss rfl rfl rfl <| ND <| CF rfl rfl <| SK <| SQ <| RG <| MV rfl rfl <| rw_add rfl rfl rfl <| rw_convI rfl tyCI_int_uint8 rfl <| rw_slice (xs := [(0, _)]) [_] rfl tyM_S_uint8 rfl rfl rfl rfl <| fun b1 => rw_convB (i := 0) [54] rfl tyCB_S_uint8_string rfl rfl rfl rfl <| MV rfl rfl <| rw_catS rfl rfl rfl (by first | decide | (simp; done) | (simp; omega)) (by first | decide | (simp; done) | (simp; omega)) <| AS rfl rfl <| ND <| RG <| MV rfl rfl <| rw_quo rfl rfl rfl (by first | decide | omega) <| ?_
  refine AS rfl rfl <| ND <| IB <| gw_again <| SQ <| SQ <| RG <| MV rfl rfl <| rw_neq rfl rfl rfl <| ND <| CF rfl rfl <| EX rfl <| SQ <| SQ <| RG <| MV rfl rfl <| ND <| CF rfl rfl <| SK <| SQ <| RG <| MV rfl rfl <| AS rfl rfl <| ND <| ret_cv Tryd.func21 (res1 Tryd.func21 rfl (rv_tmp rfl)) <| ?_
  rfl

theorem spec_FormatInt_7 (w : World) : CV Tryd.prog 21 [.int .i64 7] w (.string ⟨#[55]⟩) := by
  refine cv_of Tryd.func21 rfl rfl rfl <| SQ <| RG <| AS rfl rfl <| ND <| SQ <| SQ <| RG <| MV rfl rfl <| EQ1 rfl rfl rfl <| ND <| CF rfl rfl <| SK <| SQ <| RG <| AS rfl rfl <| ND <| SQ <| RG <| MV rfl rfl <| rw_lss rfl rfl rfl <| AS rfl rfl <| ND <| SQ <| BK <| gw_loop1 <| SQ <| SQ <| RG <| MV rfl rfl <| rw_neq rfl rfl rfl <| ND <| CT rfl rfl <| SK <| BK <| SQ <| RG <| MV rfl rfl <| rw_rem rfl rfl rfl (by first | decide | omega) <| AS rfl rfl <| ?_
  refine ND <| SQ <| SQ <| RG <| MV rfl rfl <| rw_lss rfl rfl rfl <| ND <| CF rfl rfl <| SK <| SQ <| RG <| MV rfl rfl <| rw_add rfl rfl rfl <| rw_convI rfl tyCI_int_uint8 rfl <| rw_slice (xs := [(0, _)]) [_] rfl tyM_S_uint8 rfl rfl rfl rfl <| fun b1 => rw_convB (i := 0) [55] rfl tyCB_S_uint8_string rfl rfl rfl rfl <| MV rfl rfl <| rw_catS rfl rfl rfl (by first | decide | (simp; done) | (simp; omega)) (by first | decide | (simp; done) | (simp; omega)) <| AS rfl rfl <| ND <| RG <| MV rfl rfl <| rw_quo rfl rfl rfl (by first | decide | omega) <| ?_
  refine AS rfl rfl <| ND <| IB <| gw_again <| SQ <| SQ <| RG <| MV rfl rfl <| rw_neq rfl rfl rfl <| ND <| CF rfl rfl <| EX rfl <| SQ <| SQ <| RG <| MV rfl rfl <| ND <| CF rfl rfl <| SK <| SQ <| RG <| MV rfl rfl <| AS rfl rfl <| ND <| ret_cv Tryd.func21 (res1 Tryd.func21 rfl (rv_tmp rfl)) <| ?_
  rfl

theorem spec_FormatInt (n : Int) (h : 0 ≤ n ∧ n ≤ 7) (w : World) : CV Tryd.prog 21 [.int .i64 n] w (.string ⟨[digit n].toArray⟩) := by
  rcases upto7 h with rfl | rfl | rfl | rfl | rfl | rfl | rfl | rfl
  · exact spec_FormatInt_0 w
  · exact spec_FormatInt_1 w
  · exact spec_FormatInt_2 w
  · exact spec_FormatInt_3 w
  · exact spec_FormatInt_4 w
  · exact spec_FormatInt_5 w
  · exact spec_FormatInt_6 w
  · exact spec_FormatInt_7 w

theorem spec_FormatPriority (p : Priority) (w : World) : CV Tryd.prog 7 [.agg p.cells.toArray] w (.string ⟨(formatPriority p).toArray⟩) := by
  refine cv_of Tryd.func7 rfl rfl rfl <| SQ <| RG <| BX [_, _] rfl rfl rfl <| fun b1 => AS rfl rfl <| ND <| SQ <| SQ <| RG <| LS (i := 0) [_, _] rfl tyS_impl_Priority rfl rfl rfl rfl <| CV1 rfl fun_spec_IsPriority rfl (fun w hs => spec_IsPriority _ w) <| NT rfl rfl <| ND <| ?_
  refine gw_cond rfl (fun h1 => ?_) (fun h1 => ?_)
  · replace h1 := of_not_T h1
    refine SQ <| RG <| AS rfl rfl <| ND <| ret_cv Tryd.func7 (res1 Tryd.func7 rfl (rv_tmp rfl)) <| ?_
    simp [formatPriority, h1]
  · replace h1 := of_not_F h1
    refine SK <| SQ <| RG <| FA rfl tyF_impl_Priority_0 rfl <| LD (i := 0) rfl tyP_int rfl rfl rfl <| CV1 rfl fun_spec_FormatInt rfl (fun w hs => spec_FormatInt _ (pri_ok h1) w) <| rw_catS rfl rfl rfl (by first | decide | (simp; done) | (simp; omega)) (by first | decide | (simp; done) | (simp; omega)) <| AS rfl rfl <| ND <| SQ <| SQ <| RG <| FA rfl tyF_impl_Priority_1 rfl <| LD (i := 0) rfl tyP_bool rfl rfl rfl <| ND <| ?_
    refine gw_cond rfl (fun h2 => ?_) (fun h2 => ?_)
    · refine RG <| MV rfl rfl <| rw_catS rfl rfl rfl (by first | decide | (simp; done) | (simp; omega)) (by first | decide | (simp; done) | (simp; omega)) <| AS rfl rfl <| ND <| SQ <| RG <| MV rfl rfl <| AS rfl rfl <| ND <| ret_cv Tryd.func7 (res1 Tryd.func7 rfl (rv_tmp rfl)) <| ?_
      simp [formatPriority, h1, h2]
    · refine SK <| SQ <| RG <| MV rfl rfl <| AS rfl rfl <| ND <| ret_cv Tryd.func7 (res1 Tryd.func7 rfl (rv_tmp rfl)) <| ?_
      simp [formatPriority, h1, h2]

theorem impl_DefaultPriority (w : World) : CV Tryd.prog 16 [] w (.agg defaultPriority.cells.toArray) := by
  refine cv_of Tryd.func16 rfl rfl rfl <| SQ <| RG <| AL rfl tyZ_impl_Priority <| fun b1 => ND <| SQ <| RG <| rw_build [_, _] rfl tyB_impl_Priority tyZ_impl_Priority rfl rfl <| ST (i := 0) [_, _] [_, _] tyS_impl_Priority.sz rfl rfl rfl rfl rfl rfl rfl rfl <| ND <| ret_cv Tryd.func16 (res1 Tryd.func16 rfl (rv_s (i := 0) [_, _] tyS_impl_Priority rfl rfl rfl rfl)) <| ?_
  rfl





theorem impl_MergePriority {w : World} (hm : MaxOk w) (base : Priority) (l : List UInt8) (hl : l.length ≤ 1048576) : CV Tryd.prog 13 [.agg base.cells.toArray, .string ⟨l.toArray⟩] w (.agg (mergePriority base l).cells.toArray) := by
  have hpl := pieces_len l
  have hml : ((pieces l).map mkS).length = (pieces l).length := List.length_map ..
  refine cv_of Tryd.func13 rfl rfl rfl <| SQ <| RG <| BX [_, _] rfl rfl rfl <| fun b1 => AL rfl tyZ_impl_Priority <| fun b2 => ND <| SQ <| SQ <| RG <| LS (i := 1) [_, _] rfl tyS_impl_Priority rfl rfl rfl rfl <| CV1 rfl fun_impl_IsPriority rfl (fun w hs => impl_IsPriority _ w) <| NT rfl rfl <| ND <| ?_
  refine gw_cond rfl (fun h1 => ?_) (fun h1 => ?_)
  · replace h1 := of_not_T h1
    refine RG <| CV1 rfl fun_impl_DefaultPriority rfl (fun w hs => impl_DefaultPriority w) <| ST (i := 1) [_, _] [_, _] tyS_impl_Priority.sz rfl rfl rfl rfl rfl rfl rfl rfl <| ND <| SQ <| SQ <| RG <| MV rfl rfl <| CN1 rfl fun_strings_Split rfl (fun w hs => lib_Split (hm.sat hs) l hl) <| fun v1 ch1 how1 => ?_
    obtain ⟨R1, rc1, rfl, hR1, hrd1⟩ := how1.shape eStr
    refine rw_len rfl tyE_S_string rfl <| MV rfl rfl <| ND <| BK <| ?_
    refine gw_loopX (α := Nat × Priority) (fun z_ => z_.1 ≤ (pieces l).length ∧ mergeFrom defaultPriority (pieces l) = mergeFrom z_.2 ((pieces l).drop z_.1)) (fun z_ => (pieces l).length - z_.1) (fun e z_ => (14, .int .i64 (z_.1 : Int)) :: e) (fun B z_ => B.set 1 ⟨b1, 25, z_.2.cells⟩) (fun F _ => F) (0, defaultPriority) [(2, _), (4, _), (12, _), (13, _)] (Sub.consE rfl rfl (Sub.cons (i := 2) rfl (Sub.cons (i := 4) rfl (Sub.cons (i := 12) rfl (Sub.cons (i := 13) rfl (Sub.nil _)))))) rfl rfl ?_ ?_
    · exact ⟨Nat.zero_le _, rfl⟩
    · rintro ⟨i, p⟩ hI2 ih2
      dsimp only at hI2
      dsimp only [List.set]
      obtain ⟨hle, hI⟩ := hI2
      refine SQ <| RG <| rw_lss rfl rfl rfl <| ND <| SQ <| ?_
      refine gw_cond rfl (fun h2 => ?_) (fun h2 => ?_)
      · have hi3 := lt_of_dec h2
        obtain ⟨x4, hx4⟩ := get_of_lt hi3
        obtain ⟨t, ht, rfl⟩ := str_get hx4
        refine SK <| SQ <| BK <| SQ <| RG <| rw_indexAddr (i) rfl tyE_S_string rfl rfl rfl (hR1 (Nat.zero_lt_of_lt hi3)) hi3 <| rw_loadX _ rfl tyP_string rfl (fun w hs => ((hrd1 _ (fun c hc => hs.at_ c (List.mem_append_right _ (List.mem_append_left _ hc)))).plain hx4).cell0 rfl) <| AS rfl rfl <| ND <| SQ <| RG <| MV rfl rfl <| CV1 rfl fun_strings_Trim rfl (fun w hs => lib_Trim _ (Nat.le_trans (pieces_mem ht) (by omega)) w) <| AS rfl rfl <| ND <| BK <| SQ <| RG <| MV rfl rfl <| rw_eqlL rfl rfl rfl <| MV rfl rfl <| ?_
        refine rw_case (j := 23) rfl (fun h3 => ?_) (fun h3 => ?_)
        · refine OF rfl rfl h3 rfl <| OF rfl rfl h3 rfl <| PT rfl rfl h3 rfl <| AS rfl rfl <| ND <| CT rfl rfl <| RG <| FA rfl tyF_impl_Priority_1 rfl <| ST (i := 1) [_] [_, _] tyP_bool.sz rfl rfl rfl rfl rfl rfl rfl rfl <| ND <| IB <| IB <| RG <| rw_add rfl rfl rfl <| MV rfl rfl <| ND <| ?_
          refine gw_sub (Sub.consE (i := 14) rfl (int_succ (by omega)) (Sub.cons (i := 2) rfl (Sub.cons (i := 4) rfl (Sub.cons (i := 12) rfl (Sub.cons (i := 13) rfl (Sub.nil _)))))) (ih2 (i + 1, { p with incremental := true }) ?_ ?_)
          · exact ⟨by omega, by rw [hI, merge_step ht (step_on h3)]⟩
          · show (pieces l).length - (i + 1) < (pieces l).length - i; omega
        · refine ON rfl rfl h3 <| MV rfl rfl <| ON rfl rfl h3 <| rw_eqlL rfl rfl rfl <| PF rfl rfl h3 rfl <| AS rfl rfl <| ND <| ?_
          refine gw_cond rfl (fun h4 => ?_) (fun h4 => ?_)
          · refine RG <| FA rfl tyF_impl_Priority_1 rfl <| ST (i := 1) [_] [_, _] tyP_bool.sz rfl rfl rfl rfl rfl rfl rfl rfl <| ND <| IB <| IB <| RG <| rw_add rfl rfl rfl <| MV rfl rfl <| ND <| ?_
            refine gw_sub (Sub.consE (i := 14) rfl (int_succ (by omega)) (Sub.cons (i := 2) rfl (Sub.cons (i := 4) rfl (Sub.cons (i := 12) rfl (Sub.cons (i := 13) rfl (Sub.nil _)))))) (ih2 (i + 1, { p with incremental := true }) ?_ ?_)
            · exact ⟨by omega, by rw [hI, merge_step ht (step_on2 h3 h4)]⟩
            · show (pieces l).length - (i + 1) < (pieces l).length - i; omega
          · refine SQ <| RG <| MV rfl rfl <| rw_eqlL rfl rfl rfl <| AS rfl rfl <| ND <| ?_
            refine gw_cond rfl (fun h5 => ?_) (fun h5 => ?_)
            · refine RG <| FA rfl tyF_impl_Priority_1 rfl <| ST (i := 1) [_] [_, _] tyP_bool.sz rfl rfl rfl rfl rfl rfl rfl rfl <| ND <| IB <| IB <| RG <| rw_add rfl rfl rfl <| MV rfl rfl <| ND <| ?_
              refine gw_sub (Sub.consE (i := 14) rfl (int_succ (by omega)) (Sub.cons (i := 2) rfl (Sub.cons (i := 4) rfl (Sub.cons (i := 12) rfl (Sub.cons (i := 13) rfl (Sub.nil _)))))) (ih2 (i + 1, { p with incremental := false }) ?_ ?_)
              · exact ⟨by omega, by rw [hI, merge_step ht (step_off h3 h4 h5)]⟩
              · show (pieces l).length - (i + 1) < (pieces l).length - i; omega
            · refine SQ <| RG <| MV rfl rfl <| rw_lenL rfl tyStr_string rfl <| EQ1 rfl rfl rfl <| MV rfl rfl <| ?_
              refine rw_case (j := 36) rfl (fun h6 => ?_) (fun h6 => ?_)
              · obtain ⟨ba5, bb5, bc5, he5⟩ := three_of h6
                refine ON rfl rfl h6 <| MV rfl rfl <| ON rfl rfl h6 <| rw_sliceH 2 [ba5, bb5] rfl tyStr_string rfl rfl rfl (by rw [he5]; simp) (by rw [he5]; rfl) <| ON rfl rfl h6 <| rw_eqlL rfl rfl rfl <| PT rfl rfl h6 rfl <| MV rfl rfl <| ?_
                refine rw_case (j := 41) rfl (fun h7 => ?_) (fun h7 => ?_)
                · refine ON rfl rfl h7 <| MV rfl rfl <| ON rfl rfl h7 <| rw_idxL 2 rfl tyStr_string rfl rfl rfl (by rw [he5]; rfl) <| ON rfl rfl h7 <| rw_geq rfl rfl rfl <| PT rfl rfl h7 rfl <| MV rfl rfl <| ?_
                  refine rw_case (j := 46) rfl (fun h8 => ?_) (fun h8 => ?_)
                  · refine ON rfl rfl h8 <| MV rfl rfl <| ON rfl rfl h8 <| rw_idxL 2 rfl tyStr_string rfl rfl rfl (by rw [he5]; rfl) <| ON rfl rfl h8 <| rw_leq rfl rfl rfl <| PT rfl rfl h8 rfl <| AS rfl rfl <| ND <| ?_
                    refine gw_cond rfl (fun h9 => ?_) (fun h9 => ?_)
                    · refine RG <| MV rfl rfl <| rw_idxL 2 rfl tyStr_string rfl rfl rfl (by rw [he5]; rfl) <| rw_sub rfl rfl rfl <| rw_convI rfl tyCI_uint8_int rfl <| FA rfl tyF_impl_Priority_0 rfl <| ST (i := 1) [_] [_, _] tyP_int.sz rfl rfl rfl rfl rfl rfl rfl rfl <| ND <| IB <| IB <| RG <| rw_add rfl rfl rfl <| MV rfl rfl <| ND <| ?_
                      refine gw_sub (Sub.consE (i := 14) rfl (int_succ (by omega)) (Sub.cons (i := 2) rfl (Sub.cons (i := 4) rfl (Sub.cons (i := 12) rfl (Sub.cons (i := 13) rfl (Sub.nil _)))))) (ih2 (i + 1, { p with urgency := IntKind.i64.wrap (IntKind.u8.wrap ((bc5.toNat : Int) - 48)) }) ?_ ?_)
                      · exact ⟨by omega, by rw [hI, merge_step ht (step_set h3 h4 h5 he5 h7 h8 h9)]⟩
                      · show (pieces l).length - (i + 1) < (pieces l).length - i; omega
                    · refine SK <| IB <| IB <| RG <| rw_add rfl rfl rfl <| MV rfl rfl <| ND <| ?_
                      refine gw_sub (Sub.consE (i := 14) rfl (int_succ (by omega)) (Sub.cons (i := 2) rfl (Sub.cons (i := 4) rfl (Sub.cons (i := 12) rfl (Sub.cons (i := 13) rfl (Sub.nil _)))))) (ih2 (i + 1, p) ?_ ?_)
                      · exact ⟨by omega, by rw [hI, merge_step ht (step_hi h3 h4 h5 he5 h9)]⟩
                      · show (pieces l).length - (i + 1) < (pieces l).length - i; omega
                  · refine OF rfl rfl h8 rfl <| OF rfl rfl h8 rfl <| OF rfl rfl h8 rfl <| PF rfl rfl h8 rfl <| AS rfl rfl <| ND <| CF rfl rfl <| SK <| IB <| IB <| RG <| rw_add rfl rfl rfl <| MV rfl rfl <| ND <| ?_
                    refine gw_sub (Sub.consE (i := 14) rfl (int_succ (by omega)) (Sub.cons (i := 2) rfl (Sub.cons (i := 4) rfl (Sub.cons (i := 12) rfl (Sub.cons (i := 13) rfl (Sub.nil _)))))) (ih2 (i + 1, p) ?_ ?_)
                    · exact ⟨by omega, by rw [hI, merge_step ht (step_lo h3 h4 h5 he5 h8)]⟩
                    · show (pieces l).length - (i + 1) < (pieces l).length - i; omega
                · refine OF rfl rfl h7 rfl <| OF rfl rfl h7 rfl <| OF rfl rfl h7 rfl <| PF rfl rfl h7 rfl <| MV rfl rfl <| OF rfl rfl rfl rfl <| OF rfl rfl rfl rfl <| OF rfl rfl rfl rfl <| PF rfl rfl rfl rfl <| AS rfl rfl <| ND <| CF rfl rfl <| SK <| IB <| IB <| RG <| rw_add rfl rfl rfl <| MV rfl rfl <| ND <| ?_
                  refine gw_sub (Sub.consE (i := 14) rfl (int_succ (by omega)) (Sub.cons (i := 2) rfl (Sub.cons (i := 4) rfl (Sub.cons (i := 12) rfl (Sub.cons (i := 13) rfl (Sub.nil _)))))) (ih2 (i + 1, p) ?_ ?_)
                  · exact ⟨by omega, by rw [hI, merge_step ht (step_u h3 h4 h5 he5 h7)]⟩
                  · show (pieces l).length - (i + 1) < (pieces l).length - i; omega
              · refine OF rfl rfl h6 rfl <| OF rfl rfl h6 rfl <| OF rfl rfl h6 rfl <| PF rfl rfl h6 rfl <| MV rfl rfl <| OF rfl rfl rfl rfl <| OF rfl rfl rfl rfl <| OF rfl rfl rfl rfl <| PF rfl rfl rfl rfl <| MV rfl rfl <| OF rfl rfl rfl rfl <| OF rfl rfl rfl rfl <| OF rfl rfl rfl rfl <| PF rfl rfl rfl rfl <| AS rfl rfl <| ND <| CF rfl rfl <| SK <| IB <| IB <| RG <| rw_add rfl rfl rfl <| MV rfl rfl <| ND <| ?_
                refine gw_sub (Sub.consE (i := 14) rfl (int_succ (by omega)) (Sub.cons (i := 2) rfl (Sub.cons (i := 4) rfl (Sub.cons (i := 12) rfl (Sub.cons (i := 13) rfl (Sub.nil _)))))) (ih2 (i + 1, p) ?_ ?_)
                · exact ⟨by omega, by rw [hI, merge_step ht (step_len h3 h4 h5 h6)]⟩
                · show (pieces l).length - (i + 1) < (pieces l).length - i; omega
      · have hn6 := nil_of_dec h2
        refine EX rfl <| SQ <| RG <| LS (i := 1) [_, _] rfl tyS_impl_Priority rfl rfl rfl rfl <| ST (i := 0) [_, _] [_, _] tyS_impl_Priority.sz rfl rfl rfl rfl rfl rfl rfl rfl <| ND <| ret_cv Tryd.func13 (res1 Tryd.func13 rfl (rv_s (i := 0) [_, _] tyS_impl_Priority rfl rfl rfl rfl)) <| ?_
        have e : mergePriority base l = p := by rw [mergePriority, h1]; exact hI.trans (merge_done hn6)
        rw [e]; rfl
  · replace h1 := of_not_F h1
    refine SK <| SQ <| SQ <| RG <| MV rfl rfl <| CN1 rfl fun_strings_Split rfl (fun w hs => lib_Split (hm.sat hs) l hl) <| fun v7 ch7 how7 => ?_
    obtain ⟨R7, rc7, rfl, hR7, hrd7⟩ := how7.shape eStr
    refine rw_len rfl tyE_S_string rfl <| MV rfl rfl <| ND <| BK <| ?_
    refine gw_loopX (α := Nat × Priority) (fun z_ => z_.1 ≤ (pieces l).length ∧ mergeFrom base (pieces l) = mergeFrom z_.2 ((pieces l).drop z_.1)) (fun z_ => (pieces l).length - z_.1) (fun e z_ => (14, .int .i64 (z_.1 : Int)) :: e) (fun B z_ => B.set 1 ⟨b1, 25, z_.2.cells⟩) (fun F _ => F) (0, base) [(2, _), (4, _), (12, _), (13, _)] (Sub.consE rfl rfl (Sub.cons (i := 2) rfl (Sub.cons (i := 4) rfl (Sub.cons (i := 12) rfl (Sub.cons (i := 13) rfl (Sub.nil _)))))) rfl rfl ?_ ?_
    · exact ⟨Nat.zero_le _, rfl⟩
    · rintro ⟨i, p⟩ hI8 ih8
      dsimp only at hI8
      dsimp only [List.set]
      obtain ⟨hle, hI⟩ := hI8
      refine SQ <| RG <| rw_lss rfl rfl rfl <| ND <| SQ <| ?_
      refine gw_cond rfl (fun h10 => ?_) (fun h10 => ?_)
      · have hi9 := lt_of_dec h10
        obtain ⟨x10, hx10⟩ := get_of_lt hi9
        obtain ⟨t, ht, rfl⟩ := str_get hx10
        refine SK <| SQ <| BK <| SQ <| RG <| rw_indexAddr (i) rfl tyE_S_string rfl rfl rfl (hR7 (Nat.zero_lt_of_lt hi9)) hi9 <| rw_loadX _ rfl tyP_string rfl (fun w hs => ((hrd7 _ (fun c hc => hs.at_ c (List.mem_append_right _ (List.mem_append_left _ hc)))).plain hx10).cell0 rfl) <| AS rfl rfl <| ND <| SQ <| RG <| MV rfl rfl <| CV1 rfl fun_strings_Trim rfl (fun w hs => lib_Trim _ (Nat.le_trans (pieces_mem ht) (by omega)) w) <| AS rfl rfl <| ND <| BK <| SQ <| RG <| MV rfl rfl <| rw_eqlL rfl rfl rfl <| MV rfl rfl <| ?_
        refine rw_case (j := 23) rfl (fun h11 => ?_) (fun h11 => ?_)
        · refine OF rfl rfl h11 rfl <| OF rfl rfl h11 rfl <| PT rfl rfl h11 rfl <| AS rfl rfl <| ND <| CT rfl rfl <| RG <| FA rfl tyF_impl_Priority_1 rfl <| ST (i := 1) [_] [_, _] tyP_bool.sz rfl rfl rfl rfl rfl rfl rfl rfl <| ND <| IB <| IB <| RG <| rw_add rfl rfl rfl <| MV rfl rfl <| ND <| ?_
          refine gw_sub (Sub.consE (i := 14) rfl (int_succ (by omega)) (Sub.cons (i := 2) rfl (Sub.cons (i := 4) rfl (Sub.cons (i := 12) rfl (Sub.cons (i := 13) rfl (Sub.nil _)))))) (ih8 (i + 1, { p with incremental := true }) ?_ ?_)
          · exact ⟨by omega, by rw [hI, merge_step ht (step_on h11)]⟩
          · show (pieces l).length - (i + 1) < (pieces l).length - i; omega
        · refine ON rfl rfl h11 <| MV rfl rfl <| ON rfl rfl h11 <| rw_eqlL rfl rfl rfl <| PF rfl rfl h11 rfl <| AS rfl rfl <| ND <| ?_
          refine gw_cond rfl (fun h12 => ?_) (fun h12 => ?_)
          · refine RG <| FA rfl tyF_impl_Priority_1 rfl <| ST (i := 1) [_] [_, _] tyP_bool.sz rfl rfl rfl rfl rfl rfl rfl rfl <| ND <| IB <| IB <| RG <| rw_add rfl rfl rfl <| MV rfl rfl <| ND <| ?_
            refine gw_sub (Sub.consE (i := 14) rfl (int_succ (by omega)) (Sub.cons (i := 2) rfl (Sub.cons (i := 4) rfl (Sub.cons (i := 12) rfl (Sub.cons (i := 13) rfl (Sub.nil _)))))) (ih8 (i + 1, { p with incremental := true }) ?_ ?_)
            · exact ⟨by omega, by rw [hI, merge_step ht (step_on2 h11 h12)]⟩
            · show (pieces l).length - (i + 1) < (pieces l).length - i; omega
          · refine SQ <| RG <| MV rfl rfl <| rw_eqlL rfl rfl rfl <| AS rfl rfl <| ND <| ?_
            refine gw_cond rfl (fun h13 => ?_) (fun h13 => ?_)
            · refine RG <| FA rfl tyF_impl_Priority_1 rfl <| ST (i := 1) [_] [_, _] tyP_bool.sz rfl rfl rfl rfl rfl rfl rfl rfl <| ND <| IB <| IB <| RG <| rw_add rfl rfl rfl <| MV rfl rfl <| ND <| ?_
              refine gw_sub (Sub.consE (i := 14) rfl (int_succ (by omega)) (Sub.cons (i := 2) rfl (Sub.cons (i := 4) rfl (Sub.cons (i := 12) rfl (Sub.cons (i := 13) rfl (Sub.nil _)))))) (ih8 (i + 1, { p with incremental := false }) ?_ ?_)
              · exact ⟨by omega, by rw [hI, merge_step ht (step_off h11 h12 h13)]⟩
              · show (pieces l).length - (i + 1) < (pieces l).length - i; omega
            · refine SQ <| RG <| MV rfl rfl <| rw_lenL rfl tyStr_string rfl <| EQ1 rfl rfl rfl <| MV rfl rfl <| ?_
              refine rw_case (j := 36) rfl (fun h14 => ?_) (fun h14 => ?_)
              · obtain ⟨ba11, bb11, bc11, he11⟩ := three_of h14
                refine ON rfl rfl h14 <| MV rfl rfl <| ON rfl rfl h14 <| rw_sliceH 2 [ba11, bb11] rfl tyStr_string rfl rfl rfl (by rw [he11]; simp) (by rw [he11]; rfl) <| ON rfl rfl h14 <| rw_eqlL rfl rfl rfl <| PT rfl rfl h14 rfl <| MV rfl rfl <| ?_
                refine rw_case (j := 41) rfl (fun h15 => ?_) (fun h15 => ?_)
                · refine ON rfl rfl h15 <| MV rfl rfl <| ON rfl rfl h15 <| rw_idxL 2 rfl tyStr_string rfl rfl rfl (by rw [he11]; rfl) <| ON rfl rfl h15 <| rw_geq rfl rfl rfl <| PT rfl rfl h15 rfl <| MV rfl rfl <| ?_
                  refine rw_case (j := 46) rfl (fun h16 => ?_) (fun h16 => ?_)
                  · refine ON rfl rfl h16 <| MV rfl rfl <| ON rfl rfl h16 <| rw_idxL 2 rfl tyStr_string rfl rfl rfl (by rw [he11]; rfl) <| ON rfl rfl h16 <| rw_leq rfl rfl rfl <| PT rfl rfl h16 rfl <| AS rfl rfl <| ND <| ?_
                    refine gw_cond rfl (fun h17 => ?_) (fun h17 => ?_)
                    · refine RG <| MV rfl rfl <| rw_idxL 2 rfl tyStr_string rfl rfl rfl (by rw [he11]; rfl) <| rw_sub rfl rfl rfl <| rw_convI rfl tyCI_uint8_int rfl <| FA rfl tyF_impl_Priority_0 rfl <| ST (i := 1) [_] [_, _] tyP_int.sz rfl rfl rfl rfl rfl rfl rfl rfl <| ND <| IB <| IB <| RG <| rw_add rfl rfl rfl <| MV rfl rfl <| ND <| ?_
                      refine gw_sub (Sub.consE (i := 14) rfl (int_succ (by omega)) (Sub.cons (i := 2) rfl (Sub.cons (i := 4) rfl (Sub.cons (i := 12) rfl (Sub.cons (i := 13) rfl (Sub.nil _)))))) (ih8 (i + 1, { p with urgency := IntKind.i64.wrap (IntKind.u8.wrap ((bc11.toNat : Int) - 48)) }) ?_ ?_)
                      · exact ⟨by omega, by rw [hI, merge_step ht (step_set h11 h12 h13 he11 h15 h16 h17)]⟩
                      · show (pieces l).length - (i + 1) < (pieces l).length - i; omega
                    · refine SK <| IB <| IB <| RG <| rw_add rfl rfl rfl <| MV rfl rfl <| ND <| ?_
                      refine gw_sub (Sub.consE (i := 14) rfl (int_succ (by omega)) (Sub.cons (i := 2) rfl (Sub.cons (i := 4) rfl (Sub.cons (i := 12) rfl (Sub.cons (i := 13) rfl (Sub.nil _)))))) (ih8 (i + 1, p) ?_ ?_)
                      · exact ⟨by omega, by rw [hI, merge_step ht (step_hi h11 h12 h13 he11 h17)]⟩
                      · show (pieces l).length - (i + 1) < (pieces l).length - i; omega
                  · refine OF rfl rfl h16 rfl <| OF rfl rfl h16 rfl <| OF rfl rfl h16 rfl <| PF rfl rfl h16 rfl <| AS rfl rfl <| ND <| CF rfl rfl <| SK <| IB <| IB <| RG <| rw_add rfl rfl rfl <| MV rfl rfl <| ND <| ?_
                    refine gw_sub (Sub.consE (i := 14) rfl (int_succ (by omega)) (Sub.cons (i := 2) rfl (Sub.cons (i := 4) rfl (Sub.cons (i := 12) rfl (Sub.cons (i := 13) rfl (Sub.nil _)))))) (ih8 (i + 1, p) ?_ ?_)
                    · exact ⟨by omega, by rw [hI, merge_step ht (step_lo h11 h12 h13 he11 h16)]⟩
                    · show (pieces l).length - (i + 1) < (pieces l).length - i; omega
                · refine OF rfl rfl h15 rfl <| OF rfl rfl h15 rfl <| OF rfl rfl h15 rfl <| PF rfl rfl h15 rfl <| MV rfl rfl <| OF rfl rfl rfl rfl <| OF rfl rfl rfl rfl <| OF rfl rfl rfl rfl <| PF rfl rfl rfl rfl <| AS rfl rfl <| ND <| CF rfl rfl <| SK <| IB <| IB <| RG <| rw_add rfl rfl rfl <| MV rfl rfl <| ND <| ?_
                  refine gw_sub (Sub.consE (i := 14) rfl (int_succ (by omega)) (Sub.cons (i := 2) rfl (Sub.cons (i := 4) rfl (Sub.cons (i := 12) rfl (Sub.cons (i := 13) rfl (Sub.nil _)))))) (ih8 (i + 1, p) ?_ ?_)
                  · exact ⟨by omega, by rw [hI, merge_step ht (step_u h11 h12 h13 he11 h15)]⟩
                  · show (pieces l).length - (i + 1) < (pieces l).length - i; omega
              · refine OF rfl rfl h14 rfl <| OF rfl rfl h14 rfl <| OF rfl rfl h14 rfl <| PF rfl rfl h14 rfl <| MV rfl rfl <| OF rfl rfl rfl rfl <| OF rfl rfl rfl rfl <| OF rfl rfl rfl rfl <| PF rfl rfl rfl rfl <| MV rfl rfl <| OF rfl rfl rfl rfl <| OF rfl rfl rfl rfl <| OF rfl rfl rfl rfl <| PF rfl rfl rfl rfl <| AS rfl rfl <| ND <| CF rfl rfl <| SK <| IB <| IB <| RG <| rw_add rfl rfl rfl <| MV rfl rfl <| ND <| ?_
                refine gw_sub (Sub.consE (i := 14) rfl (int_succ (by omega)) (Sub.cons (i := 2) rfl (Sub.cons (i := 4) rfl (Sub.cons (i := 12) rfl (Sub.cons (i := 13) rfl (Sub.nil _)))))) (ih8 (i + 1, p) ?_ ?_)
                · exact ⟨by omega, by rw [hI, merge_step ht (step_len h11 h12 h13 h14)]⟩
                · show (pieces l).length - (i + 1) < (pieces l).length - i; omega
      · have hn12 := nil_of_dec h10
        refine EX rfl <| SQ <| RG <| LS (i := 1) [_, _] rfl tyS_impl_Priority rfl rfl rfl rfl <| ST (i := 0) [_, _] [_, _] tyS_impl_Priority.sz rfl rfl rfl rfl rfl rfl rfl rfl <| ND <| ret_cv Tryd.func13 (res1 Tryd.func13 rfl (rv_s (i := 0) [_, _] tyS_impl_Priority rfl rfl rfl rfl)) <| ?_
        have e : mergePriority base l = p := by rw [mergePriority, h1]; exact hI.trans (merge_done hn12)
        rw [e]; rfl

theorem impl_ParsePriority {w : World} (hm : MaxOk w) (l : List UInt8) (hl : l.length ≤ 1048576) : CV Tryd.prog 10 [.string ⟨l.toArray⟩] w (.agg (mergePriority defaultPriority l).cells.toArray) := by
  refine cv_of Tryd.func10 rfl rfl rfl <| SQ <| RG <| AL rfl tyZ_impl_Priority <| fun b1 => ND <| SQ <| RG <| CV1 rfl fun_impl_DefaultPriority rfl (fun w hs => impl_DefaultPriority w) <| MV rfl rfl <| CV1 rfl fun_impl_MergePriority rfl (fun w hs => impl_MergePriority (hm.sat hs) _ _ hl) <| ST (i := 0) [_, _] [_, _] tyS_impl_Priority.sz rfl rfl rfl rfl rfl rfl rfl rfl <| ND <| ret_cv Tryd.func10 (res1 Tryd.func10 rfl (rv_s (i := 0) [_, _] tyS_impl_Priority rfl rfl rfl rfl)) <| ?_
  rfl

theorem spec_l1Pick {w : World} {b cp i : Nat} {A : Option Addr} {l : List UInt8} {h : Int} (hr : Rdb byC w A l b) (hi : i ≤ l.length) {vL : Value} {L : List (List UInt8)} (hE : ∃ A2 cp2, vL = .slice A2 ((L.map mkS)).length cp2 ∧ Rdb strC w A2 (L.map mkS) b) (hL0 : 0 < (L.map mkS).length) (hL1 : (L.map mkS).length ≤ 256) (hL2 : ∀ t ∈ L, t.length ≤ 8) (hin : ∀ c ∈ [cur b A l.length cp i h], c.In w) (hnd : ([cur b A l.length cp i h].map Ck.b).Nodup) : CH Tryd.prog 25 [.pointer (some ⟨b, 0, none⟩), vL] w [cur b A l.length cp i h] (Drew (fun t => Value.string (mkS t)) (fun t => t.length ≤ 8) b A l.length cp []) := by
  obtain ⟨A2, cp2, rfl, hL⟩ := hE
  refine ch_of hin hnd Tryd.func25 rfl rfl rfl <| SQ <| RG <| AS rfl rfl <| ND <| SQ <| RG <| MV rfl rfl <| MV rfl rfl <| MV rfl rfl <| rw_len rfl tyE_S_string rfl <| rw_ch (G := [cur b A l.length cp i h]) (R := []) rfl fun_spec_l1Below rfl (((List.Perm.refl _).trans ((List.Perm.refl _).append_left _))) (fun w hs hin hnd => spec_l1Below (hr.sat hs) hi (n := (L.map mkS).length) hL0 hL1 hin hnd) <| fun v1 ch1 how1 => ?_
  obtain ⟨x1, i1, k1, rfl, hx1, hi1, rfl⟩ := how1
  obtain ⟨x2, hx2⟩ := get_of_lt hx1
  obtain ⟨t, ht, rfl⟩ := str_get hx2
  have hq3 := hL.plain hx2
  refine rw_indexAddr (x1) rfl tyE_S_string rfl rfl rfl (hL.some hx1) hx1 <| rw_loadX _ rfl tyP_string rfl (fun w hs => hq3.ld0 hs rfl) <| AS rfl rfl <| ND <| ?_
  refine ret_ch [cur b A l.length cp i1 k1] Tryd.func25 (res1 Tryd.func25 rfl (rv_tmp rfl)) ?_ ?_
  · exact ⟨t, _, _, rfl, hL2 t (List.mem_of_getElem? ht), hi1, rfl⟩
  · exact List.singleton_sublist.2 (by simp)

theorem spec_DrawParsePriority {w : World} {v : Value} {l : List UInt8} (hv : RdS w 1 (Pl byC) v l) (hl : l.length ≤ 1048576) : CN Tryd.prog 11 [v] w (fun v ch => (∃ t : List UInt8, v = .string (mkS t) ∧ t.length ≤ 64) ∧ ch = []) := by
  obtain ⟨A, cp, rfl, hA⟩ := hv
  refine cn_of Tryd.func11 rfl rfl rfl <| SQ <| RG <| AS rfl rfl <| ND <| SQ <| RG <| MV rfl rfl <| CN1 rfl fun_spec_l1New rfl (fun w hs => spec_l1New (cp := cp) (hA.sat Pl.keeps hs) (by omega)) <| fun v1 ch1 how1 => ?_
  obtain ⟨b1_, k1, rfl, rfl⟩ := how1
  refine AS rfl rfl <| ND <| SQ <| RG <| AS rfl rfl <| ND <| SQ <| SQ <| RG <| MV rfl rfl <| rw_ch (G := [cur b1_ A l.length cp 0 k1]) (R := []) rfl fun_spec_l1Below rfl (((List.Perm.refl _).trans ((List.Perm.refl _).append_left _))) (fun w hs hin hnd => spec_l1Below (Rdb.own (c := cur b1_ A l.length cp 0 k1) hA (by omega) hs (List.mem_append_right _ (List.mem_append_left _ List.mem_cons_self))) (Nat.zero_le _) (n := 4) (by decide) (by decide) hin hnd) <| fun v2 ch2 how2 => ?_
  obtain ⟨x2, i2, k2, rfl, hx2, hi2, rfl⟩ := how2
  refine AS rfl rfl <| ND <| BK <| ?_
  refine gw_loopX (α := Nat × List UInt8 × Nat × Int) (fun z_ => z_.2.1.length + 16 * z_.1 ≤ 64 ∧ z_.2.2.1 ≤ l.length) (fun z_ => z_.1) (fun e z_ => (5, .int .i64 (z_.1 : Int)) :: (4, .string ⟨z_.2.1.toArray⟩) :: e) (fun B _ => B) (fun F z_ => [cur b1_ A l.length cp z_.2.2.1 z_.2.2.2] ++ F.tail) (x2, [], i2, k2) [(2, _), (3, _)] (Sub.consE rfl rfl (Sub.consE rfl rfl (Sub.cons (i := 2) rfl (Sub.cons (i := 3) rfl (Sub.nil _))))) rfl rfl ?_ ?_
  · exact ⟨by simp; omega, hi2⟩
  · rintro ⟨n, s, i, k⟩ hI3 ih3
    dsimp only at hI3
    dsimp only
    obtain ⟨hsl, hi⟩ := hI3
    refine SQ <| SQ <| RG <| MV rfl rfl <| rw_gtr rfl rfl rfl <| ND <| ?_
    refine gw_cond rfl (fun h1 => ?_) (fun h1 => ?_)
    · have hp4 := pos_of h1
      refine SK <| SQ <| BK <| SQ <| RG <| MV rfl rfl <| MV rfl rfl <| rw_sliceO (f := strC) (([[117, 61, 53], [117, 61, 48], [117, 61, 56], [117, 61, 55, 55], [105], [32, 105, 61, 63, 48], [105, 61, 63, 49, 32], [120], [117, 32, 61, 32, 49], [], [73], [117, 61, 55, 59, 97]] : List (List UInt8)).map mkS) [_, _, _, _, _, _, _, _, _, _, _, _] rfl tyM_S_string rfl rfl rfl rfl rfl rfl rfl <| fun v5 ch5 how5 => rw_ch (G := [cur b1_ A l.length cp i k]) (R := ch5 ++ ([])) rfl fun_spec_l1Pick rfl ((((((List.Perm.refl _)).append_left _).trans (pullc _ _ _)).trans ((List.Perm.refl _).append_left _))) (fun w hs hin hnd => spec_l1Pick (Rdb.own (c := cur b1_ A l.length cp i k) hA (by omega) hs (List.mem_append_right _ (List.mem_append_right _ (List.mem_append_left _ List.mem_cons_self)))) hi (lit_rdb (c := cur b1_ A l.length cp i k) eStr how5 (by decide) hs (((((List.Perm.refl _)).append_left _).trans (pullc _ _ _)).trans (((List.Perm.refl _).trans ((List.Perm.refl _).append_left _)).append_left _))) (by decide) (by decide) (by decide) hin hnd) <| fun v6 ch6 how6 => ?_
      obtain ⟨x6, i6, k6, rfl, hx6, hi6, rfl⟩ := how6
      refine rw_catS rfl rfl rfl (by first | omega | (simp; omega)) (by omega) <| AS rfl rfl <| ND <| SQ <| RG <| MV rfl rfl <| rw_gtr rfl rfl rfl <| ND <| ?_
      refine gw_cond rfl (fun h2 => ?_) (fun h2 => ?_)
      · refine RG <| MV rfl rfl <| MV rfl rfl <| rw_sliceO (f := strC) (([[44], [44, 32], [59]] : List (List UInt8)).map mkS) [_, _, _] rfl tyM_S_string rfl rfl rfl rfl rfl rfl rfl <| fun v7 ch7 how7 => rw_ch (G := [cur b1_ A l.length cp i6 k6]) (R := ch7 ++ (ch5 ++ ([]))) rfl fun_spec_l1Pick rfl ((((((List.Perm.refl _)).append_left _).trans (pullc _ _ _)).trans ((List.Perm.refl _).append_left _))) (fun w hs hin hnd => spec_l1Pick (Rdb.own (c := cur b1_ A l.length cp i6 k6) hA (by omega) hs (List.mem_append_right _ (List.mem_append_right _ (List.mem_append_left _ List.mem_cons_self)))) hi6 (lit_rdb (c := cur b1_ A l.length cp i6 k6) eStr how7 (by decide) hs (((((List.Perm.refl _)).append_left _).trans (pullc _ _ _)).trans (((List.Perm.refl _).trans ((List.Perm.refl _).append_left _)).append_left _))) (by decide) (by decide) (by decide) hin hnd) <| fun v8 ch8 how8 => ?_
        obtain ⟨x8, i8, k8, rfl, hx8, hi8, rfl⟩ := how8
        refine rw_catS rfl rfl rfl (by first | omega | (simp; omega)) (by omega) <| AS rfl rfl <| ND <| IB <| RG <| MV rfl rfl <| rw_sub rfl rfl rfl <| AS rfl rfl <| ND <| gw_dropF (F' := [cur b1_ A l.length cp i8 k8] ++ []) (by simp) <| ?_
        refine gw_sub (Sub.consE (i := 5) rfl (int_pred hp4 (by omega)) (Sub.consE (i := 4) rfl rfl (Sub.cons (i := 2) rfl (Sub.cons (i := 3) rfl (Sub.nil _))))) (ih3 (n - 1, ((s ++ x6) ++ x8), i8, k8) ?_ ?_)
        · exact ⟨by simp; omega, by omega⟩
        · show n - 1 < n; omega
      · refine SK <| IB <| RG <| MV rfl rfl <| rw_sub rfl rfl rfl <| AS rfl rfl <| ND <| gw_dropF (F' := [cur b1_ A l.length cp i6 k6] ++ []) (by simp) <| ?_
        refine gw_sub (Sub.consE (i := 5) rfl (int_pred hp4 (by omega)) (Sub.consE (i := 4) rfl rfl (Sub.cons (i := 2) rfl (Sub.cons (i := 3) rfl (Sub.nil _))))) (ih3 (n - 1, (s ++ x6), i6, k6) ?_ ?_)
        · exact ⟨by simp; omega, by omega⟩
        · show n - 1 < n; omega
    · have hz9 := zero_of h1
      refine EX rfl <| SQ <| RG <| MV rfl rfl <| AS rfl rfl <| ND <| ?_
      refine ret_cn [] Tryd.func11 (res1 Tryd.func11 rfl (rv_tmp rfl)) ?_ ?_
      · exact ⟨⟨_, rfl, by omega⟩, rfl⟩
      · simp

theorem spec_DrawMergePriority {w : World} {v : Value} {l : List UInt8} (hv : RdS w 1 (Pl byC) v l) (hl : l.length ≤ 1048576) : CN Tryd.prog 12 [v] w (fun v ch => (∃ (p : Priority) (t : List UInt8), v = .tuple #[.agg p.cells.toArray, .string (mkS t)] ∧ t.length ≤ 64) ∧ ch = []) := by
  obtain ⟨A, cp, rfl, hA⟩ := hv
  refine cn_of Tryd.func12 rfl rfl rfl <| SQ <| RG <| AL rfl tyZ_impl_Priority <| fun b1 => AS rfl rfl <| ND <| SQ <| RG <| MV rfl rfl <| CN1 rfl fun_spec_l1New rfl (fun w hs => spec_l1New (cp := cp) (hA.sat Pl.keeps hs) (by omega)) <| fun v1 ch1 how1 => ?_
  obtain ⟨b1_, k1, rfl, rfl⟩ := how1
  refine rw_ch (G := [cur b1_ A l.length cp 0 k1]) (R := []) rfl fun_spec_l13Any rfl (((List.Perm.refl _).trans ((List.Perm.refl _).append_left _))) (fun w hs hin hnd => spec_l13Any (Rdb.own (c := cur b1_ A l.length cp 0 k1) hA (by omega) hs (List.mem_append_right _ (List.mem_append_left _ List.mem_cons_self))) (Nat.zero_le _) hin hnd) <| fun v2 ch2 how2 => ?_
  obtain ⟨x2, i2, k2, rfl, hx2, hi2, rfl⟩ := how2
  refine MV rfl rfl <| CN1 rfl fun_spec_DrawParsePriority rfl (fun w hs => spec_DrawParsePriority (hA.s Pl.keeps hs) hl) <| fun v3 ch3 how3 => ?_
  obtain ⟨⟨t3, rfl, ht3⟩, rfl⟩ := how3
  refine rw_F (F' := [cur b1_ A l.length cp i2 k2] ++ ([])) rfl <| ST (i := 0) [_, _] [_, _] tyS_impl_Priority.sz rfl rfl rfl rfl rfl rfl rfl rfl <| AS rfl rfl <| ND <| ?_
  refine ret_cn [] Tryd.func12 (res2 Tryd.func12 rfl (rv_s (i := 0) [_, _] tyS_impl_Priority rfl rfl rfl rfl) (rv_tmp rfl)) ?_ ?_
  · exact ⟨⟨⟨_, _⟩, _, rfl, ht3⟩, rfl⟩
  · simp

theorem spec_DefaultPriority (w : World) : CV Tryd.prog 17 [] w (.agg defaultPriority.cells.toArray) := by
  refine cv_of Tryd.func17 rfl rfl rfl <| SQ <| RG <| AL rfl tyZ_impl_Priority <| fun b1 => ND <| SQ <| RG <| rw_build [_, _] rfl tyB_impl_Priority tyZ_impl_Priority rfl rfl <| ST (i := 0) [_, _] [_, _] tyS_impl_Priority.sz rfl rfl rfl rfl rfl rfl rfl rfl <| ND <| ret_cv Tryd.func17 (res1 Tryd.func17 rfl (rv_s (i := 0) [_, _] tyS_impl_Priority rfl rfl rfl rfl)) <| ?_
  rfl

theorem spec_l13Cut (l : List UInt8) (hl : l.length ≤ 1048576) (w : World) : CN Tryd.prog 28 [.string ⟨l.toArray⟩, .int .u8 44] w (fun v ch => OwS 9 1 (PlO strC) v ((pieces l).map mkS) ch) := by
  refine cn_of Tryd.func28 rfl rfl rfl <| SQ <| RG <| AS rfl rfl <| ND <| SQ <| RG <| rw_slice0 rfl tyM_S_string (PlO strC) <| fun v1 how1 => AS rfl rfl <| ND <| SQ <| RG <| AS rfl rfl <| ND <| SQ <| SQ <| RG <| AS rfl rfl <| ND <| BK <| ?_
  refine gw_loopX (α := Nat × List UInt8 × List (List UInt8) × Value × List Ck) (fun z_ => z_.1 ≤ l.length ∧ z_.2.2.1.length ≤ z_.1 ∧ z_.2.1.length ≤ z_.1 ∧ OwA 9 1 (PlO strC) z_.2.2.2.1 (z_.2.2.1.map mkS) z_.2.2.2.2 ∧ pieces l = z_.2.2.1 ++ cutFrom 44 z_.2.1 (l.drop z_.1)) (fun z_ => l.length - z_.1) (fun e z_ => (7, .int .i64 (z_.1 : Int)) :: (6, .string ⟨z_.2.1.toArray⟩) :: (5, z_.2.2.2.1) :: e) (fun B _ => B) (fun F z_ => z_.2.2.2.2 ++ F) (0, [], [], v1, []) [(0, _), (1, _), (4, _)] (Sub.consE rfl rfl (Sub.consE rfl rfl (Sub.consE rfl rfl (Sub.cons (i := 0) rfl (Sub.cons (i := 1) rfl (Sub.cons (i := 4) rfl (Sub.nil _))))))) rfl rfl ?_ ?_
  · exact ⟨Nat.zero_le _, Nat.le_refl _, Nat.le_refl _, how1, rfl⟩
  · rintro ⟨i, p, o, v, ch⟩ hI2 ih2
    dsimp only at hI2
    dsimp only
    obtain ⟨hle, ho, hp, hO, hI⟩ := hI2
    refine SQ <| SQ <| RG <| MV rfl rfl <| MV rfl rfl <| rw_lenL rfl tyStr_string rfl <| rw_lss rfl rfl rfl <| ND <| ?_
    refine gw_cond rfl (fun h1 => ?_) (fun h1 => ?_)
    · have hi3 := lt_of_dec h1
      obtain ⟨x4, hx4⟩ := get_of_lt hi3
      have hd4 := drop_cons hx4
      refine SK <| SQ <| BK <| SQ <| RG <| MV rfl rfl <| MV rfl rfl <| rw_idxL i rfl tyStr_string rfl rfl rfl hx4 <| MV rfl rfl <| EQ1 rfl rfl rfl <| ND <| ?_
      refine gw_cond rfl (fun h2 => ?_) (fun h2 => ?_)
      · have hb5 := byte_eq (c := 44) h2
        refine SQ <| RG <| MV rfl rfl <| MV rfl rfl <| rw_slice (xs := [(0, _)]) [_] rfl tyM_S_string rfl rfl rfl rfl <| fun b1 => rw_append1 (i := 0) (a := (mkS p)) rfl tyM_S_string eStr rfl rfl rfl hO ⟨rfl, rfl⟩ (.refl _) (by simp; omega) <| fun v6 ch6 how6 => AS rfl rfl <| ND <| RG <| AS rfl rfl <| ND <| IB <| RG <| MV rfl rfl <| rw_add rfl rfl rfl <| AS rfl rfl <| ND <| gw_dropN 1 <| ?_
        refine gw_sub (Sub.consE (i := 7) rfl (int_succ (by omega)) (Sub.consE (i := 6) rfl rfl (Sub.consE (i := 5) rfl rfl (Sub.cons (i := 0) rfl (Sub.cons (i := 1) rfl (Sub.cons (i := 4) rfl (Sub.nil _))))))) (ih2 (i + 1, [], o ++ [p], v6, ch6) ?_ ?_)
        · exact ⟨by omega, by simp; omega, by simp, by simpa using how6, by rw [hI, hd4]; simp [cutFrom, hb5]⟩
        · show l.length - (i + 1) < l.length - i; omega
      · have hb7 := byte_eq (c := 44) h2
        refine RG <| MV rfl rfl <| MV rfl rfl <| MV rfl rfl <| MV rfl rfl <| rw_add rfl rfl rfl <| rw_sliceL i (i + 1) [x4] rfl tyStr_string rfl rfl rfl rfl (succ_of (by omega)) (by omega) (by omega) (slice_one hx4) <| rw_catS rfl rfl rfl (by omega) (by simp) <| AS rfl rfl <| ND <| IB <| RG <| MV rfl rfl <| rw_add rfl rfl rfl <| AS rfl rfl <| ND <| ?_
        refine gw_sub (Sub.consE (i := 7) rfl (int_succ (by omega)) (Sub.consE (i := 6) rfl rfl (Sub.consE (i := 5) rfl rfl (Sub.cons (i := 0) rfl (Sub.cons (i := 1) rfl (Sub.cons (i := 4) rfl (Sub.nil _))))))) (ih2 (i + 1, p ++ [x4], o, v, ch) ?_ ?_)
        · exact ⟨by omega, show o.length ≤ i + 1 by omega, by simp; omega, hO, by rw [hI, hd4]; simp [cutFrom, hb7]⟩
        · show l.length - (i + 1) < l.length - i; omega
    · have hn8 := nil_of_dec h1
      refine EX rfl <| SQ <| RG <| MV rfl rfl <| MV rfl rfl <| rw_slice (xs := [(0, _)]) [_] rfl tyM_S_string rfl rfl rfl rfl <| fun b2 => rw_append1 (i := 0) (a := (mkS p)) rfl tyM_S_string eStr rfl rfl rfl hO ⟨rfl, rfl⟩ (.refl _) (by simp; omega) <| fun v9 ch9 how9 => AS rfl rfl <| ND <| ?_
      refine ret_cn ch9 Tryd.func28 (res1 Tryd.func28 rfl (rv_tmp rfl)) ?_ ?_
      · rw [cut_done hI hn8]; exact OwA.s (by simpa using how9)
      · simp

theorem spec_l13Trim (l : List UInt8) (hl : l.length ≤ 134217728) (w : World) : CV Tryd.prog 29 [.string ⟨l.toArray⟩] w (.string ⟨(trim l).toArray⟩) := by
  refine cv_of Tryd.func29 rfl rfl rfl <| SQ <| RG <| AS rfl rfl <| ND <| SQ <| BK <| ?_
  refine gw_loopC (α := List UInt8) (fun z_ => z_.length ≤ l.length ∧ trimL l = trimL z_) (fun z_ => z_.length) (fun e z_ => (0, .string ⟨z_.toArray⟩) :: e) l [(2, _)] (Sub.consE rfl rfl (Sub.cons (i := 2) rfl (Sub.nil _))) ?_ ?_
  · exact ⟨Nat.le_refl _, rfl⟩
  · rintro t hI1 ih1
    try dsimp only
    obtain ⟨hle, hI⟩ := hI1
    refine SQ <| SQ <| RG <| MV rfl rfl <| rw_lenL rfl tyStr_string rfl <| rw_gtr rfl rfl rfl <| MV rfl rfl <| ?_
    refine rw_case (j := 6) rfl (fun h1 => ?_) (fun h1 => ?_)
    · have hp2 := pos_of h1
      obtain ⟨x2, hx2⟩ := get_of_lt (show 0 < t.length by omega)
      refine ON rfl rfl h1 <| MV rfl rfl <| ON rfl rfl h1 <| rw_idxL 0 rfl tyStr_string rfl rfl rfl hx2 <| ON rfl rfl h1 <| EQ1 rfl rfl rfl <| PT rfl rfl h1 rfl <| ND <| ?_
      refine gw_cond rfl (fun h2 => ?_) (fun h2 => ?_)
      · have hb3 := byte_eq (c := 32) h2
        refine SK <| BK <| RG <| MV rfl rfl <| rw_sliceW 1 rfl tyStr_string rfl rfl rfl (by omega) <| AS rfl rfl <| ND <| IB <| ?_
        refine gw_sub (Sub.consE (i := 0) rfl rfl (Sub.cons (i := 2) rfl (Sub.nil _))) (ih1 (t.drop 1) ?_ ?_)
        · exact ⟨by simp; omega, by rw [hI, trimL_step hx2 hb3]⟩
        · show (t.drop 1).length < t.length; simp; omega
      · have hb4 := byte_eq (c := 32) h2
        refine EX rfl <| SQ <| BK <| ?_
        refine gw_loopC (α := List UInt8) (fun z_ => z_.length ≤ l.length ∧ trim l = trimR z_) (fun z_ => z_.length) (fun e z_ => (0, .string ⟨z_.toArray⟩) :: e) t [(2, _)] (Sub.consE rfl rfl (Sub.cons (i := 2) rfl (Sub.nil _))) ?_ ?_
        · exact ⟨by omega, by rw [trim, hI, trimL_stop hx2 hb4]⟩
        · rintro u hI5 ih5
          try dsimp only
          obtain ⟨hle2, hI2⟩ := hI5
          refine SQ <| SQ <| RG <| MV rfl rfl <| rw_lenL rfl tyStr_string rfl <| rw_gtr rfl rfl rfl <| MV rfl rfl <| ?_
          refine rw_case (j := 16) rfl (fun h3 => ?_) (fun h3 => ?_)
          · have hp6 := pos_of h3
            obtain ⟨x6, hx6⟩ := get_of_lt (show (u.length - 1) < u.length by omega)
            refine ON rfl rfl h3 <| MV rfl rfl <| ON rfl rfl h3 <| MV rfl rfl <| ON rfl rfl h3 <| rw_lenL rfl tyStr_string rfl <| ON rfl rfl h3 <| rw_sub rfl rfl rfl <| ON rfl rfl h3 <| rw_idxL (u.length - 1) rfl tyStr_string rfl rfl (lenpredS hp6 (by omega)) hx6 <| ON rfl rfl h3 <| EQ1 rfl rfl rfl <| PT rfl rfl h3 rfl <| ND <| ?_
            refine gw_cond rfl (fun h4 => ?_) (fun h4 => ?_)
            · have hb7 := byte_eq (c := 32) h4
              refine SK <| BK <| RG <| MV rfl rfl <| MV rfl rfl <| rw_lenL rfl tyStr_string rfl <| rw_sub rfl rfl rfl <| rw_sliceH (u.length - 1) (u.take (u.length - 1)) rfl tyStr_string rfl rfl (lenpredS hp6 (by omega)) (by omega) rfl <| AS rfl rfl <| ND <| IB <| ?_
              refine gw_sub (Sub.consE (i := 0) rfl rfl (Sub.cons (i := 2) rfl (Sub.nil _))) (ih5 (u.take (u.length - 1)) ?_ ?_)
              · exact ⟨by simp; omega, by rw [hI2, trimR_step hx6 hb7]⟩
              · show (u.take (u.length - 1)).length < u.length; simp; omega
            · have hb8 := byte_eq (c := 32) h4
              refine EX rfl <| SQ <| RG <| MV rfl rfl <| AS rfl rfl <| ND <| ret_cv Tryd.func29 (res1 Tryd.func29 rfl (rv_tmp rfl)) <| ?_
              rw [hI2, trimR_stop hx6 hb8]
          · have hz9 := zero_of h3
            refine OF rfl rfl h3 rfl <| OF rfl rfl h3 rfl <| OF rfl rfl h3 rfl <| OF rfl rfl h3 rfl <| OF rfl rfl h3 rfl <| OF rfl rfl h3 rfl <| PF rfl rfl h3 rfl <| ND <| CF rfl rfl <| EX rfl <| SQ <| RG <| MV rfl rfl <| AS rfl rfl <| ND <| ret_cv Tryd.func29 (res1 Tryd.func29 rfl (rv_tmp rfl)) <| ?_
            rw [hI2, trimR_none hz9]
    · have hz10 := zero_of h1
      refine OF rfl rfl h1 rfl <| OF rfl rfl h1 rfl <| OF rfl rfl h1 rfl <| PF rfl rfl h1 rfl <| ND <| CF rfl rfl <| EX rfl <| SQ <| BK <| ?_
      refine gw_loopC (α := List UInt8) (fun z_ => z_.length ≤ l.length ∧ trim l = trimR z_) (fun z_ => z_.length) (fun e z_ => (0, .string ⟨z_.toArray⟩) :: e) t [(2, _)] (Sub.consE rfl rfl (Sub.cons (i := 2) rfl (Sub.nil _))) ?_ ?_
      · exact ⟨by omega, by rw [trim, hI, trimL_none hz10]⟩
      · rintro u hI11 ih11
        try dsimp only
        obtain ⟨hle2, hI2⟩ := hI11
        refine SQ <| SQ <| RG <| MV rfl rfl <| rw_lenL rfl tyStr_string rfl <| rw_gtr rfl rfl rfl <| MV rfl rfl <| ?_
        refine rw_case (j := 16) rfl (fun h5 => ?_) (fun h5 => ?_)
        · have hp12 := pos_of h5
          obtain ⟨x12, hx12⟩ := get_of_lt (show (u.length - 1) < u.length by omega)
          refine ON rfl rfl h5 <| MV rfl rfl <| ON rfl rfl h5 <| MV rfl rfl <| ON rfl rfl h5 <| rw_lenL rfl tyStr_string rfl <| ON rfl rfl h5 <| rw_sub rfl rfl rfl <| ON rfl rfl h5 <| rw_idxL (u.length - 1) rfl tyStr_string rfl rfl (lenpredS hp12 (by omega)) hx12 <| ON rfl rfl h5 <| EQ1 rfl rfl rfl <| PT rfl rfl h5 rfl <| ND <| ?_
          refine gw_cond rfl (fun h6 => ?_) (fun h6 => ?_)
          · have hb13 := byte_eq (c := 32) h6
            refine SK <| BK <| RG <| MV rfl rfl <| MV rfl rfl <| rw_lenL rfl tyStr_string rfl <| rw_sub rfl rfl rfl <| rw_sliceH (u.length - 1) (u.take (u.length - 1)) rfl tyStr_string rfl rfl (lenpredS hp12 (by omega)) (by omega) rfl <| AS rfl rfl <| ND <| IB <| ?_
            refine gw_sub (Sub.consE (i := 0) rfl rfl (Sub.cons (i := 2) rfl (Sub.nil _))) (ih11 (u.take (u.length - 1)) ?_ ?_)
            · exact ⟨by simp; omega, by rw [hI2, trimR_step hx12 hb13]⟩
            · show (u.take (u.length - 1)).length < u.length; simp; omega
          · have hb14 := byte_eq (c := 32) h6
            refine EX rfl <| SQ <| RG <| MV rfl rfl <| AS rfl rfl <| ND <| ret_cv Tryd.func29 (res1 Tryd.func29 rfl (rv_tmp rfl)) <| ?_
            rw [hI2, trimR_stop hx12 hb14]
        · have hz15 := zero_of h5
          refine OF rfl rfl h5 rfl <| OF rfl rfl h5 rfl <| OF rfl rfl h5 rfl <| OF rfl rfl h5 rfl <| OF rfl rfl h5 rfl <| OF rfl rfl h5 rfl <| PF rfl rfl h5 rfl <| ND <| CF rfl rfl <| EX rfl <| SQ <| RG <| MV rfl rfl <| AS rfl rfl <| ND <| ret_cv Tryd.func29 (res1 Tryd.func29 rfl (rv_tmp rfl)) <| ?_
          rw [hI2, trimR_none hz15]

theorem spec_MergePriority (base : Priority) (l : List UInt8) (hl : l.length ≤ 1048576) (w : World) : CV Tryd.prog 15 [.agg base.cells.toArray, .string ⟨l.toArray⟩] w (.agg (mergePriority base l).cells.toArray) := by
  have hpl := pieces_len l
  have hml : ((pieces l).map mkS).length = (pieces l).length := List.length_map ..
  refine cv_of Tryd.func15 rfl rfl rfl <| SQ <| RG <| BX [_, _] rfl rfl rfl <| fun b1 => AL rfl tyZ_impl_Priority <| fun b2 => ND <| SQ <| SQ <| RG <| LS (i := 1) [_, _] rfl tyS_impl_Priority rfl rfl rfl rfl <| CV1 rfl fun_spec_IsPriority rfl (fun w hs => spec_IsPriority _ w) <| NT rfl rfl <| ND <| ?_
  refine gw_cond rfl (fun h1 => ?_) (fun h1 => ?_)
  · replace h1 := of_not_T h1
    refine RG <| CV1 rfl fun_spec_DefaultPriority rfl (fun w hs => spec_DefaultPriority w) <| ST (i := 1) [_, _] [_, _] tyS_impl_Priority.sz rfl rfl rfl rfl rfl rfl rfl rfl <| ND <| SQ <| RG <| MV rfl rfl <| CN1 rfl fun_spec_l13Cut rfl (fun w hs => spec_l13Cut l hl w) <| fun v1 ch1 how1 => ?_
    obtain ⟨R1, rc1, rfl, hR1, hrd1⟩ := how1.shape eStr
    refine AS rfl rfl <| ND <| SQ <| SQ <| RG <| AS rfl rfl <| ND <| BK <| ?_
    refine gw_loopX (α := Nat × Priority) (fun z_ => z_.1 ≤ (pieces l).length ∧ mergeFrom defaultPriority (pieces l) = mergeFrom z_.2 ((pieces l).drop z_.1)) (fun z_ => (pieces l).length - z_.1) (fun e z_ => (6, .int .i64 (z_.1 : Int)) :: e) (fun B z_ => B.set 1 ⟨b1, 25, z_.2.cells⟩) (fun F _ => F) (0, defaultPriority) [(2, _), (4, _), (5, _)] (Sub.consE rfl rfl (Sub.cons (i := 2) rfl (Sub.cons (i := 4) rfl (Sub.cons (i := 5) rfl (Sub.nil _))))) rfl rfl ?_ ?_
    · exact ⟨Nat.zero_le _, rfl⟩
    · rintro ⟨i, p⟩ hI2 ih2
      dsimp only at hI2
      dsimp only [List.set]
      obtain ⟨hle, hI⟩ := hI2
      refine SQ <| SQ <| RG <| MV rfl rfl <| MV rfl rfl <| rw_len rfl tyE_S_string rfl <| rw_lss rfl rfl rfl <| ND <| ?_
      refine gw_cond rfl (fun h2 => ?_) (fun h2 => ?_)
      · have hi3 := lt_of_dec h2
        obtain ⟨x4, hx4⟩ := get_of_lt hi3
        obtain ⟨t, ht, rfl⟩ := str_get hx4
        refine SK <| SQ <| BK <| SQ <| RG <| MV rfl rfl <| MV rfl rfl <| rw_indexAddr (i) rfl tyE_S_string rfl rfl rfl (hR1 (Nat.zero_lt_of_lt hi3)) hi3 <| rw_loadX _ rfl tyP_string rfl (fun w hs => ((hrd1 _ (fun c hc => hs.at_ c (List.mem_append_right _ (List.mem_append_left _ hc)))).plain hx4).cell0 rfl) <| CV1 rfl fun_spec_l13Trim rfl (fun w hs => spec_l13Trim _ (Nat.le_trans (pieces_mem ht) (by omega)) w) <| AS rfl rfl <| ND <| BK <| SQ <| RG <| MV rfl rfl <| rw_eqlL rfl rfl rfl <| MV rfl rfl <| ?_
        refine rw_case (j := 28) rfl (fun h3 => ?_) (fun h3 => ?_)
        · refine OF rfl rfl h3 rfl <| OF rfl rfl h3 rfl <| PT rfl rfl h3 rfl <| AS rfl rfl <| ND <| CT rfl rfl <| RG <| FA rfl tyF_impl_Priority_1 rfl <| ST (i := 1) [_] [_, _] tyP_bool.sz rfl rfl rfl rfl rfl rfl rfl rfl <| ND <| IB <| IB <| RG <| MV rfl rfl <| rw_add rfl rfl rfl <| AS rfl rfl <| ND <| ?_
          refine gw_sub (Sub.consE (i := 6) rfl (int_succ (by omega)) (Sub.cons (i := 2) rfl (Sub.cons (i := 4) rfl (Sub.cons (i := 5) rfl (Sub.nil _))))) (ih2 (i + 1, { p with incremental := true }) ?_ ?_)
          · exact ⟨by omega, by rw [hI, merge_step ht (step_on h3)]⟩
          · show (pieces l).length - (i + 1) < (pieces l).length - i; omega
        · refine ON rfl rfl h3 <| MV rfl rfl <| ON rfl rfl h3 <| rw_eqlL rfl rfl rfl <| PF rfl rfl h3 rfl <| AS rfl rfl <| ND <| ?_
          refine gw_cond rfl (fun h4 => ?_) (fun h4 => ?_)
          · refine RG <| FA rfl tyF_impl_Priority_1 rfl <| ST (i := 1) [_] [_, _] tyP_bool.sz rfl rfl rfl rfl rfl rfl rfl rfl <| ND <| IB <| IB <| RG <| MV rfl rfl <| rw_add rfl rfl rfl <| AS rfl rfl <| ND <| ?_
            refine gw_sub (Sub.consE (i := 6) rfl (int_succ (by omega)) (Sub.cons (i := 2) rfl (Sub.cons (i := 4) rfl (Sub.cons (i := 5) rfl (Sub.nil _))))) (ih2 (i + 1, { p with incremental := true }) ?_ ?_)
            · exact ⟨by omega, by rw [hI, merge_step ht (step_on2 h3 h4)]⟩
            · show (pieces l).length - (i + 1) < (pieces l).length - i; omega
          · refine SQ <| RG <| MV rfl rfl <| rw_eqlL rfl rfl rfl <| AS rfl rfl <| ND <| ?_
            refine gw_cond rfl (fun h5 => ?_) (fun h5 => ?_)
            · refine RG <| FA rfl tyF_impl_Priority_1 rfl <| ST (i := 1) [_] [_, _] tyP_bool.sz rfl rfl rfl rfl rfl rfl rfl rfl <| ND <| IB <| IB <| RG <| MV rfl rfl <| rw_add rfl rfl rfl <| AS rfl rfl <| ND <| ?_
              refine gw_sub (Sub.consE (i := 6) rfl (int_succ (by omega)) (Sub.cons (i := 2) rfl (Sub.cons (i := 4) rfl (Sub.cons (i := 5) rfl (Sub.nil _))))) (ih2 (i + 1, { p with incremental := false }) ?_ ?_)
              · exact ⟨by omega, by rw [hI, merge_step ht (step_off h3 h4 h5)]⟩
              · show (pieces l).length - (i + 1) < (pieces l).length - i; omega
            · refine SQ <| RG <| MV rfl rfl <| rw_lenL rfl tyStr_string rfl <| EQ1 rfl rfl rfl <| MV rfl rfl <| ?_
              refine rw_case (j := 41) rfl (fun h6 => ?_) (fun h6 => ?_)
              · obtain ⟨ba5, bb5, bc5, he5⟩ := three_of h6
                refine ON rfl rfl h6 <| MV rfl rfl <| ON rfl rfl h6 <| rw_sliceH 2 [ba5, bb5] rfl tyStr_string rfl rfl rfl (by rw [he5]; simp) (by rw [he5]; rfl) <| ON rfl rfl h6 <| rw_eqlL rfl rfl rfl <| PT rfl rfl h6 rfl <| MV rfl rfl <| ?_
                refine rw_case (j := 46) rfl (fun h7 => ?_) (fun h7 => ?_)
                · refine ON rfl rfl h7 <| MV rfl rfl <| ON rfl rfl h7 <| rw_idxL 2 rfl tyStr_string rfl rfl rfl (by rw [he5]; rfl) <| ON rfl rfl h7 <| rw_geq rfl rfl rfl <| PT rfl rfl h7 rfl <| MV rfl rfl <| ?_
                  refine rw_case (j := 51) rfl (fun h8 => ?_) (fun h8 => ?_)
                  · refine ON rfl rfl h8 <| MV rfl rfl <| ON rfl rfl h8 <| rw_idxL 2 rfl tyStr_string rfl rfl rfl (by rw [he5]; rfl) <| ON rfl rfl h8 <| rw_leq rfl rfl rfl <| PT rfl rfl h8 rfl <| AS rfl rfl <| ND <| ?_
                    refine gw_cond rfl (fun h9 => ?_) (fun h9 => ?_)
                    · refine RG <| MV rfl rfl <| rw_idxL 2 rfl tyStr_string rfl rfl rfl (by rw [he5]; rfl) <| rw_sub rfl rfl rfl <| rw_convI rfl tyCI_uint8_int rfl <| FA rfl tyF_impl_Priority_0 rfl <| ST (i := 1) [_] [_, _] tyP_int.sz rfl rfl rfl rfl rfl rfl rfl rfl <| ND <| IB <| IB <| RG <| MV rfl rfl <| rw_add rfl rfl rfl <| AS rfl rfl <| ND <| ?_
                      refine gw_sub (Sub.consE (i := 6) rfl (int_succ (by omega)) (Sub.cons (i := 2) rfl (Sub.cons (i := 4) rfl (Sub.cons (i := 5) rfl (Sub.nil _))))) (ih2 (i + 1, { p with urgency := IntKind.i64.wrap (IntKind.u8.wrap ((bc5.toNat : Int) - 48)) }) ?_ ?_)
                      · exact ⟨by omega, by rw [hI, merge_step ht (step_set h3 h4 h5 he5 h7 h8 h9)]⟩
                      · show (pieces l).length - (i + 1) < (pieces l).length - i; omega
                    · refine SK <| IB <| IB <| RG <| MV rfl rfl <| rw_add rfl rfl rfl <| AS rfl rfl <| ND <| ?_
                      refine gw_sub (Sub.consE (i := 6) rfl (int_succ (by omega)) (Sub.cons (i := 2) rfl (Sub.cons (i := 4) rfl (Sub.cons (i := 5) rfl (Sub.nil _))))) (ih2 (i + 1, p) ?_ ?_)
                      · exact ⟨by omega, by rw [hI, merge_step ht (step_hi h3 h4 h5 he5 h9)]⟩
                      · show (pieces l).length - (i + 1) < (pieces l).length - i; omega
                  · refine OF rfl rfl h8 rfl <| OF rfl rfl h8 rfl <| OF rfl rfl h8 rfl <| PF rfl rfl h8 rfl <| AS rfl rfl <| ND <| CF rfl rfl <| SK <| IB <| IB <| RG <| MV rfl rfl <| rw_add rfl rfl rfl <| AS rfl rfl <| ND <| ?_
                    refine gw_sub (Sub.consE (i := 6) rfl (int_succ (by omega)) (Sub.cons (i := 2) rfl (Sub.cons (i := 4) rfl (Sub.cons (i := 5) rfl (Sub.nil _))))) (ih2 (i + 1, p) ?_ ?_)
                    · exact ⟨by omega, by rw [hI, merge_step ht (step_lo h3 h4 h5 he5 h8)]⟩
                    · show (pieces l).length - (i + 1) < (pieces l).length - i; omega
                · refine OF rfl rfl h7 rfl <| OF rfl rfl h7 rfl <| OF rfl rfl h7 rfl <| PF rfl rfl h7 rfl <| MV rfl rfl <| OF rfl rfl rfl rfl <| OF rfl rfl rfl rfl <| OF rfl rfl rfl rfl <| PF rfl rfl rfl rfl <| AS rfl rfl <| ND <| CF rfl rfl <| SK <| IB <| IB <| RG <| MV rfl rfl <| rw_add rfl rfl rfl <| AS rfl rfl <| ND <| ?_
                  refine gw_sub (Sub.consE (i := 6) rfl (int_succ (by omega)) (Sub.cons (i := 2) rfl (Sub.cons (i := 4) rfl (Sub.cons (i := 5) rfl (Sub.nil _))))) (ih2 (i + 1, p) ?_ ?_)
                  · exact ⟨by omega, by rw [hI, merge_step ht (step_u h3 h4 h5 he5 h7)]⟩
                  · show (pieces l).length - (i + 1) < (pieces l).length - i; omega
              · refine OF rfl rfl h6 rfl <| OF rfl rfl h6 rfl <| OF rfl rfl h6 rfl <| PF rfl rfl h6 rfl <| MV rfl rfl <| OF rfl rfl rfl rfl <| OF rfl rfl rfl rfl <| OF rfl rfl rfl rfl <| PF rfl rfl rfl rfl <| MV rfl rfl <| OF rfl rfl rfl rfl <| OF rfl rfl rfl rfl <| OF rfl rfl rfl rfl <| PF rfl rfl rfl rfl <| AS rfl rfl <| ND <| CF rfl rfl <| SK <| IB <| IB <| RG <| MV rfl rfl <| rw_add rfl rfl rfl <| AS rfl rfl <| ND <| ?_
                refine gw_sub (Sub.consE (i := 6) rfl (int_succ (by omega)) (Sub.cons (i := 2) rfl (Sub.cons (i := 4) rfl (Sub.cons (i := 5) rfl (Sub.nil _))))) (ih2 (i + 1, p) ?_ ?_)
                · exact ⟨by omega, by rw [hI, merge_step ht (step_len h3 h4 h5 h6)]⟩
                · show (pieces l).length - (i + 1) < (pieces l).length - i; omega
      · have hn6 := nil_of_dec h2
        refine EX rfl <| SQ <| RG <| LS (i := 1) [_, _] rfl tyS_impl_Priority rfl rfl rfl rfl <| ST (i := 0) [_, _] [_, _] tyS_impl_Priority.sz rfl rfl rfl rfl rfl rfl rfl rfl <| ND <| ret_cv Tryd.func15 (res1 Tryd.func15 rfl (rv_s (i := 0) [_, _] tyS_impl_Priority rfl rfl rfl rfl)) <| ?_
        have e : mergePriority base l = p := by rw [mergePriority, h1]; exact hI.trans (merge_done hn6)
        rw [e]; rfl
  · replace h1 := of_not_F h1
    refine SK <| SQ <| RG <| MV rfl rfl <| CN1 rfl fun_spec_l13Cut rfl (fun w hs => spec_l13Cut l hl w) <| fun v7 ch7 how7 => ?_
    obtain ⟨R7, rc7, rfl, hR7, hrd7⟩ := how7.shape eStr
    refine AS rfl rfl <| ND <| SQ <| SQ <| RG <| AS rfl rfl <| ND <| BK <| ?_
    refine gw_loopX (α := Nat × Priority) (fun z_ => z_.1 ≤ (pieces l).length ∧ mergeFrom base (pieces l) = mergeFrom z_.2 ((pieces l).drop z_.1)) (fun z_ => (pieces l).length - z_.1) (fun e z_ => (6, .int .i64 (z_.1 : Int)) :: e) (fun B z_ => B.set 1 ⟨b1, 25, z_.2.cells⟩) (fun F _ => F) (0, base) [(2, _), (4, _), (5, _)] (Sub.consE rfl rfl (Sub.cons (i := 2) rfl (Sub.cons (i := 4) rfl (Sub.cons (i := 5) rfl (Sub.nil _))))) rfl rfl ?_ ?_
    · exact ⟨Nat.zero_le _, rfl⟩
    · rintro ⟨i, p⟩ hI8 ih8
      dsimp only at hI8
      dsimp only [List.set]
      obtain ⟨hle, hI⟩ := hI8
      refine SQ <| SQ <| RG <| MV rfl rfl <| MV rfl rfl <| rw_len rfl tyE_S_string rfl <| rw_lss rfl rfl rfl <| ND <| ?_
      refine gw_cond rfl (fun h10 => ?_) (fun h10 => ?_)
      · have hi9 := lt_of_dec h10
        obtain ⟨x10, hx10⟩ := get_of_lt hi9
        obtain ⟨t, ht, rfl⟩ := str_get hx10
        refine SK <| SQ <| BK <| SQ <| RG <| MV rfl rfl <| MV rfl rfl <| rw_indexAddr (i) rfl tyE_S_string rfl rfl rfl (hR7 (Nat.zero_lt_of_lt hi9)) hi9 <| rw_loadX _ rfl tyP_string rfl (fun w hs => ((hrd7 _ (fun c hc => hs.at_ c (List.mem_append_right _ (List.mem_append_left _ hc)))).plain hx10).cell0 rfl) <| CV1 rfl fun_spec_l13Trim rfl (fun w hs => spec_l13Trim _ (Nat.le_trans (pieces_mem ht) (by omega)) w) <| AS rfl rfl <| ND <| BK <| SQ <| RG <| MV rfl rfl <| rw_eqlL rfl rfl rfl <| MV rfl rfl <| ?_
        refine rw_case (j := 28) rfl (fun h11 => ?_) (fun h11 => ?_)
        · refine OF rfl rfl h11 rfl <| OF rfl rfl h11 rfl <| PT rfl rfl h11 rfl <| AS rfl rfl <| ND <| CT rfl rfl <| RG <| FA rfl tyF_impl_Priority_1 rfl <| ST (i := 1) [_] [_, _] tyP_bool.sz rfl rfl rfl rfl rfl rfl rfl rfl <| ND <| IB <| IB <| RG <| MV rfl rfl <| rw_add rfl rfl rfl <| AS rfl rfl <| ND <| ?_
          refine gw_sub (Sub.consE (i := 6) rfl (int_succ (by omega)) (Sub.cons (i := 2) rfl (Sub.cons (i := 4) rfl (Sub.cons (i := 5) rfl (Sub.nil _))))) (ih8 (i + 1, { p with incremental := true }) ?_ ?_)
          · exact ⟨by omega, by rw [hI, merge_step ht (step_on h11)]⟩
          · show (pieces l).length - (i + 1) < (pieces l).length - i; omega
        · refine ON rfl rfl h11 <| MV rfl rfl <| ON rfl rfl h11 <| rw_eqlL rfl rfl rfl <| PF rfl rfl h11 rfl <| AS rfl rfl <| ND <| ?_
          refine gw_cond rfl (fun h12 => ?_) (fun h12 => ?_)
          · refine RG <| FA rfl tyF_impl_Priority_1 rfl <| ST (i := 1) [_] [_, _] tyP_bool.sz rfl rfl rfl rfl rfl rfl rfl rfl <| ND <| IB <| IB <| RG <| MV rfl rfl <| rw_add rfl rfl rfl <| AS rfl rfl <| ND <| ?_
            refine gw_sub (Sub.consE (i := 6) rfl (int_succ (by omega)) (Sub.cons (i := 2) rfl (Sub.cons (i := 4) rfl (Sub.cons (i := 5) rfl (Sub.nil _))))) (ih8 (i + 1, { p with incremental := true }) ?_ ?_)
            · exact ⟨by omega, by rw [hI, merge_step ht (step_on2 h11 h12)]⟩
            · show (pieces l).length - (i + 1) < (pieces l).length - i; omega
          · refine SQ <| RG <| MV rfl rfl <| rw_eqlL rfl rfl rfl <| AS rfl rfl <| ND <| ?_
            refine gw_cond rfl (fun h13 => ?_) (fun h13 => ?_)
            · refine RG <| FA rfl tyF_impl_Priority_1 rfl <| ST (i := 1) [_] [_, _] tyP_bool.sz rfl rfl rfl rfl rfl rfl rfl rfl <| ND <| IB <| IB <| RG <| MV rfl rfl <| rw_add rfl rfl rfl <| AS rfl rfl <| ND <| ?_
              refine gw_sub (Sub.consE (i := 6) rfl (int_succ (by omega)) (Sub.cons (i := 2) rfl (Sub.cons (i := 4) rfl (Sub.cons (i := 5) rfl (Sub.nil _))))) (ih8 (i + 1, { p with incremental := false }) ?_ ?_)
              · exact ⟨by omega, by rw [hI, merge_step ht (step_off h11 h12 h13)]⟩
              · show (pieces l).length - (i + 1) < (pieces l).length - i; omega
            · refine SQ <| RG <| MV rfl rfl <| rw_lenL rfl tyStr_string rfl <| EQ1 rfl rfl rfl <| MV rfl rfl <| ?_
              refine rw_case (j := 41) rfl (fun h14 => ?_) (fun h14 => ?_)
              · obtain ⟨ba11, bb11, bc11, he11⟩ := three_of h14
                refine ON rfl rfl h14 <| MV rfl rfl <| ON rfl rfl h14 <| rw_sliceH 2 [ba11, bb11] rfl tyStr_string rfl rfl rfl (by rw [he11]; simp) (by rw [he11]; rfl) <| ON rfl rfl h14 <| rw_eqlL rfl rfl rfl <| PT rfl rfl h14 rfl <| MV rfl rfl <| ?_
                refine rw_case (j := 46) rfl (fun h15 => ?_) (fun h15 => ?_)
                · refine ON rfl rfl h15 <| MV rfl rfl <| ON rfl rfl h15 <| rw_idxL 2 rfl tyStr_string rfl rfl rfl (by rw [he11]; rfl) <| ON rfl rfl h15 <| rw_geq rfl rfl rfl <| PT rfl rfl h15 rfl <| MV rfl rfl <| ?_
                  refine rw_case (j := 51) rfl (fun h16 => ?_) (fun h16 => ?_)
                  · refine ON rfl rfl h16 <| MV rfl rfl <| ON rfl rfl h16 <| rw_idxL 2 rfl tyStr_string rfl rfl rfl (by rw [he11]; rfl) <| ON rfl rfl h16 <| rw_leq rfl rfl rfl <| PT rfl rfl h16 rfl <| AS rfl rfl <| ND <| ?_
                    refine gw_cond rfl (fun h17 => ?_) (fun h17 => ?_)
                    · refine RG <| MV rfl rfl <| rw_idxL 2 rfl tyStr_string rfl rfl rfl (by rw [he11]; rfl) <| rw_sub rfl rfl rfl <| rw_convI rfl tyCI_uint8_int rfl <| FA rfl tyF_impl_Priority_0 rfl <| ST (i := 1) [_] [_, _] tyP_int.sz rfl rfl rfl rfl rfl rfl rfl rfl <| ND <| IB <| IB <| RG <| MV rfl rfl <| rw_add rfl rfl rfl <| AS rfl rfl <| ND <| ?_
                      refine gw_sub (Sub.consE (i := 6) rfl (int_succ (by omega)) (Sub.cons (i := 2) rfl (Sub.cons (i := 4) rfl (Sub.cons (i := 5) rfl (Sub.nil _))))) (ih8 (i + 1, { p with urgency := IntKind.i64.wrap (IntKind.u8.wrap ((bc11.toNat : Int) - 48)) }) ?_ ?_)
                      · exact ⟨by omega, by rw [hI, merge_step ht (step_set h11 h12 h13 he11 h15 h16 h17)]⟩
                      · show (pieces l).length - (i + 1) < (pieces l).length - i; omega
                    · refine SK <| IB <| IB <| RG <| MV rfl rfl <| rw_add rfl rfl rfl <| AS rfl rfl <| ND <| ?_
                      refine gw_sub (Sub.consE (i := 6) rfl (int_succ (by omega)) (Sub.cons (i := 2) rfl (Sub.cons (i := 4) rfl (Sub.cons (i := 5) rfl (Sub.nil _))))) (ih8 (i + 1, p) ?_ ?_)
                      · exact ⟨by omega, by rw [hI, merge_step ht (step_hi h11 h12 h13 he11 h17)]⟩
                      · show (pieces l).length - (i + 1) < (pieces l).length - i; omega
                  · refine OF rfl rfl h16 rfl <| OF rfl rfl h16 rfl <| OF rfl rfl h16 rfl <| PF rfl rfl h16 rfl <| AS rfl rfl <| ND <| CF rfl rfl <| SK <| IB <| IB <| RG <| MV rfl rfl <| rw_add rfl rfl rfl <| AS rfl rfl <| ND <| ?_
                    refine gw_sub (Sub.consE (i := 6) rfl (int_succ (by omega)) (Sub.cons (i := 2) rfl (Sub.cons (i := 4) rfl (Sub.cons (i := 5) rfl (Sub.nil _))))) (ih8 (i + 1, p) ?_ ?_)
                    · exact ⟨by omega, by rw [hI, merge_step ht (step_lo h11 h12 h13 he11 h16)]⟩
                    · show (pieces l).length - (i + 1) < (pieces l).length - i; omega
                · refine OF rfl rfl h15 rfl <| OF rfl rfl h15 rfl <| OF rfl rfl h15 rfl <| PF rfl rfl h15 rfl <| MV rfl rfl <| OF rfl rfl rfl rfl <| OF rfl rfl rfl rfl <| OF rfl rfl rfl rfl <| PF rfl rfl rfl rfl <| AS rfl rfl <| ND <| CF rfl rfl <| SK <| IB <| IB <| RG <| MV rfl rfl <| rw_add rfl rfl rfl <| AS rfl rfl <| ND <| ?_
                  refine gw_sub (Sub.consE (i := 6) rfl (int_succ (by omega)) (Sub.cons (i := 2) rfl (Sub.cons (i := 4) rfl (Sub.cons (i := 5) rfl (Sub.nil _))))) (ih8 (i + 1, p) ?_ ?_)
                  · exact ⟨by omega, by rw [hI, merge_step ht (step_u h11 h12 h13 he11 h15)]⟩
                  · show (pieces l).length - (i + 1) < (pieces l).length - i; omega
              · refine OF rfl rfl h14 rfl <| OF rfl rfl h14 rfl <| OF rfl rfl h14 rfl <| PF rfl rfl h14 rfl <| MV rfl rfl <| OF rfl rfl rfl rfl <| OF rfl rfl rfl rfl <| OF rfl rfl rfl rfl <| PF rfl rfl rfl rfl <| MV rfl rfl <| OF rfl rfl rfl rfl <| OF rfl rfl rfl rfl <| OF rfl rfl rfl rfl <| PF rfl rfl rfl rfl <| AS rfl rfl <| ND <| CF rfl rfl <| SK <| IB <| IB <| RG <| MV rfl rfl <| rw_add rfl rfl rfl <| AS rfl rfl <| ND <| ?_
                refine gw_sub (Sub.consE (i := 6) rfl (int_succ (by omega)) (Sub.cons (i := 2) rfl (Sub.cons (i := 4) rfl (Sub.cons (i := 5) rfl (Sub.nil _))))) (ih8 (i + 1, p) ?_ ?_)
                · exact ⟨by omega, by rw [hI, merge_step ht (step_len h11 h12 h13 h14)]⟩
                · show (pieces l).length - (i + 1) < (pieces l).length - i; omega
      · have hn12 := nil_of_dec h10
        refine EX rfl <| SQ <| RG <| LS (i := 1) [_, _] rfl tyS_impl_Priority rfl rfl rfl rfl <| ST (i := 0) [_, _] [_, _] tyS_impl_Priority.sz rfl rfl rfl rfl rfl rfl rfl rfl <| ND <| ret_cv Tryd.func15 (res1 Tryd.func15 rfl (rv_s (i := 0) [_, _] tyS_impl_Priority rfl rfl rfl rfl)) <| ?_
        have e : mergePriority base l = p := by rw [mergePriority, h1]; exact hI.trans (merge_done hn12)
        rw [e]; rfl

theorem spec_ParsePriority (l : List UInt8) (hl : l.length ≤ 1048576) (w : World) : CV Tryd.prog 14 [.string ⟨l.toArray⟩] w (.agg (mergePriority defaultPriority l).cells.toArray) := by
  refine cv_of Tryd.func14 rfl rfl rfl <| SQ <| RG <| AL rfl tyZ_impl_Priority <| fun b1 => ND <| SQ <| RG <| CV1 rfl fun_spec_DefaultPriority rfl (fun w hs => spec_DefaultPriority w) <| MV rfl rfl <| CV1 rfl fun_spec_MergePriority rfl (fun w hs => spec_MergePriority _ _ hl w) <| ST (i := 0) [_, _] [_, _] tyS_impl_Priority.sz rfl rfl rfl rfl rfl rfl rfl rfl <| ND <| ret_cv Tryd.func14 (res1 Tryd.func14 rfl (rv_s (i := 0) [_, _] tyS_impl_Priority rfl rfl rfl rfl)) <| ?_
  rfl

set_option maxRecDepth 20000 in
theorem law_FnPriorities {w : World} (hm : MaxOk w) {v : Value} {l : List UInt8} (hv : RdS w 1 (Pl byC) v l) : CV Tryd.prog 3 [v] w (.bool true) := by
  obtain ⟨A, cp, rfl, hA⟩ := hv
  refine cv_of Tryd.func3 rfl rfl rfl <| SQ <| RG <| AS rfl rfl <| ND <| SQ <| SQ <| RG <| MV rfl rfl <| CV1 rfl fun_laws_big rfl (fun w hs => laws_big (hA.s Pl.keeps hs)) <| ND <| ?_
  refine gw_cond rfl (fun h1 => ?_) (fun h1 => ?_)
  · refine SQ <| RG <| AS rfl rfl <| ND <| ret_cv Tryd.func3 (res1 Tryd.func3 rfl (rv_tmp rfl)) <| ?_
    rfl
  · have hl := le_of_dec h1
    refine SK <| SQ <| RG <| MV rfl rfl <| CN1 rfl fun_spec_DrawFormatPriority rfl (fun w hs => spec_DrawFormatPriority (hA.s Pl.keeps hs) hl) <| fun v2 ch2 how2 => ?_
    obtain ⟨⟨p, rfl⟩, rfl⟩ := how2
    refine rw_F (F' := []) rfl <| AL rfl tyZ_impl_Priority <| fun b1 => ST (i := 0) [_, _] [_, _] tyS_impl_Priority.sz rfl rfl rfl rfl rfl rfl rfl rfl <| ND <| SQ <| RG <| LS (i := 0) [_, _] rfl tyS_impl_Priority rfl rfl rfl rfl <| CV1 rfl fun_impl_FormatPriority rfl (fun w hs => impl_FormatPriority p w) <| AS rfl rfl <| ND <| SQ <| SQ <| gw_draw' [(0, .det), (1, .det), (2, .det), (3, .det), (4, .det), (5, .det), (6, .det), (7, .det), (8, .det), (9, .det), (10, .det), (11, .det), (12, .det), (13, .det), (14, .det), (15, .det), (16, .det), (17, .det)] [18, 19, 20] mixed rfl (free_det (free_det (free_det (free_det (free_det (free_det (free_det (free_det (free_det (free_det (free_det (free_det (free_det (free_det (free_det (free_det (free_det (free_det free_nil)))))))))))))))))) (ts := [_, _, _]) rfl <| ?_
    refine DT rfl rfl (fun K hk => MV rfl rfl hk) <| DT rfl rfl (fun K hk => LS (i := 0) [_, _] rfl tyS_impl_Priority rfl rfl rfl rfl hk) <| DT rfl rfl (fun K hk => CV1 rfl fun_spec_FormatPriority rfl (fun w hs => spec_FormatPriority p w) hk) <| DT rfl rfl (fun K hk => rw_neqSelfS rfl rfl rfl hk) <| DT rfl rfl (fun K hk => MV rfl rfl hk) <| DT rfl rfl (fun K hk => ON rfl rfl rfl (LS (i := 0) [_, _] rfl tyS_impl_Priority rfl rfl rfl rfl hk)) <| DT rfl rfl (fun K hk => ON rfl rfl rfl (CV1 rfl fun_impl_IsPriority rfl (fun w hs => impl_IsPriority _ w) hk)) <| ?_
    refine DT rfl rfl (fun K hk => ON rfl rfl rfl (LS (i := 0) [_, _] rfl tyS_impl_Priority rfl rfl rfl rfl hk)) <| DT rfl rfl (fun K hk => ON rfl rfl rfl (CV1 rfl fun_spec_IsPriority rfl (fun w hs => spec_IsPriority _ w) hk)) <| DT rfl rfl (fun K hk => ON rfl rfl rfl (rw_neqSelfB (by kernel_rfl) rfl rfl rfl hk)) <| DT rfl rfl (fun K hk => PF rfl rfl rfl rfl hk) <| DT rfl rfl (fun K hk => MV rfl rfl hk) <| DT rfl rfl (fun K hk => ON rfl rfl rfl (LS (i := 0) [_, _] rfl tyS_impl_Priority rfl rfl rfl rfl hk)) <| ?_
    refine DT rfl rfl (fun K hk => ON rfl rfl rfl (CV1 rfl fun_spec_IsPriority rfl (fun w hs => spec_IsPriority _ w) hk)) <| DT rfl rfl (fun K hk => ON rfl rfl rfl (MV rfl rfl hk)) <| ?_
    refine dw_case (i := 29) rfl (fun h2 => ?_) (fun h2 => ?_)
    · refine DT rfl rfl (fun K hk => ON rfl rfl h2 (MV rfl rfl hk)) <| DT rfl rfl (fun K hk => ON rfl rfl h2 (CV1 rfl fun_impl_ParsePriority rfl (fun w hs => impl_ParsePriority (hm.sat hs) (formatPriority p) (Nat.le_trans (format_len p) (by decide))) hk)) <| DT rfl rfl (fun K hk => ON rfl rfl h2 (LS (i := 0) [_, _] rfl tyS_impl_Priority rfl rfl rfl rfl hk)) <| dw_nil <| ON rfl rfl h2 <| rw_neqQF rfl tyQ_impl_Priority rfl rfl rfl rfl (eqC_cells (parse_format h2)) <| ON rfl rfl rfl <| PT rfl rfl h2 rfl <| PF rfl rfl rfl rfl <| ?_
      refine ND <| CF rfl rfl <| SK <| SQ <| RG <| MV rfl rfl <| CN1 rfl fun_spec_DrawParsePriority rfl (fun w hs => spec_DrawParsePriority (hA.s Pl.keeps hs) hl) <| fun v3 ch3 how3 => ?_
      obtain ⟨⟨t, rfl, ht⟩, rfl⟩ := how3
      refine rw_F (F' := []) rfl <| AS rfl rfl <| ND <| SQ <| RG <| MV rfl rfl <| CN1 rfl fun_spec_DrawMergePriority rfl (fun w hs => spec_DrawMergePriority (hA.s Pl.keeps hs) hl) <| fun v4 ch4 how4 => ?_
      obtain ⟨⟨base, u, rfl, hu⟩, rfl⟩ := how4
      refine rw_F (F' := []) rfl <| MV rfl rfl <| XT rfl rfl rfl <| XT rfl rfl rfl <| AL rfl tyZ_impl_Priority <| fun b2 => ST (i := 0) [_, _] [_, _] tyS_impl_Priority.sz rfl rfl rfl rfl rfl rfl rfl rfl <| AS rfl rfl <| ND <| SQ <| RG <| LS (i := 0) [_, _] rfl tyS_impl_Priority rfl rfl rfl rfl <| MV rfl rfl <| CV1 rfl fun_impl_MergePriority rfl (fun w hs => impl_MergePriority (hm.sat hs) _ u (Nat.le_trans hu (by decide))) <| AL rfl tyZ_impl_Priority <| fun b3 => ST (i := 0) [_, _] [_, _] tyS_impl_Priority.sz rfl rfl rfl rfl rfl rfl rfl rfl <| ?_
      refine ND <| SQ <| gw_draw' [(0, .det), (1, .det), (2, .det), (3, .det), (4, .det), (5, .det), (6, .det), (7, .det), (8, .det), (9, .det), (10, .det), (11, .det), (12, .det), (13, .det), (14, .det), (15, .det), (16, .det), (17, .det), (18, .det), (19, .det), (20, .det), (21, .det)] [22, 23, 24, 25, 26, 27, 28, 29] mixed rfl (free_det (free_det (free_det (free_det (free_det (free_det (free_det (free_det (free_det (free_det (free_det (free_det (free_det (free_det (free_det (free_det (free_det (free_det (free_det (free_det (free_det (free_det free_nil)))))))))))))))))))))) (ts := [_, _, _, _, _, _, _, _]) rfl <| ?_
      refine DT rfl rfl (fun K hk => MV rfl rfl hk) <| DT rfl rfl (fun K hk => CV1 rfl fun_impl_ParsePriority rfl (fun w hs => impl_ParsePriority (hm.sat hs) t (Nat.le_trans ht (by decide))) hk) <| DT rfl rfl (fun K hk => MV rfl rfl hk) <| DT rfl rfl (fun K hk => CV1 rfl fun_spec_ParsePriority rfl (fun w hs => spec_ParsePriority t (Nat.le_trans ht (by decide)) w) hk) <| DT rfl rfl (fun K hk => rw_eqlQT rfl tyQ_impl_Priority rfl rfl rfl rfl (eqC_cells (rfl)) hk) <| DT rfl rfl (fun K hk => MV rfl rfl hk) <| DT rfl rfl (fun K hk => ON rfl rfl rfl (MV rfl rfl hk)) <| ?_
      refine DT rfl rfl (fun K hk => ON rfl rfl rfl (CV1 rfl fun_impl_ParsePriority rfl (fun w hs => impl_ParsePriority (hm.sat hs) t (Nat.le_trans ht (by decide))) hk)) <| DT rfl rfl (fun K hk => ON rfl rfl rfl (CV1 rfl fun_impl_IsPriority rfl (fun w hs => impl_IsPriority _ w) hk)) <| DT rfl rfl (fun K hk => PT rfl rfl rfl rfl hk) <| DT rfl rfl (fun K hk => MV rfl rfl hk) <| DT rfl rfl (fun K hk => ON rfl rfl (isPri_merge _ _) (LS (i := 0) [_, _] rfl tyS_impl_Priority rfl rfl rfl rfl hk)) <| DT rfl rfl (fun K hk => ON rfl rfl (isPri_merge _ _) (LS (i := 1) [_, _] rfl tyS_impl_Priority rfl rfl rfl rfl hk)) <| ?_
      refine DT rfl rfl (fun K hk => ON rfl rfl (isPri_merge _ _) (MV rfl rfl hk)) <| DT rfl rfl (fun K hk => ON rfl rfl (isPri_merge _ _) (CV1 rfl fun_spec_MergePriority rfl (fun w hs => spec_MergePriority _ u (Nat.le_trans hu (by decide)) w) hk)) <| DT rfl rfl (fun K hk => ON rfl rfl (isPri_merge _ _) (rw_eqlQT rfl tyQ_impl_Priority rfl rfl rfl rfl (eqC_cells (rfl)) hk)) <| DT rfl rfl (fun K hk => PT rfl rfl (isPri_merge _ _) rfl hk) <| DT rfl rfl (fun K hk => MV rfl rfl hk) <| DT rfl rfl (fun K hk => ON rfl rfl rfl (LS (i := 0) [_, _] rfl tyS_impl_Priority rfl rfl rfl rfl hk)) <| ?_
      refine DT rfl rfl (fun K hk => ON rfl rfl rfl (MV rfl rfl hk)) <| DT rfl rfl (fun K hk => ON rfl rfl rfl (CV1 rfl fun_impl_MergePriority rfl (fun w hs => impl_MergePriority (hm.sat hs) _ u (Nat.le_trans hu (by decide))) hk)) <| DT rfl rfl (fun K hk => ON rfl rfl rfl (LS (i := 0) [_, _] rfl tyS_impl_Priority rfl rfl rfl rfl hk)) <| dw_nil <| ON rfl rfl rfl <| rw_eqlQT rfl tyQ_impl_Priority rfl rfl rfl rfl (eqC_cells (merge_idem _ _)) <| PT rfl rfl rfl rfl <| MV rfl rfl <| ON rfl rfl rfl <| CV1 rfl fun_impl_DefaultPriority rfl (fun w hs => impl_DefaultPriority w) <| ?_
      refine ON rfl rfl rfl <| CV1 rfl fun_spec_DefaultPriority rfl (fun w hs => spec_DefaultPriority w) <| ON rfl rfl rfl <| rw_eqlQT rfl tyQ_impl_Priority rfl rfl rfl rfl (eqC_cells (rfl)) <| PT rfl rfl rfl rfl <| AS rfl rfl <| ND <| ret_cv Tryd.func3 (res1 Tryd.func3 rfl (rv_tmp rfl)) <| ?_
      rfl
    · refine DT rfl rfl (fun K hk => OF rfl rfl h2 rfl hk) <| DT rfl rfl (fun K hk => OF rfl rfl h2 rfl hk) <| DT rfl rfl (fun K hk => OF rfl rfl h2 rfl hk) <| dw_nil <| OF rfl rfl h2 rfl <| ON rfl rfl rfl <| PF rfl rfl h2 rfl <| PF rfl rfl rfl rfl <| ND <| CF rfl rfl <| SK <| SQ <| RG <| MV rfl rfl <| CN1 rfl fun_spec_DrawParsePriority rfl (fun w hs => spec_DrawParsePriority (hA.s Pl.keeps hs) hl) <| fun v5 ch5 how5 => ?_
      obtain ⟨⟨t, rfl, ht⟩, rfl⟩ := how5
      refine rw_F (F' := []) rfl <| AS rfl rfl <| ND <| SQ <| RG <| MV rfl rfl <| CN1 rfl fun_spec_DrawMergePriority rfl (fun w hs => spec_DrawMergePriority (hA.s Pl.keeps hs) hl) <| fun v6 ch6 how6 => ?_
      obtain ⟨⟨base, u, rfl, hu⟩, rfl⟩ := how6
      refine rw_F (F' := []) rfl <| MV rfl rfl <| XT rfl rfl rfl <| XT rfl rfl rfl <| AL rfl tyZ_impl_Priority <| fun b4 => ST (i := 0) [_, _] [_, _] tyS_impl_Priority.sz rfl rfl rfl rfl rfl rfl rfl rfl <| AS rfl rfl <| ND <| SQ <| RG <| LS (i := 0) [_, _] rfl tyS_impl_Priority rfl rfl rfl rfl <| MV rfl rfl <| CV1 rfl fun_impl_MergePriority rfl (fun w hs => impl_MergePriority (hm.sat hs) _ u (Nat.le_trans hu (by decide))) <| AL rfl tyZ_impl_Priority <| fun b5 => ST (i := 0) [_, _] [_, _] tyS_impl_Priority.sz rfl rfl rfl rfl rfl rfl rfl rfl <| ?_
      refine ND <| SQ <| gw_draw' [(0, .det), (1, .det), (2, .det), (3, .det), (4, .det), (5, .det), (6, .det), (7, .det), (8, .det), (9, .det), (10, .det), (11, .det), (12, .det), (13, .det), (14, .det), (15, .det), (16, .det), (17, .det), (18, .det), (19, .det), (20, .det), (21, .det)] [22, 23, 24, 25, 26, 27, 28, 29] mixed rfl (free_det (free_det (free_det (free_det (free_det (free_det (free_det (free_det (free_det (free_det (free_det (free_det (free_det (free_det (free_det (free_det (free_det (free_det (free_det (free_det (free_det (free_det free_nil)))))))))))))))))))))) (ts := [_, _, _, _, _, _, _, _]) rfl <| ?_
      refine DT rfl rfl (fun K hk => MV rfl rfl hk) <| DT rfl rfl (fun K hk => CV1 rfl fun_impl_ParsePriority rfl (fun w hs => impl_ParsePriority (hm.sat hs) t (Nat.le_trans ht (by decide))) hk) <| DT rfl rfl (fun K hk => MV rfl rfl hk) <| DT rfl rfl (fun K hk => CV1 rfl fun_spec_ParsePriority rfl (fun w hs => spec_ParsePriority t (Nat.le_trans ht (by decide)) w) hk) <| DT rfl rfl (fun K hk => rw_eqlQT rfl tyQ_impl_Priority rfl rfl rfl rfl (eqC_cells (rfl)) hk) <| DT rfl rfl (fun K hk => MV rfl rfl hk) <| DT rfl rfl (fun K hk => ON rfl rfl rfl (MV rfl rfl hk)) <| ?_
      refine DT rfl rfl (fun K hk => ON rfl rfl rfl (CV1 rfl fun_impl_ParsePriority rfl (fun w hs => impl_ParsePriority (hm.sat hs) t (Nat.le_trans ht (by decide))) hk)) <| DT rfl rfl (fun K hk => ON rfl rfl rfl (CV1 rfl fun_impl_IsPriority rfl (fun w hs => impl_IsPriority _ w) hk)) <| DT rfl rfl (fun K hk => PT rfl rfl rfl rfl hk) <| DT rfl rfl (fun K hk => MV rfl rfl hk) <| DT rfl rfl (fun K hk => ON rfl rfl (isPri_merge _ _) (LS (i := 0) [_, _] rfl tyS_impl_Priority rfl rfl rfl rfl hk)) <| DT rfl rfl (fun K hk => ON rfl rfl (isPri_merge _ _) (LS (i := 1) [_, _] rfl tyS_impl_Priority rfl rfl rfl rfl hk)) <| ?_
      refine DT rfl rfl (fun K hk => ON rfl rfl (isPri_merge _ _) (MV rfl rfl hk)) <| DT rfl rfl (fun K hk => ON rfl rfl (isPri_merge _ _) (CV1 rfl fun_spec_MergePriority rfl (fun w hs => spec_MergePriority _ u (Nat.le_trans hu (by decide)) w) hk)) <| DT rfl rfl (fun K hk => ON rfl rfl (isPri_merge _ _) (rw_eqlQT rfl tyQ_impl_Priority rfl rfl rfl rfl (eqC_cells (rfl)) hk)) <| DT rfl rfl (fun K hk => PT rfl rfl (isPri_merge _ _) rfl hk) <| DT rfl rfl (fun K hk => MV rfl rfl hk) <| DT rfl rfl (fun K hk => ON rfl rfl rfl (LS (i := 0) [_, _] rfl tyS_impl_Priority rfl rfl rfl rfl hk)) <| ?_
      refine DT rfl rfl (fun K hk => ON rfl rfl rfl (MV rfl rfl hk)) <| DT rfl rfl (fun K hk => ON rfl rfl rfl (CV1 rfl fun_impl_MergePriority rfl (fun w hs => impl_MergePriority (hm.sat hs) _ u (Nat.le_trans hu (by decide))) hk)) <| DT rfl rfl (fun K hk => ON rfl rfl rfl (LS (i := 0) [_, _] rfl tyS_impl_Priority rfl rfl rfl rfl hk)) <| dw_nil <| ON rfl rfl rfl <| rw_eqlQT rfl tyQ_impl_Priority rfl rfl rfl rfl (eqC_cells (merge_idem _ _)) <| PT rfl rfl rfl rfl <| MV rfl rfl <| ON rfl rfl rfl <| CV1 rfl fun_impl_DefaultPriority rfl (fun w hs => impl_DefaultPriority w) <| ?_
      refine ON rfl rfl rfl <| CV1 rfl fun_spec_DefaultPriority rfl (fun w hs => spec_DefaultPriority w) <| ON rfl rfl rfl <| rw_eqlQT rfl tyQ_impl_Priority rfl rfl rfl rfl (eqC_cells (rfl)) <| PT rfl rfl rfl rfl <| AS rfl rfl <| ND <| ret_cv Tryd.func3 (res1 Tryd.func3 rfl (rv_tmp rfl)) <| ?_
      rfl
end Go.Proofs.YtcobcopmkafcoaaDoor
