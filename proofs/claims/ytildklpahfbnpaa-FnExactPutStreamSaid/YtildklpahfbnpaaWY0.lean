/- Walks: copies, marks. -/
import Derived.Test.YtildklpahfbnpaaFactsY
import Derived.Test.YtildklpahfbnpaaOver
import Derived.Test.YtildklpahfbnpaaSh
import Derived.Test.YtildklpahfbnpaaSlq
import Derived.Test.YtildklpahfbnpaaSlh
import Derived.Test.YtildklpahfbnpaaElems
import Derived.Test.YtildklpahfbnpaaMark
import Derived.Test.YtildklpahfbnpaaSlw
import Derived.Test.YtildklpahfbnpaaNewSS
namespace Go.Proofs.Ytildklpahfbnpaa
open SL Go.RowKit
theorem laws_markIntS_nil (A : Option Addr) (k : Int) (w : World) : CV Try.prog 75 [.slice A 0 0, .int .i64 k] w (.int .i64 k) := by
  refine cv_of Try.func75 rfl rfl rfl <| SQ <| RG <| AS rfl rfl <| ND <| SQ <| SQ <| RG <| AS rfl rfl <| ND <| BK <| gw_loop1 <| SQ <| SQ <| RG <| MV rfl rfl <| MV rfl rfl <| rw_len rfl tyE_S_int rfl <| rw_lss rfl rfl rfl <| ND <| CF rfl rfl <| EX rfl <| SQ <| RG <| MV rfl rfl <| AS rfl rfl <| ND <| ret_cv Try.func75 (res1 Try.func75 rfl (rv_tmp rfl)) <| ?_
  rfl

set_option maxRecDepth 20000 in
theorem laws_markIntS_b {w : World} {g c : Nat} {pre rs cells : List Value} {chs : List Ck} {l : List Int} {k : Int} (hO : Ows (PlO intC) l cells chs) (hb : l.length ≤ 1048576) (hk : 0 ≤ k ∧ k ≤ 36028797018963968) (hc1 : l.length ≤ c) (hc2 : c ≤ maxLen) (hc3 : (cells ++ rs).length = c * 1) (hin : ∀ c ∈ ((⟨g, 3, pre ++ (cells ++ rs)⟩ :: chs) : List Ck), c.In w) (hnd : (((⟨g, 3, pre ++ (cells ++ rs)⟩ :: chs) : List Ck).map Ck.b).Nodup) : CH Try.prog 75 [.slice (some ⟨g, pre.length, none⟩) l.length c, .int .i64 k] w (⟨g, 3, pre ++ (cells ++ rs)⟩ :: chs) (fun v' ch' => v' = .int .i64 (endD (nx 1) k l) ∧ OwS 3 1 (PlO intC) (.slice (some ⟨g, pre.length, none⟩) l.length c) (mkD mkInt (nx 1) k l) ch') := by
  refine ch_ofBF hin hnd Try.func75 rfl rfl rfl <| SQ <| RG <| AS rfl rfl <| ND <| SQ <| SQ <| RG <| AS rfl rfl <| ND <| BK <| ?_
  refine gw_loopX (α := Nat × Int × List Value × List Value × List Ck × List Ck) (fun z_ => z_.1 ≤ l.length ∧ z_.2.1 = endD (nx 1) k (l.take z_.1) ∧ Ows (PlO intC) (mkD mkInt (nx 1) k (l.take z_.1)) z_.2.2.1 z_.2.2.2.2.1 ∧ Ows (PlO intC) (l.drop z_.1) z_.2.2.2.1 z_.2.2.2.2.2) (fun z_ => l.length - z_.1) (fun e z_ => (5, .int .i64 (z_.1 : Int)) :: (1, .int .i64 z_.2.1) :: e) (fun B z_ => [⟨g, 3, pre ++ (z_.2.2.1 ++ (z_.2.2.2.1 ++ rs))⟩]) (fun F z_ => z_.2.2.2.2.1 ++ (z_.2.2.2.2.2 ++ ([]))) (0, k, [], cells, [], chs) [(0, _), (4, _)] (Sub.consE rfl rfl (Sub.consE rfl rfl (Sub.cons (i := 0) rfl (Sub.cons (i := 4) rfl (Sub.nil _))))) rfl rfl ?_ ?_
  · exact ⟨Nat.zero_le _, rfl, .nil, hO⟩
  · rintro ⟨i, Kk, cD, cR, hD, hR⟩ hI1 ih1
    dsimp only at hI1
    dsimp only [List.set]
    obtain ⟨hle, hK, hD_, hR_⟩ := hI1
    have hkb : 0 ≤ Kk ∧ Kk ≤ 36028797020012544 := by
      have hkt := endD_le 1 (by decide) (i := i) hb (k := k) (fun x _ k => nx_bd (by decide) x k)
      rw [← hK] at hkt; omega
    refine SQ <| SQ <| RG <| MV rfl rfl <| MV rfl rfl <| rw_len rfl tyE_S_int rfl <| rw_lss rfl rfl rfl <| ND <| ?_
    refine gw_cond rfl (fun h1 => ?_) (fun h1 => ?_)
    · have hi2 := lt_of_dec h1
      obtain ⟨x, hx⟩ := get_of_lt hi2
      have hd2 := drop_cons hx
      rw [hd2] at hR_
      obtain ⟨mm, cR2, cx, hR2, rfl, rfl, hm, hR_2⟩ := hR_.uncons
      have hal : (pre ++ cD).length = pre.length + i * 1 := by
        rw [List.length_append, hD_.length eInt, mkD_len, List.length_take]; congr 2; omega
      obtain ⟨rfl, rfl⟩ := hm
      refine gw_B blk_open <| SK <| SQ <| BK <| SQ <| RG <| MV rfl rfl <| MV rfl rfl <| MV rfl rfl <| rw_indexAddrO (i) rfl tyE_S_int rfl rfl rfl hi2 <| rw_storeM (off := 0) (j := 0) [_] [_] [_] tyP_int.sz rfl (mid_q (o := 0) hal) rfl rfl rfl rfl rfl rfl rfl rfl <| ND <| RG <| MV rfl rfl <| rw_addK (Kk + 1) rfl rfl rfl (kinc0 (kup hkb)) <| AS rfl rfl <| ND <| gw_sub (Sub.cons (i := 0) rfl (Sub.cons (i := 1) rfl (Sub.cons (i := 4) rfl (Sub.cons (i := 5) rfl (Sub.nil _))))) <| IB <| RG <| MV rfl rfl <| rw_add rfl rfl rfl <| ?_
      refine AS rfl rfl <| ND <| ?_
      refine gw_B blk_assoc <| ?_
      refine gw_sub (Sub.consE (i := 5) rfl (int_succ (by omega)) (Sub.consE (i := 1) rfl rfl (Sub.cons (i := 0) rfl (Sub.cons (i := 4) rfl (Sub.nil _))))) (ih1 (i + 1, (nx 1) Kk x, cD ++ intC (mkInt Kk x), cR2, hD, hR2) ?_ ?_)
      · exact ⟨by omega, endD_step hx hK, by rw [mkD_step hx hK]; exact hD_.snocP, hR_2⟩
      · show l.length - (i + 1) < l.length - i; omega
    · have hn3 := ge_of_dec h1
      refine EX rfl <| SQ <| RG <| MV rfl rfl <| AS rfl rfl <| ND <| ?_
      refine ret_ch (⟨g, 3, pre ++ (cD ++ (cR ++ rs))⟩ :: (hD ++ [])) Try.func75 (res1 Try.func75 rfl (rv_tmp rfl)) ?_ ?_
      · obtain rfl : i = l.length := by omega
        rw [List.drop_length] at hR_
        obtain ⟨rfl, rfl⟩ := hR_.nil_inv
        rw [List.take_length] at hK hD_
        refine ⟨by rw [hK], ?_⟩
        rw [List.append_nil]
        exact OwS.closeG hD_ (mkD_len _ _ _ _) hc1 hc2 (by have h1 := hD_.length eInt; rw [mkD_len] at h1; have h2 := hO.length eInt; rw [List.length_append] at hc3 ⊢; rw [List.nil_append]; omega)
      · exact List.Sublist.cons_cons _ (List.Sublist.append_left (List.nil_sublist _) _)

theorem laws_markIntS {w : World} {A : Option Addr} {n c : Nat} {l : List Int} {ch : List Ck} {k : Int} (hO : OwS 3 1 (PlO intC) (.slice A n c) l ch) (hb : l.length ≤ 1048576) (hk : 0 ≤ k ∧ k ≤ 36028797018963968) (hin : ∀ c ∈ ch, c.In w) (hnd : (ch.map Ck.b).Nodup) :
    CH Try.prog 75 [.slice A n c, .int .i64 k] w ch (fun v' ch' => v' = .int .i64 (endD (nx 1) k l) ∧ OwS 3 1 (PlO intC) (.slice A n c) (mkD mkInt (nx 1) k l) ch') := by
  rcases hO.openG with ⟨rfl, rfl, rfl, rfl⟩ | ⟨g, pre, rs, cells, chs, rfl, rfl, hO2, rfl, hc1, hc2, hc3⟩
  · exact (laws_markIntS_nil A k w).ch ⟨rfl, ⟨[], .inl ⟨A, rfl, rfl, rfl⟩⟩⟩
  · exact laws_markIntS_b hO2 hb hk hc1 hc2 hc3 hin hnd

theorem laws_markRing {w : World} {x : Ring} {v0 : Value} {c0 : List Ck} {k : Int} (h0 : OwS 3 1 (PlO intC) v0 x.cells c0) (hb0 : x.cells.length ≤ 1048576) (hk : 0 ≤ k ∧ k ≤ 9007199254740992) (hin : ∀ c ∈ c0, c.In w) (hnd : ((c0).map Ck.b).Nodup) : CH Try.prog 151 [.agg (Ring.row x v0).toArray, .int .i64 k] w (c0) (fun v' ch' => v' = .int .i64 (endD (nx 1) k x.cells) ∧ OwS 3 1 (PlO intC) v0 (mkD mkInt (nx 1) k x.cells) ch') := by
  obtain ⟨R0_, b0_, rfl, hR0_, hrd0_⟩ := h0.shape eInt
  refine ch_of hin hnd Try.func151 rfl rfl rfl <| SQ <| RG <| BX [_, _, _, _] rfl rfl rfl <| fun b1 => AS rfl rfl <| ND <| SQ <| RG <| FA rfl tyF_impl_Ring_3 rfl <| LD (i := 0) rfl tyP_S_int rfl rfl rfl <| MV rfl rfl <| rw_ch (G := c0) (R := []) rfl fun_laws_markIntS rfl (((List.Perm.refl _).trans ((List.Perm.refl _).append_left _))) (fun w hs hin hnd => laws_markIntS h0 hb0 (kto hk (by decide) (by decide) (by decide)) hin hnd) <| fun vh1 ch1 how1 => ?_
  obtain ⟨rfl, hO1_0⟩ := how1
  obtain ⟨hn1_0, hrv1_0, hR1_0, hrd1_0⟩ := hO1_0.reshape eInt
  have hkb2 : 0 ≤ (endD (nx 1) k x.cells) ∧ (endD (nx 1) k x.cells) ≤ 9007199255789568 := by
    have hkt := endD_all (nx := (nx 1)) 1 (by decide) hb0 (k := k) (fun x _ k => nx_bd (by decide) x k)
    omega
  refine AS rfl rfl <| ND <| SQ <| RG <| MV rfl rfl <| AS rfl rfl <| ND <| ?_
  refine gw_FP ((List.Perm.refl _).trans ((List.Perm.refl _).append_left _)) (gw_F (F' := (ch1) ++ ([])) (by simp only []) ?_)
  refine ret_ch (ch1) Try.func151 (res1 Try.func151 rfl (rv_tmp rfl)) ?_ ?_
  · exact ⟨rfl, hO1_0⟩
  · exact (List.sublist_append_left _ _).trans (List.sublist_append_right _ _)

theorem laws_markRangeS_nil (A : Option Addr) (k : Int) (w : World) : CV Try.prog 76 [.slice A 0 0, .int .i64 k] w (.int .i64 k) := by
  refine cv_of Try.func76 rfl rfl rfl <| SQ <| RG <| AS rfl rfl <| ND <| SQ <| SQ <| RG <| AS rfl rfl <| ND <| BK <| gw_loop1 <| SQ <| SQ <| RG <| MV rfl rfl <| MV rfl rfl <| rw_len rfl tyE_S_impl_Range rfl <| rw_lss rfl rfl rfl <| ND <| CF rfl rfl <| EX rfl <| SQ <| RG <| MV rfl rfl <| AS rfl rfl <| ND <| ret_cv Try.func76 (res1 Try.func76 rfl (rv_tmp rfl)) <| ?_
  rfl

set_option maxRecDepth 20000 in
theorem laws_markRangeS_b {w : World} {g c : Nat} {pre rs cells : List Value} {chs : List Ck} {l : List Range} {k : Int} (hO : Ows (PlO Range.cells) l cells chs) (hb : l.length ≤ 1048576) (hk : 0 ≤ k ∧ k ≤ 36028797018963968) (hc1 : l.length ≤ c) (hc2 : c ≤ maxLen) (hc3 : (cells ++ rs).length = c * 2) (hin : ∀ c ∈ ((⟨g, 156, pre ++ (cells ++ rs)⟩ :: chs) : List Ck), c.In w) (hnd : (((⟨g, 156, pre ++ (cells ++ rs)⟩ :: chs) : List Ck).map Ck.b).Nodup) : CH Try.prog 76 [.slice (some ⟨g, pre.length, none⟩) l.length c, .int .i64 k] w (⟨g, 156, pre ++ (cells ++ rs)⟩ :: chs) (fun v' ch' => v' = .int .i64 (endD (nx 2) k l) ∧ OwS 156 2 (PlO Range.cells) (.slice (some ⟨g, pre.length, none⟩) l.length c) (mkD mkRange (nx 2) k l) ch') := by
  refine ch_ofBF hin hnd Try.func76 rfl rfl rfl <| SQ <| RG <| AS rfl rfl <| ND <| SQ <| SQ <| RG <| AS rfl rfl <| ND <| BK <| ?_
  refine gw_loopX (α := Nat × Int × List Value × List Value × List Ck × List Ck) (fun z_ => z_.1 ≤ l.length ∧ z_.2.1 = endD (nx 2) k (l.take z_.1) ∧ Ows (PlO Range.cells) (mkD mkRange (nx 2) k (l.take z_.1)) z_.2.2.1 z_.2.2.2.2.1 ∧ Ows (PlO Range.cells) (l.drop z_.1) z_.2.2.2.1 z_.2.2.2.2.2) (fun z_ => l.length - z_.1) (fun e z_ => (5, .int .i64 (z_.1 : Int)) :: (1, .int .i64 z_.2.1) :: e) (fun B z_ => [⟨g, 156, pre ++ (z_.2.2.1 ++ (z_.2.2.2.1 ++ rs))⟩]) (fun F z_ => z_.2.2.2.2.1 ++ (z_.2.2.2.2.2 ++ ([]))) (0, k, [], cells, [], chs) [(0, _), (4, _)] (Sub.consE rfl rfl (Sub.consE rfl rfl (Sub.cons (i := 0) rfl (Sub.cons (i := 4) rfl (Sub.nil _))))) rfl rfl ?_ ?_
  · exact ⟨Nat.zero_le _, rfl, .nil, hO⟩
  · rintro ⟨i, Kk, cD, cR, hD, hR⟩ hI1 ih1
    dsimp only at hI1
    dsimp only [List.set]
    obtain ⟨hle, hK, hD_, hR_⟩ := hI1
    have hkb : 0 ≤ Kk ∧ Kk ≤ 36028797021061120 := by
      have hkt := endD_le 2 (by decide) (i := i) hb (k := k) (fun x _ k => nx_bd (by decide) x k)
      rw [← hK] at hkt; omega
    refine SQ <| SQ <| RG <| MV rfl rfl <| MV rfl rfl <| rw_len rfl tyE_S_impl_Range rfl <| rw_lss rfl rfl rfl <| ND <| ?_
    refine gw_cond rfl (fun h1 => ?_) (fun h1 => ?_)
    · have hi2 := lt_of_dec h1
      obtain ⟨x, hx⟩ := get_of_lt hi2
      have hd2 := drop_cons hx
      rw [hd2] at hR_
      obtain ⟨mm, cR2, cx, hR2, rfl, rfl, hm, hR_2⟩ := hR_.uncons
      have hal : (pre ++ cD).length = pre.length + i * 2 := by
        rw [List.length_append, hD_.length eRange, mkD_len, List.length_take]; congr 2; omega
      obtain ⟨rfl, rfl⟩ := hm
      refine gw_B blk_open <| SK <| SQ <| BK <| SQ <| RG <| MV rfl rfl <| MV rfl rfl <| MV rfl rfl <| rw_indexAddrO (i) rfl tyE_S_impl_Range rfl rfl rfl hi2 <| FA rfl tyF_impl_Range_0 rfl <| rw_storeM (off := 0) (j := 0) [_] [_, _] [_] tyP_int.sz rfl (mid_q (o := 0) hal) rfl rfl rfl rfl rfl rfl rfl rfl <| ND <| SQ <| RG <| MV rfl rfl <| rw_addK (Kk + 1) rfl rfl rfl (kinc0 (kup hkb)) <| AS rfl rfl <| ND <| gw_sub (Sub.cons (i := 0) rfl (Sub.cons (i := 1) rfl (Sub.cons (i := 4) rfl (Sub.cons (i := 5) rfl (Sub.nil _))))) <| SQ <| ?_
      refine RG <| MV rfl rfl <| MV rfl rfl <| MV rfl rfl <| rw_indexAddrO (i) rfl tyE_S_impl_Range rfl rfl rfl hi2 <| FA rfl tyF_impl_Range_1 rfl <| rw_storeM (off := 1) (j := 0) [_] [_, _] [_] tyP_int.sz rfl (mid_q (o := 1) hal) rfl rfl rfl rfl rfl rfl rfl rfl <| ND <| RG <| MV rfl rfl <| rw_addK (Kk + 2) rfl rfl rfl (kinc (kup hkb) (by decide) (by decide) (by decide)) <| AS rfl rfl <| ND <| IB <| RG <| MV rfl rfl <| rw_add rfl rfl rfl <| AS rfl rfl <| ND <| ?_
      refine gw_B blk_assoc <| ?_
      refine gw_sub (Sub.consE (i := 5) rfl (int_succ (by omega)) (Sub.consE (i := 1) rfl rfl (Sub.cons (i := 0) rfl (Sub.cons (i := 4) rfl (Sub.nil _))))) (ih1 (i + 1, (nx 2) Kk x, cD ++ Range.cells (mkRange Kk x), cR2, hD, hR2) ?_ ?_)
      · exact ⟨by omega, endD_step hx hK, by rw [mkD_step hx hK]; exact hD_.snocP, hR_2⟩
      · show l.length - (i + 1) < l.length - i; omega
    · have hn3 := ge_of_dec h1
      refine EX rfl <| SQ <| RG <| MV rfl rfl <| AS rfl rfl <| ND <| ?_
      refine ret_ch (⟨g, 156, pre ++ (cD ++ (cR ++ rs))⟩ :: (hD ++ [])) Try.func76 (res1 Try.func76 rfl (rv_tmp rfl)) ?_ ?_
      · obtain rfl : i = l.length := by omega
        rw [List.drop_length] at hR_
        obtain ⟨rfl, rfl⟩ := hR_.nil_inv
        rw [List.take_length] at hK hD_
        refine ⟨by rw [hK], ?_⟩
        rw [List.append_nil]
        exact OwS.closeG hD_ (mkD_len _ _ _ _) hc1 hc2 (by have h1 := hD_.length eRange; rw [mkD_len] at h1; have h2 := hO.length eRange; rw [List.length_append] at hc3 ⊢; rw [List.nil_append]; omega)
      · exact List.Sublist.cons_cons _ (List.Sublist.append_left (List.nil_sublist _) _)

theorem laws_markRangeS {w : World} {A : Option Addr} {n c : Nat} {l : List Range} {ch : List Ck} {k : Int} (hO : OwS 156 2 (PlO Range.cells) (.slice A n c) l ch) (hb : l.length ≤ 1048576) (hk : 0 ≤ k ∧ k ≤ 36028797018963968) (hin : ∀ c ∈ ch, c.In w) (hnd : (ch.map Ck.b).Nodup) :
    CH Try.prog 76 [.slice A n c, .int .i64 k] w ch (fun v' ch' => v' = .int .i64 (endD (nx 2) k l) ∧ OwS 156 2 (PlO Range.cells) (.slice A n c) (mkD mkRange (nx 2) k l) ch') := by
  rcases hO.openG with ⟨rfl, rfl, rfl, rfl⟩ | ⟨g, pre, rs, cells, chs, rfl, rfl, hO2, rfl, hc1, hc2, hc3⟩
  · exact (laws_markRangeS_nil A k w).ch ⟨rfl, ⟨[], .inl ⟨A, rfl, rfl, rfl⟩⟩⟩
  · exact laws_markRangeS_b hO2 hb hk hc1 hc2 hc3 hin hnd

theorem laws_markSender {w : World} {x : Sender} {v0 v1 v2 v3 : Value} {c0 c1 c2 c3 : List Ck} {k : Int} (h0 : OwS 3 1 (PlO intC) v0 x.ring.cells c0) (h1 : OwS 156 2 (PlO Range.cells) v1 x.pending c1) (h2 : OwS 156 2 (PlO Range.cells) v2 x.flight c2) (h3 : OwS 156 2 (PlO Range.cells) v3 x.acked c3) (hb0 : x.ring.cells.length ≤ 1048576) (hb1 : x.pending.length ≤ 1048576) (hb2 : x.flight.length ≤ 1048576) (hb3 : x.acked.length ≤ 1048576) (hk : 0 ≤ k ∧ k ≤ 4503599627370496) (hin : ∀ c ∈ c0 ++ (c1 ++ (c2 ++ (c3))), c.In w) (hnd : ((c0 ++ (c1 ++ (c2 ++ (c3)))).map Ck.b).Nodup) : CH Try.prog 78 [.agg (Sender.row x v0 v1 v2 v3).toArray, .int .i64 k] w (c0 ++ (c1 ++ (c2 ++ (c3)))) (fun v' ch' => v' = .int .i64 (endD (nx 2) (endD (nx 2) (endD (nx 2) (endD (nx 1) k x.ring.cells) x.pending) x.flight) x.acked) ∧ ∃ c0 c1 c2 c3, ch' = c0 ++ (c1 ++ (c2 ++ (c3))) ∧ OwS 3 1 (PlO intC) v0 (mkD mkInt (nx 1) k x.ring.cells) c0 ∧ OwS 156 2 (PlO Range.cells) v1 (mkD mkRange (nx 2) (endD (nx 1) k x.ring.cells) x.pending) c1 ∧ OwS 156 2 (PlO Range.cells) v2 (mkD mkRange (nx 2) (endD (nx 2) (endD (nx 1) k x.ring.cells) x.pending) x.flight) c2 ∧ OwS 156 2 (PlO Range.cells) v3 (mkD mkRange (nx 2) (endD (nx 2) (endD (nx 2) (endD (nx 1) k x.ring.cells) x.pending) x.flight) x.acked) c3) := by
  obtain ⟨R0_, b0_, rfl, hR0_, hrd0_⟩ := h0.shape eInt
  obtain ⟨R1_, b1_, rfl, hR1_, hrd1_⟩ := h1.shape eRange
  obtain ⟨R2_, b2_, rfl, hR2_, hrd2_⟩ := h2.shape eRange
  obtain ⟨R3_, b3_, rfl, hR3_, hrd3_⟩ := h3.shape eRange
  refine ch_of hin hnd Try.func78 rfl rfl rfl <| gw_F (F' := c0 ++ (c1 ++ (c2 ++ (c3 ++ ([]))))) (by simp only [List.append_assoc]) <| SQ <| RG <| BX [_, _, _, _, _, _, _, _, _, _, _, _] rfl rfl rfl <| fun b1 => AS rfl rfl <| ND <| SQ <| RG <| FA rfl tyF_impl_Sender_1 rfl <| LS (i := 0) [_, _, _, _] rfl tyS_impl_Ring rfl rfl rfl rfl <| MV rfl rfl <| rw_ch (G := c0) (R := c1 ++ (c2 ++ (c3 ++ ([])))) rfl fun_laws_markRing rfl (((List.Perm.refl _).trans ((List.Perm.refl _).append_left _))) (fun w hs hin hnd => laws_markRing (x := x.ring) h0 hb0 (kto hk (by decide) (by decide) (by decide)) hin hnd) <| fun vh1 ch1 how1 => ?_
  obtain ⟨rfl, hO1_0⟩ := how1
  obtain ⟨hn1_0, hrv1_0, hR1_0, hrd1_0⟩ := hO1_0.reshape eInt
  have hkb2 : 0 ≤ (endD (nx 1) k x.ring.cells) ∧ (endD (nx 1) k x.ring.cells) ≤ 4503599628419072 := by
    have hkt := endD_all (nx := (nx 1)) 1 (by decide) hb0 (k := k) (fun x _ k => nx_bd (by decide) x k)
    omega
  refine AS rfl rfl <| ND <| SQ <| RG <| FA rfl tyF_impl_Sender_2 rfl <| LD (i := 0) rfl tyP_S_impl_Range rfl rfl rfl <| MV rfl rfl <| rw_ch (G := c1) (R := ch1 ++ (c2 ++ (c3 ++ ([])))) rfl fun_laws_markRangeS rfl ((((((List.Perm.refl _)).append_left _).trans (pullc _ _ _)).trans ((List.Perm.refl _).append_left _))) (fun w hs hin hnd => laws_markRangeS h1 hb1 (kto hkb2 (by decide) (by decide) (by decide)) hin hnd) <| fun vh3 ch3 how3 => ?_
  obtain ⟨rfl, hO3_0⟩ := how3
  obtain ⟨hn3_0, hrv3_0, hR3_0, hrd3_0⟩ := hO3_0.reshape eRange
  have hkb4 : 0 ≤ (endD (nx 2) (endD (nx 1) k x.ring.cells) x.pending) ∧ (endD (nx 2) (endD (nx 1) k x.ring.cells) x.pending) ≤ 4503599630516224 := by
    have hkt := endD_all (nx := (nx 2)) 2 (by decide) hb1 (k := (endD (nx 1) k x.ring.cells)) (fun x _ k => nx_bd (by decide) x k)
    omega
  refine AS rfl rfl <| ND <| SQ <| RG <| FA rfl tyF_impl_Sender_3 rfl <| LD (i := 0) rfl tyP_S_impl_Range rfl rfl rfl <| MV rfl rfl <| rw_ch (G := c2) (R := ch3 ++ (ch1 ++ (c3 ++ ([])))) rfl fun_laws_markRangeS rfl (((((((((List.Perm.refl _)).append_left _).trans (pullc _ _ _))).append_left _).trans (pullc _ _ _)).trans ((List.Perm.refl _).append_left _))) (fun w hs hin hnd => laws_markRangeS h2 hb2 (kto hkb4 (by decide) (by decide) (by decide)) hin hnd) <| fun vh5 ch5 how5 => ?_
  obtain ⟨rfl, hO5_0⟩ := how5
  obtain ⟨hn5_0, hrv5_0, hR5_0, hrd5_0⟩ := hO5_0.reshape eRange
  have hkb6 : 0 ≤ (endD (nx 2) (endD (nx 2) (endD (nx 1) k x.ring.cells) x.pending) x.flight) ∧ (endD (nx 2) (endD (nx 2) (endD (nx 1) k x.ring.cells) x.pending) x.flight) ≤ 4503599632613376 := by
    have hkt := endD_all (nx := (nx 2)) 2 (by decide) hb2 (k := (endD (nx 2) (endD (nx 1) k x.ring.cells) x.pending)) (fun x _ k => nx_bd (by decide) x k)
    omega
  refine AS rfl rfl <| ND <| SQ <| RG <| FA rfl tyF_impl_Sender_4 rfl <| LD (i := 0) rfl tyP_S_impl_Range rfl rfl rfl <| MV rfl rfl <| rw_ch (G := c3) (R := ch5 ++ (ch3 ++ (ch1 ++ ([])))) rfl fun_laws_markRangeS rfl ((((((((((((List.Perm.refl _)).append_left _).trans (pullc _ _ _))).append_left _).trans (pullc _ _ _))).append_left _).trans (pullc _ _ _)).trans ((List.Perm.refl _).append_left _))) (fun w hs hin hnd => laws_markRangeS h3 hb3 (kto hkb6 (by decide) (by decide) (by decide)) hin hnd) <| fun vh7 ch7 how7 => ?_
  obtain ⟨rfl, hO7_0⟩ := how7
  obtain ⟨hn7_0, hrv7_0, hR7_0, hrd7_0⟩ := hO7_0.reshape eRange
  have hkb8 : 0 ≤ (endD (nx 2) (endD (nx 2) (endD (nx 2) (endD (nx 1) k x.ring.cells) x.pending) x.flight) x.acked) ∧ (endD (nx 2) (endD (nx 2) (endD (nx 2) (endD (nx 1) k x.ring.cells) x.pending) x.flight) x.acked) ≤ 4503599634710528 := by
    have hkt := endD_all (nx := (nx 2)) 2 (by decide) hb3 (k := (endD (nx 2) (endD (nx 2) (endD (nx 1) k x.ring.cells) x.pending) x.flight)) (fun x _ k => nx_bd (by decide) x k)
    omega
  refine AS rfl rfl <| ND <| SQ <| RG <| MV rfl rfl <| AS rfl rfl <| ND <| ?_
  refine gw_FP (((((((((((List.Perm.refl _)).append_left _).trans (pullc _ _ _))).append_left _).trans (pullc _ _ _))).append_left _).trans (pullc _ _ _)).trans (((((((((List.Perm.refl _)).append_left _).trans (pullc _ _ _))).append_left _).trans (pullc _ _ _)).trans ((((((List.Perm.refl _)).append_left _).trans (pullc _ _ _)).trans (((List.Perm.refl _).trans ((List.Perm.refl _).append_left _)).append_left _)).append_left _)).append_left _)) (gw_F (F' := (ch1 ++ (ch3 ++ (ch5 ++ (ch7)))) ++ ([])) (by simp only [List.append_assoc]) ?_)
  refine ret_ch (ch1 ++ (ch3 ++ (ch5 ++ (ch7)))) Try.func78 (res1 Try.func78 rfl (rv_tmp rfl)) ?_ ?_
  · exact ⟨rfl, _, _, _, _, rfl, hO1_0, hO3_0, hO5_0, hO7_0⟩
  · exact (List.sublist_append_left _ _).trans (List.sublist_append_right _ _)

theorem laws_markText (k0 : Int) (h0 : 0 ≤ k0 ∧ k0 ≤ 1152921504606846976) (w : World) : CV Try.prog 150 [.int .i64 k0] w (.string ⟨(mtext k0).toArray⟩) := by
  refine cv_of Try.func150 rfl rfl rfl <| SQ <| RG <| AS rfl rfl <| ND <| SQ <| SQ <| RG <| MV rfl rfl <| rw_leq rfl rfl rfl <| ND <| ?_
  refine gw_cond rfl (fun h1 => ?_) (fun h1 => ?_)
  · refine SQ <| RG <| AS rfl rfl <| ND <| ret_cv Try.func150 (res1 Try.func150 rfl (rv_tmp rfl)) <| ?_
    have hm : mtext k0 = [109, 48] := by rw [mtext, h1]; rfl
    rw [hm]
  · refine SK <| SQ <| RG <| AS rfl rfl <| ND <| SQ <| BK <| ?_
    refine gw_loopC (α := Nat × Int × List UInt8) (fun z_ => mgo 19 k0 [] = mgo z_.1 z_.2.1 z_.2.2 ∧ (0 ≤ z_.2.1 ∧ z_.2.1 < 10 ^ z_.1) ∧ z_.2.2.length + z_.1 ≤ 19) (fun z_ => z_.1) (fun e z_ => (0, .int .i64 z_.2.1) :: (3, .string ⟨(z_.2.2).toArray⟩) :: e) (19, k0, []) [(2, _)] (Sub.consE rfl rfl (Sub.consE rfl rfl (Sub.cons (i := 2) rfl (Sub.nil _)))) ?_ ?_
    · exact ⟨rfl, ⟨h0.1, Int.lt_of_le_of_lt h0.2 (show (1152921504606846976 : Int) < 10 ^ 19 by decide)⟩, by simp⟩
    · rintro ⟨f, k, out⟩ hI1 ih1
      dsimp only at hI1
      dsimp only
      obtain ⟨hI, hk, ho⟩ := hI1
      have hk9 : k < 10 ^ 19 := Int.lt_of_lt_of_le hk.2 (pow_up (by omega))
      refine SQ <| SQ <| RG <| MV rfl rfl <| rw_gtr rfl rfl rfl <| ND <| ?_
      refine gw_cond rfl (fun h2 => ?_) (fun h2 => ?_)
      · obtain ⟨fp2, rfl⟩ := pos_fuel h2 hk.2
        refine SK <| BK <| SQ <| RG <| MV rfl rfl <| rw_rem rfl rfl rfl (by decide) <| rw_add rfl rfl rfl <| rw_convIe (((UInt8.ofNat (48 + Int.tmod k 10).toNat).toNat : Nat) : Int) rfl tyCI_int_uint8 rfl (dig_ok hk.1) <| rw_slice (xs := [(0, _)]) [_] rfl tyM_S_uint8 rfl rfl rfl rfl <| fun b1 => rw_convB (i := 0) [UInt8.ofNat (48 + Int.tmod k 10).toNat] rfl tyCB_S_uint8_string rfl rfl rfl rfl <| MV rfl rfl <| rw_catS rfl rfl rfl (by first | decide | omega | (simp; done) | (simp; omega)) (by first | decide | omega | (simp; done) | (simp; omega)) <| AS rfl rfl <| ?_
        refine ND <| RG <| MV rfl rfl <| rw_quoe (Int.tdiv k 10) rfl rfl rfl (by decide) (quo_in hk.1 hk9) <| AS rfl rfl <| ND <| IB <| gw_dropN 1 <| ?_
        refine gw_sub (Sub.consE (i := 0) rfl rfl (Sub.consE (i := 3) rfl rfl (Sub.cons (i := 2) rfl (Sub.nil _)))) (ih1 (fp2, Int.tdiv k 10, UInt8.ofNat (48 + Int.tmod k 10).toNat :: out) ?_ ?_)
        · have hq := quo_fuel hk.1 hk.2
          exact ⟨by rw [hI, mgo_go h2], hq.1, by simp only [List.length_cons]; omega⟩
        · show fp2 < fp2 + 1; omega
      · refine EX rfl <| SQ <| RG <| MV rfl rfl <| rw_catS rfl rfl rfl (by first | decide | omega | (simp; done) | (simp; omega)) (by first | decide | omega | (simp; done) | (simp; omega)) <| AS rfl rfl <| ND <| ret_cv Try.func150 (res1 Try.func150 rfl (rv_tmp rfl)) <| ?_
        have hm : mtext k0 = 109 :: out := by rw [mtext, h1, cond_false, hI, mgo_stop h2]
        rw [hm]; rfl

theorem laws_markChunkS_nil (A : Option Addr) (k : Int) (w : World) : CV Try.prog 77 [.slice A 0 0, .int .i64 k] w (.int .i64 k) := by
  refine cv_of Try.func77 rfl rfl rfl <| SQ <| RG <| AS rfl rfl <| ND <| SQ <| SQ <| RG <| AS rfl rfl <| ND <| BK <| gw_loop1 <| SQ <| SQ <| RG <| MV rfl rfl <| MV rfl rfl <| rw_len rfl tyE_S_impl_Chunk rfl <| rw_lss rfl rfl rfl <| ND <| CF rfl rfl <| EX rfl <| SQ <| RG <| MV rfl rfl <| AS rfl rfl <| ND <| ret_cv Try.func77 (res1 Try.func77 rfl (rv_tmp rfl)) <| ?_
  rfl

set_option maxRecDepth 20000 in
theorem laws_markChunkS_b {w : World} {g c : Nat} {pre rs cells : List Value} {chs : List Ck} {l : List Chunk} {k : Int} (hO : Ows (PlO Chunk.cells) l cells chs) (hb : l.length ≤ 1048576) (hk : 0 ≤ k ∧ k ≤ 36028797018963968) (hc1 : l.length ≤ c) (hc2 : c ≤ maxLen) (hc3 : (cells ++ rs).length = c * 2) (hin : ∀ c ∈ ((⟨g, 185, pre ++ (cells ++ rs)⟩ :: chs) : List Ck), c.In w) (hnd : (((⟨g, 185, pre ++ (cells ++ rs)⟩ :: chs) : List Ck).map Ck.b).Nodup) : CH Try.prog 77 [.slice (some ⟨g, pre.length, none⟩) l.length c, .int .i64 k] w (⟨g, 185, pre ++ (cells ++ rs)⟩ :: chs) (fun v' ch' => v' = .int .i64 (endD (nx 2) k l) ∧ OwS 185 2 (PlO Chunk.cells) (.slice (some ⟨g, pre.length, none⟩) l.length c) (mkD mkChunk (nx 2) k l) ch') := by
  refine ch_ofBF hin hnd Try.func77 rfl rfl rfl <| SQ <| RG <| AS rfl rfl <| ND <| SQ <| SQ <| RG <| AS rfl rfl <| ND <| BK <| ?_
  refine gw_loopX (α := Nat × Int × List Value × List Value × List Ck × List Ck) (fun z_ => z_.1 ≤ l.length ∧ z_.2.1 = endD (nx 2) k (l.take z_.1) ∧ Ows (PlO Chunk.cells) (mkD mkChunk (nx 2) k (l.take z_.1)) z_.2.2.1 z_.2.2.2.2.1 ∧ Ows (PlO Chunk.cells) (l.drop z_.1) z_.2.2.2.1 z_.2.2.2.2.2) (fun z_ => l.length - z_.1) (fun e z_ => (5, .int .i64 (z_.1 : Int)) :: (1, .int .i64 z_.2.1) :: e) (fun B z_ => [⟨g, 185, pre ++ (z_.2.2.1 ++ (z_.2.2.2.1 ++ rs))⟩]) (fun F z_ => z_.2.2.2.2.1 ++ (z_.2.2.2.2.2 ++ ([]))) (0, k, [], cells, [], chs) [(0, _), (4, _)] (Sub.consE rfl rfl (Sub.consE rfl rfl (Sub.cons (i := 0) rfl (Sub.cons (i := 4) rfl (Sub.nil _))))) rfl rfl ?_ ?_
  · exact ⟨Nat.zero_le _, rfl, .nil, hO⟩
  · rintro ⟨i, Kk, cD, cR, hD, hR⟩ hI1 ih1
    dsimp only at hI1
    dsimp only [List.set]
    obtain ⟨hle, hK, hD_, hR_⟩ := hI1
    have hkb : 0 ≤ Kk ∧ Kk ≤ 36028797021061120 := by
      have hkt := endD_le 2 (by decide) (i := i) hb (k := k) (fun x _ k => nx_bd (by decide) x k)
      rw [← hK] at hkt; omega
    refine SQ <| SQ <| RG <| MV rfl rfl <| MV rfl rfl <| rw_len rfl tyE_S_impl_Chunk rfl <| rw_lss rfl rfl rfl <| ND <| ?_
    refine gw_cond rfl (fun h1 => ?_) (fun h1 => ?_)
    · have hi2 := lt_of_dec h1
      obtain ⟨x, hx⟩ := get_of_lt hi2
      have hd2 := drop_cons hx
      rw [hd2] at hR_
      obtain ⟨mm, cR2, cx, hR2, rfl, rfl, hm, hR_2⟩ := hR_.uncons
      have hal : (pre ++ cD).length = pre.length + i * 2 := by
        rw [List.length_append, hD_.length eChunk, mkD_len, List.length_take]; congr 2; omega
      obtain ⟨rfl, rfl⟩ := hm
      refine gw_B blk_open <| SK <| SQ <| BK <| SQ <| RG <| MV rfl rfl <| MV rfl rfl <| MV rfl rfl <| rw_indexAddrO (i) rfl tyE_S_impl_Chunk rfl rfl rfl hi2 <| FA rfl tyF_impl_Chunk_0 rfl <| rw_storeM (off := 0) (j := 0) [_] [_, _] [_] tyP_int.sz rfl (mid_q (o := 0) hal) rfl rfl rfl rfl rfl rfl rfl rfl <| ND <| SQ <| RG <| MV rfl rfl <| rw_addK (Kk + 1) rfl rfl rfl (kinc0 (kup hkb)) <| AS rfl rfl <| ND <| gw_sub (Sub.cons (i := 0) rfl (Sub.cons (i := 1) rfl (Sub.cons (i := 4) rfl (Sub.cons (i := 5) rfl (Sub.nil _))))) <| SQ <| ?_
      refine RG <| MV rfl rfl <| MV rfl rfl <| MV rfl rfl <| CV1 rfl fun_laws_markText rfl (fun w hs => laws_markText (Kk + 1) (kplus hkb (by decide)) w) <| rw_indexAddrO (i) rfl tyE_S_impl_Chunk rfl rfl rfl hi2 <| FA rfl tyF_impl_Chunk_1 rfl <| rw_storeM (off := 1) (j := 0) [_] [_, _] [_] tyP_string.sz rfl (mid_q (o := 1) hal) rfl rfl rfl rfl rfl rfl rfl rfl <| ND <| RG <| MV rfl rfl <| rw_addK (Kk + 2) rfl rfl rfl (kinc (kup hkb) (by decide) (by decide) (by decide)) <| AS rfl rfl <| ND <| IB <| RG <| MV rfl rfl <| ?_
      refine rw_add rfl rfl rfl <| AS rfl rfl <| ND <| gw_sub (Sub.cons (i := 0) rfl (Sub.cons (i := 1) rfl (Sub.cons (i := 4) rfl (Sub.cons (i := 5) rfl (Sub.nil _))))) <| ?_
      refine gw_B blk_assoc <| ?_
      refine gw_sub (Sub.consE (i := 5) rfl (int_succ (by omega)) (Sub.consE (i := 1) rfl rfl (Sub.cons (i := 0) rfl (Sub.cons (i := 4) rfl (Sub.nil _))))) (ih1 (i + 1, (nx 2) Kk x, cD ++ Chunk.cells (mkChunk Kk x), cR2, hD, hR2) ?_ ?_)
      · exact ⟨by omega, endD_step hx hK, by rw [mkD_step hx hK]; exact hD_.snocP, hR_2⟩
      · show l.length - (i + 1) < l.length - i; omega
    · have hn3 := ge_of_dec h1
      refine EX rfl <| SQ <| RG <| MV rfl rfl <| AS rfl rfl <| ND <| ?_
      refine ret_ch (⟨g, 185, pre ++ (cD ++ (cR ++ rs))⟩ :: (hD ++ [])) Try.func77 (res1 Try.func77 rfl (rv_tmp rfl)) ?_ ?_
      · obtain rfl : i = l.length := by omega
        rw [List.drop_length] at hR_
        obtain ⟨rfl, rfl⟩ := hR_.nil_inv
        rw [List.take_length] at hK hD_
        refine ⟨by rw [hK], ?_⟩
        rw [List.append_nil]
        exact OwS.closeG hD_ (mkD_len _ _ _ _) hc1 hc2 (by have h1 := hD_.length eChunk; rw [mkD_len] at h1; have h2 := hO.length eChunk; rw [List.length_append] at hc3 ⊢; rw [List.nil_append]; omega)
      · exact List.Sublist.cons_cons _ (List.Sublist.append_left (List.nil_sublist _) _)

theorem laws_markChunkS {w : World} {A : Option Addr} {n c : Nat} {l : List Chunk} {ch : List Ck} {k : Int} (hO : OwS 185 2 (PlO Chunk.cells) (.slice A n c) l ch) (hb : l.length ≤ 1048576) (hk : 0 ≤ k ∧ k ≤ 36028797018963968) (hin : ∀ c ∈ ch, c.In w) (hnd : (ch.map Ck.b).Nodup) :
    CH Try.prog 77 [.slice A n c, .int .i64 k] w ch (fun v' ch' => v' = .int .i64 (endD (nx 2) k l) ∧ OwS 185 2 (PlO Chunk.cells) (.slice A n c) (mkD mkChunk (nx 2) k l) ch') := by
  rcases hO.openG with ⟨rfl, rfl, rfl, rfl⟩ | ⟨g, pre, rs, cells, chs, rfl, rfl, hO2, rfl, hc1, hc2, hc3⟩
  · exact (laws_markChunkS_nil A k w).ch ⟨rfl, ⟨[], .inl ⟨A, rfl, rfl, rfl⟩⟩⟩
  · exact laws_markChunkS_b hO2 hb hk hc1 hc2 hc3 hin hnd

theorem laws_markBuffer {w : World} {x : Buffer} {v0 : Value} {c0 : List Ck} {k : Int} (h0 : OwS 185 2 (PlO Chunk.cells) v0 x.chunks c0) (hb0 : x.chunks.length ≤ 1048576) (hk : 0 ≤ k ∧ k ≤ 9007199254740992) (hin : ∀ c ∈ c0, c.In w) (hnd : ((c0).map Ck.b).Nodup) : CH Try.prog 152 [.agg (Buffer.row x v0).toArray, .int .i64 k] w (c0) (fun v' ch' => v' = .int .i64 (endD (nx 2) k x.chunks) ∧ OwS 185 2 (PlO Chunk.cells) v0 (mkD mkChunk (nx 2) k x.chunks) ch') := by
  obtain ⟨R0_, b0_, rfl, hR0_, hrd0_⟩ := h0.shape eChunk
  refine ch_of hin hnd Try.func152 rfl rfl rfl <| SQ <| RG <| BX [_, _] rfl rfl rfl <| fun b1 => AS rfl rfl <| ND <| SQ <| RG <| FA rfl tyF_impl_Buffer_1 rfl <| LD (i := 0) rfl tyP_S_impl_Chunk rfl rfl rfl <| MV rfl rfl <| rw_ch (G := c0) (R := []) rfl fun_laws_markChunkS rfl (((List.Perm.refl _).trans ((List.Perm.refl _).append_left _))) (fun w hs hin hnd => laws_markChunkS h0 hb0 (kto hk (by decide) (by decide) (by decide)) hin hnd) <| fun vh1 ch1 how1 => ?_
  obtain ⟨rfl, hO1_0⟩ := how1
  obtain ⟨hn1_0, hrv1_0, hR1_0, hrd1_0⟩ := hO1_0.reshape eChunk
  have hkb2 : 0 ≤ (endD (nx 2) k x.chunks) ∧ (endD (nx 2) k x.chunks) ≤ 9007199256838144 := by
    have hkt := endD_all (nx := (nx 2)) 2 (by decide) hb0 (k := k) (fun x _ k => nx_bd (by decide) x k)
    omega
  refine AS rfl rfl <| ND <| SQ <| RG <| MV rfl rfl <| AS rfl rfl <| ND <| ?_
  refine gw_FP ((List.Perm.refl _).trans ((List.Perm.refl _).append_left _)) (gw_F (F' := (ch1) ++ ([])) (by simp only []) ?_)
  refine ret_ch (ch1) Try.func152 (res1 Try.func152 rfl (rv_tmp rfl)) ?_ ?_
  · exact ⟨rfl, hO1_0⟩
  · exact (List.sublist_append_left _ _).trans (List.sublist_append_right _ _)

theorem laws_markReceiver {w : World} {x : Receiver} {v0 : Value} {c0 : List Ck} {k : Int} (h0 : OwS 185 2 (PlO Chunk.cells) v0 x.buffer.chunks c0) (hb0 : x.buffer.chunks.length ≤ 1048576) (hk : 0 ≤ k ∧ k ≤ 4503599627370496) (hin : ∀ c ∈ c0, c.In w) (hnd : ((c0).map Ck.b).Nodup) : CH Try.prog 79 [.agg (Receiver.row x v0).toArray, .int .i64 k] w (c0) (fun v' ch' => v' = .int .i64 (endD (nx 2) k x.buffer.chunks) ∧ OwS 185 2 (PlO Chunk.cells) v0 (mkD mkChunk (nx 2) k x.buffer.chunks) ch') := by
  obtain ⟨R0_, b0_, rfl, hR0_, hrd0_⟩ := h0.shape eChunk
  refine ch_of hin hnd Try.func79 rfl rfl rfl <| SQ <| RG <| BX [_, _, _, _, _, _] rfl rfl rfl <| fun b1 => AS rfl rfl <| ND <| SQ <| RG <| FA rfl tyF_impl_Receiver_1 rfl <| LS (i := 0) [_, _] rfl tyS_impl_Buffer rfl rfl rfl rfl <| MV rfl rfl <| rw_ch (G := c0) (R := []) rfl fun_laws_markBuffer rfl (((List.Perm.refl _).trans ((List.Perm.refl _).append_left _))) (fun w hs hin hnd => laws_markBuffer (x := x.buffer) h0 hb0 (kto hk (by decide) (by decide) (by decide)) hin hnd) <| fun vh1 ch1 how1 => ?_
  obtain ⟨rfl, hO1_0⟩ := how1
  obtain ⟨hn1_0, hrv1_0, hR1_0, hrd1_0⟩ := hO1_0.reshape eChunk
  have hkb2 : 0 ≤ (endD (nx 2) k x.buffer.chunks) ∧ (endD (nx 2) k x.buffer.chunks) ≤ 4503599629467648 := by
    have hkt := endD_all (nx := (nx 2)) 2 (by decide) hb0 (k := k) (fun x _ k => nx_bd (by decide) x k)
    omega
  refine AS rfl rfl <| ND <| SQ <| RG <| MV rfl rfl <| AS rfl rfl <| ND <| ?_
  refine gw_FP ((List.Perm.refl _).trans ((List.Perm.refl _).append_left _)) (gw_F (F' := (ch1) ++ ([])) (by simp only []) ?_)
  refine ret_ch (ch1) Try.func79 (res1 Try.func79 rfl (rv_tmp rfl)) ?_ ?_
  · exact ⟨rfl, hO1_0⟩
  · exact (List.sublist_append_left _ _).trans (List.sublist_append_right _ _)

theorem laws_markStream {w : World} {x : Stream} {v0 v1 v2 v3 v4 : Value} {c0 c1 c2 c3 c4 : List Ck} {k : Int} (h0 : OwS 3 1 (PlO intC) v0 x.send.ring.cells c0) (h1 : OwS 156 2 (PlO Range.cells) v1 x.send.pending c1) (h2 : OwS 156 2 (PlO Range.cells) v2 x.send.flight c2) (h3 : OwS 156 2 (PlO Range.cells) v3 x.send.acked c3) (h4 : OwS 185 2 (PlO Chunk.cells) v4 x.recv.buffer.chunks c4) (hb0 : x.send.ring.cells.length ≤ 1048576) (hb1 : x.send.pending.length ≤ 1048576) (hb2 : x.send.flight.length ≤ 1048576) (hb3 : x.send.acked.length ≤ 1048576) (hb4 : x.recv.buffer.chunks.length ≤ 1048576) (hk : 0 ≤ k ∧ k ≤ 2251799813685248) (hin : ∀ c ∈ c0 ++ (c1 ++ (c2 ++ (c3 ++ (c4)))), c.In w) (hnd : ((c0 ++ (c1 ++ (c2 ++ (c3 ++ (c4))))).map Ck.b).Nodup) : CH Try.prog 22 [.agg (Stream.row x v0 v1 v2 v3 v4).toArray, .int .i64 k] w (c0 ++ (c1 ++ (c2 ++ (c3 ++ (c4))))) (fun v' ch' => v' = .int .i64 (endD (nx 2) (endD (nx 2) (endD (nx 2) (endD (nx 2) (endD (nx 1) k x.send.ring.cells) x.send.pending) x.send.flight) x.send.acked) x.recv.buffer.chunks) ∧ ∃ c0 c1 c2 c3 c4, ch' = c0 ++ (c1 ++ (c2 ++ (c3 ++ (c4)))) ∧ OwS 3 1 (PlO intC) v0 (mkD mkInt (nx 1) k x.send.ring.cells) c0 ∧ OwS 156 2 (PlO Range.cells) v1 (mkD mkRange (nx 2) (endD (nx 1) k x.send.ring.cells) x.send.pending) c1 ∧ OwS 156 2 (PlO Range.cells) v2 (mkD mkRange (nx 2) (endD (nx 2) (endD (nx 1) k x.send.ring.cells) x.send.pending) x.send.flight) c2 ∧ OwS 156 2 (PlO Range.cells) v3 (mkD mkRange (nx 2) (endD (nx 2) (endD (nx 2) (endD (nx 1) k x.send.ring.cells) x.send.pending) x.send.flight) x.send.acked) c3 ∧ OwS 185 2 (PlO Chunk.cells) v4 (mkD mkChunk (nx 2) (endD (nx 2) (endD (nx 2) (endD (nx 2) (endD (nx 1) k x.send.ring.cells) x.send.pending) x.send.flight) x.send.acked) x.recv.buffer.chunks) c4) := by
  obtain ⟨R0_, b0_, rfl, hR0_, hrd0_⟩ := h0.shape eInt
  obtain ⟨R1_, b1_, rfl, hR1_, hrd1_⟩ := h1.shape eRange
  obtain ⟨R2_, b2_, rfl, hR2_, hrd2_⟩ := h2.shape eRange
  obtain ⟨R3_, b3_, rfl, hR3_, hrd3_⟩ := h3.shape eRange
  obtain ⟨R4_, b4_, rfl, hR4_, hrd4_⟩ := h4.shape eChunk
  refine ch_of hin hnd Try.func22 rfl rfl rfl <| gw_F (F' := c0 ++ (c1 ++ (c2 ++ (c3 ++ (c4 ++ ([])))))) (by simp only [List.append_assoc]) <| SQ <| RG <| BX [_, _, _, _, _, _, _, _, _, _, _, _, _, _, _, _, _, _, _, _, _, _, _, _, _, _, _, _, _, _, _, _, _, _, _, _, _, _, _] rfl rfl rfl <| fun b1 => AS rfl rfl <| ND <| SQ <| RG <| FA rfl tyF_impl_Stream_1 rfl <| LS (i := 0) [_, _, _, _, _, _, _, _, _, _, _, _] rfl tyS_impl_Sender rfl rfl rfl rfl <| MV rfl rfl <| rw_ch (G := c0 ++ (c1 ++ (c2 ++ (c3)))) (R := c4 ++ ([])) rfl fun_laws_markSender rfl ((((List.Perm.refl _).trans (((List.Perm.refl _).trans (((List.Perm.refl _).trans (((List.Perm.refl _).trans ((List.Perm.refl _).append_left _)).append_left _)).append_left _)).append_left _))).trans (List.Perm.of_eq (by simp only [List.append_assoc]))) (fun w hs hin hnd => laws_markSender (x := x.send) h0 h1 h2 h3 hb0 hb1 hb2 hb3 (kto hk (by decide) (by decide) (by decide)) hin hnd) <| fun vh1 ch1 how1 => ?_
  obtain ⟨rfl, ch1_0, ch1_1, ch1_2, ch1_3, rfl, hO1_0, hO1_1, hO1_2, hO1_3⟩ := how1
  refine rw_F (F' := ch1_0 ++ (ch1_1 ++ (ch1_2 ++ (ch1_3 ++ (c4 ++ ([])))))) (by simp only [List.append_assoc]) <| ?_
  obtain ⟨hn1_0, hrv1_0, hR1_0, hrd1_0⟩ := hO1_0.reshape eInt
  obtain ⟨hn1_1, hrv1_1, hR1_1, hrd1_1⟩ := hO1_1.reshape eRange
  obtain ⟨hn1_2, hrv1_2, hR1_2, hrd1_2⟩ := hO1_2.reshape eRange
  obtain ⟨hn1_3, hrv1_3, hR1_3, hrd1_3⟩ := hO1_3.reshape eRange
  have hkb2 : 0 ≤ (endD (nx 1) k x.send.ring.cells) ∧ (endD (nx 1) k x.send.ring.cells) ≤ 2251799814733824 := by
    have hkt := endD_all (nx := (nx 1)) 1 (by decide) hb0 (k := k) (fun x _ k => nx_bd (by decide) x k)
    omega
  have hkb3 : 0 ≤ (endD (nx 2) (endD (nx 1) k x.send.ring.cells) x.send.pending) ∧ (endD (nx 2) (endD (nx 1) k x.send.ring.cells) x.send.pending) ≤ 2251799816830976 := by
    have hkt := endD_all (nx := (nx 2)) 2 (by decide) hb1 (k := (endD (nx 1) k x.send.ring.cells)) (fun x _ k => nx_bd (by decide) x k)
    omega
  have hkb4 : 0 ≤ (endD (nx 2) (endD (nx 2) (endD (nx 1) k x.send.ring.cells) x.send.pending) x.send.flight) ∧ (endD (nx 2) (endD (nx 2) (endD (nx 1) k x.send.ring.cells) x.send.pending) x.send.flight) ≤ 2251799818928128 := by
    have hkt := endD_all (nx := (nx 2)) 2 (by decide) hb2 (k := (endD (nx 2) (endD (nx 1) k x.send.ring.cells) x.send.pending)) (fun x _ k => nx_bd (by decide) x k)
    omega
  have hkb5 : 0 ≤ (endD (nx 2) (endD (nx 2) (endD (nx 2) (endD (nx 1) k x.send.ring.cells) x.send.pending) x.send.flight) x.send.acked) ∧ (endD (nx 2) (endD (nx 2) (endD (nx 2) (endD (nx 1) k x.send.ring.cells) x.send.pending) x.send.flight) x.send.acked) ≤ 2251799821025280 := by
    have hkt := endD_all (nx := (nx 2)) 2 (by decide) hb3 (k := (endD (nx 2) (endD (nx 2) (endD (nx 1) k x.send.ring.cells) x.send.pending) x.send.flight)) (fun x _ k => nx_bd (by decide) x k)
    omega
  refine AS rfl rfl <| ND <| SQ <| RG <| FA rfl tyF_impl_Stream_3 rfl <| LS (i := 0) [_, _, _, _, _, _] rfl tyS_impl_Receiver rfl rfl rfl rfl <| MV rfl rfl <| rw_ch (G := c4) (R := ch1_0 ++ (ch1_1 ++ (ch1_2 ++ (ch1_3 ++ ([]))))) rfl fun_laws_markReceiver rfl (((((((((((((((List.Perm.refl _)).append_left _).trans (pullc _ _ _))).append_left _).trans (pullc _ _ _))).append_left _).trans (pullc _ _ _))).append_left _).trans (pullc _ _ _)).trans ((List.Perm.refl _).append_left _))) (fun w hs hin hnd => laws_markReceiver (x := x.recv) h4 hb4 (kto hkb5 (by decide) (by decide) (by decide)) hin hnd) <| fun vh6 ch6 how6 => ?_
  obtain ⟨rfl, hO6_0⟩ := how6
  obtain ⟨hn6_0, hrv6_0, hR6_0, hrd6_0⟩ := hO6_0.reshape eChunk
  have hkb7 : 0 ≤ (endD (nx 2) (endD (nx 2) (endD (nx 2) (endD (nx 2) (endD (nx 1) k x.send.ring.cells) x.send.pending) x.send.flight) x.send.acked) x.recv.buffer.chunks) ∧ (endD (nx 2) (endD (nx 2) (endD (nx 2) (endD (nx 2) (endD (nx 1) k x.send.ring.cells) x.send.pending) x.send.flight) x.send.acked) x.recv.buffer.chunks) ≤ 2251799823122432 := by
    have hkt := endD_all (nx := (nx 2)) 2 (by decide) hb4 (k := (endD (nx 2) (endD (nx 2) (endD (nx 2) (endD (nx 1) k x.send.ring.cells) x.send.pending) x.send.flight) x.send.acked)) (fun x _ k => nx_bd (by decide) x k)
    omega
  refine AS rfl rfl <| ND <| SQ <| RG <| MV rfl rfl <| AS rfl rfl <| ND <| ?_
  refine gw_FP (((((List.Perm.refl _)).append_left _).trans (pullc _ _ _)).trans ((((((List.Perm.refl _)).append_left _).trans (pullc _ _ _)).trans ((((((List.Perm.refl _)).append_left _).trans (pullc _ _ _)).trans ((((((List.Perm.refl _)).append_left _).trans (pullc _ _ _)).trans (((List.Perm.refl _).trans ((List.Perm.refl _).append_left _)).append_left _)).append_left _)).append_left _)).append_left _)) (gw_F (F' := (ch1_0 ++ (ch1_1 ++ (ch1_2 ++ (ch1_3 ++ (ch6))))) ++ ([])) (by simp only [List.append_assoc]) ?_)
  refine ret_ch (ch1_0 ++ (ch1_1 ++ (ch1_2 ++ (ch1_3 ++ (ch6))))) Try.func22 (res1 Try.func22 rfl (rv_tmp rfl)) ?_ ?_
  · exact ⟨rfl, _, _, _, _, _, rfl, hO1_0, hO1_1, hO1_2, hO1_3, hO6_0⟩
  · exact (List.sublist_append_left _ _).trans (List.sublist_append_right _ _)

theorem laws_markStreamS_nil (A : Option Addr) (k : Int) (w : World) : CV Try.prog 21 [.slice A 0 0, .int .i64 k] w (.int .i64 k) := by
  refine cv_of Try.func21 rfl rfl rfl <| SQ <| RG <| AS rfl rfl <| ND <| SQ <| SQ <| RG <| AS rfl rfl <| ND <| BK <| gw_loop1 <| SQ <| SQ <| RG <| MV rfl rfl <| MV rfl rfl <| rw_len rfl tyE_S_impl_Stream rfl <| rw_lss rfl rfl rfl <| ND <| CF rfl rfl <| EX rfl <| SQ <| RG <| MV rfl rfl <| AS rfl rfl <| ND <| ret_cv Try.func21 (res1 Try.func21 rfl (rv_tmp rfl)) <| ?_
  rfl

set_option maxHeartbeats 4000000 in
set_option maxRecDepth 20000 in
theorem laws_markStreamS_b {w : World} {g c : Nat} {pre rs cells : List Value} {chs : List Ck} {l : List Stream} {k : Int} (hO : Ows OwStream l cells chs) (hb : l.length ≤ 1048576) (hall : ∀ x ∈ l, x.le 1048576) (hk : 0 ≤ k ∧ k ≤ 1125899906842624) (hc1 : l.length ≤ c) (hc2 : c ≤ maxLen) (hc3 : (cells ++ rs).length = c * 39) (hin : ∀ c ∈ ((⟨g, 56, pre ++ (cells ++ rs)⟩ :: chs) : List Ck), c.In w) (hnd : (((⟨g, 56, pre ++ (cells ++ rs)⟩ :: chs) : List Ck).map Ck.b).Nodup) : CH Try.prog 21 [.slice (some ⟨g, pre.length, none⟩) l.length c, .int .i64 k] w (⟨g, 56, pre ++ (cells ++ rs)⟩ :: chs) (fun v' ch' => v' = .int .i64 (endD kS6 k l) ∧ OwS 56 39 OwStream (.slice (some ⟨g, pre.length, none⟩) l.length c) (mkD mkStream kS6 k l) ch') := by
  refine ch_ofBF hin hnd Try.func21 rfl rfl rfl <| SQ <| RG <| AS rfl rfl <| ND <| SQ <| SQ <| RG <| AS rfl rfl <| ND <| BK <| ?_
  refine gw_loopX (α := Nat × Int × List Value × List Value × List Ck × List Ck) (fun z_ => z_.1 ≤ l.length ∧ z_.2.1 = endD kS6 k (l.take z_.1) ∧ Ows OwStream (mkD mkStream kS6 k (l.take z_.1)) z_.2.2.1 z_.2.2.2.2.1 ∧ Ows OwStream (l.drop z_.1) z_.2.2.2.1 z_.2.2.2.2.2) (fun z_ => l.length - z_.1) (fun e z_ => (5, .int .i64 (z_.1 : Int)) :: (1, .int .i64 z_.2.1) :: e) (fun B z_ => [⟨g, 56, pre ++ (z_.2.2.1 ++ (z_.2.2.2.1 ++ rs))⟩]) (fun F z_ => z_.2.2.2.2.1 ++ (z_.2.2.2.2.2 ++ ([]))) (0, k, [], cells, [], chs) [(0, _), (4, _)] (Sub.consE rfl rfl (Sub.consE rfl rfl (Sub.cons (i := 0) rfl (Sub.cons (i := 4) rfl (Sub.nil _))))) rfl rfl ?_ ?_
  · exact ⟨Nat.zero_le _, rfl, .nil, hO⟩
  · rintro ⟨i, Kk, cD, cR, hD, hR⟩ hI1 ih1
    dsimp only at hI1
    dsimp only [List.set]
    obtain ⟨hle, hK, hD_, hR_⟩ := hI1
    have hkb : 0 ≤ Kk ∧ Kk ≤ 1135795547144192 := by
      have hkt := endD_le 9437218 (by decide) (i := i) hb (k := k) (fun x hx k => kS6_bd (hall x hx) k)
      rw [← hK] at hkt; omega
    refine SQ <| SQ <| RG <| MV rfl rfl <| MV rfl rfl <| rw_len rfl tyE_S_impl_Stream rfl <| rw_lss rfl rfl rfl <| ND <| ?_
    refine gw_cond rfl (fun h1 => ?_) (fun h1 => ?_)
    · have hi2 := lt_of_dec h1
      obtain ⟨x, hx⟩ := get_of_lt hi2
      have hd2 := drop_cons hx
      rw [hd2] at hR_
      obtain ⟨mm, cR2, cx, hR2, rfl, rfl, hm, hR_2⟩ := hR_.uncons
      have hal : (pre ++ cD).length = pre.length + i * 39 := by
        rw [List.length_append, hD_.length eStream, mkD_len, List.length_take]; congr 2; omega
      obtain ⟨v0, v1, v2, v3, v4, cc0, cc1, cc2, cc3, cc4, rfl, ho0, ho1, ho2, ho3, ho4, rfl⟩ := hm
      obtain ⟨hbx0, hbx1, hbx2, hbx3, hbx4, hbx5⟩ := hall x (List.mem_of_getElem? hx)
      have hle_x : x.le 1048576 := hall x (List.mem_of_getElem? hx)
      obtain ⟨R0_, b0_, rfl, hR0_, hrd0_⟩ := ho0.shape eInt
      obtain ⟨R1_, b1_, rfl, hR1_, hrd1_⟩ := ho1.shape eRange
      obtain ⟨R2_, b2_, rfl, hR2_, hrd2_⟩ := ho2.shape eRange
      obtain ⟨R3_, b3_, rfl, hR3_, hrd3_⟩ := ho3.shape eRange
      obtain ⟨R4_, b4_, rfl, hR4_, hrd4_⟩ := ho4.shape eChunk
      refine gw_B blk_open <| gw_F (F' := hD ++ (cc0 ++ (cc1 ++ (cc2 ++ (cc3 ++ (cc4 ++ (hR2 ++ ([])))))))) (by simp only [List.append_assoc]) <| SK <| SQ <| BK <| SQ <| RG <| MV rfl rfl <| MV rfl rfl <| MV rfl rfl <| rw_indexAddrO (i) rfl tyE_S_impl_Stream rfl rfl rfl hi2 <| FA rfl tyF_impl_Stream_0 rfl <| rw_storeM (off := 0) (j := 0) [_] [_, _, _, _, _, _, _, _, _, _, _, _, _, _, _, _, _, _, _, _, _, _, _, _, _, _, _, _, _, _, _, _, _, _, _, _, _, _, _] [_] tyP_int.sz rfl (mid_q (o := 0) hal) rfl rfl rfl rfl rfl rfl rfl rfl <| ND <| SQ <| RG <| MV rfl rfl <| ?_
      refine rw_addK (Kk + 1) rfl rfl rfl (kinc0 (kup hkb)) <| AS rfl rfl <| ND <| gw_sub (Sub.cons (i := 0) rfl (Sub.cons (i := 1) rfl (Sub.cons (i := 4) rfl (Sub.cons (i := 5) rfl (Sub.nil _))))) <| SQ <| RG <| MV rfl rfl <| MV rfl rfl <| MV rfl rfl <| rw_indexAddrO (i) rfl tyE_S_impl_Stream rfl rfl rfl hi2 <| FA rfl tyF_impl_Stream_1 rfl <| FA rfl tyF_impl_Sender_0 rfl <| rw_storeM (off := 1) (j := 0) [_] [_, _, _, _, _, _, _, _, _, _, _, _, _, _, _, _, _, _, _, _, _, _, _, _, _, _, _, _, _, _, _, _, _, _, _, _, _, _, _] [_] tyP_int.sz rfl (mid_q (o := 1) hal) rfl rfl rfl rfl rfl rfl rfl rfl <| ?_
      refine ND <| SQ <| RG <| MV rfl rfl <| rw_addK (Kk + 2) rfl rfl rfl (kinc (kup hkb) (by decide) (by decide) (by decide)) <| AS rfl rfl <| ND <| SQ <| RG <| MV rfl rfl <| MV rfl rfl <| MV rfl rfl <| rw_indexAddrO (i) rfl tyE_S_impl_Stream rfl rfl rfl hi2 <| FA rfl tyF_impl_Stream_1 rfl <| FA rfl tyF_impl_Sender_1 rfl <| FA rfl tyF_impl_Ring_0 rfl <| rw_storeM (off := 2) (j := 0) [_] [_, _, _, _, _, _, _, _, _, _, _, _, _, _, _, _, _, _, _, _, _, _, _, _, _, _, _, _, _, _, _, _, _, _, _, _, _, _, _] [_] tyP_int.sz rfl (mid_q (o := 2) hal) rfl rfl rfl rfl rfl rfl rfl rfl <| ?_
      refine ND <| gw_sub (Sub.cons (i := 0) rfl (Sub.cons (i := 1) rfl (Sub.cons (i := 4) rfl (Sub.cons (i := 5) rfl (Sub.nil _))))) <| SQ <| RG <| MV rfl rfl <| rw_addK (Kk + 3) rfl rfl rfl (kinc (kup hkb) (by decide) (by decide) (by decide)) <| AS rfl rfl <| ND <| SQ <| RG <| MV rfl rfl <| MV rfl rfl <| MV rfl rfl <| rw_indexAddrO (i) rfl tyE_S_impl_Stream rfl rfl rfl hi2 <| FA rfl tyF_impl_Stream_1 rfl <| FA rfl tyF_impl_Sender_1 rfl <| FA rfl tyF_impl_Ring_1 rfl <| rw_storeM (off := 3) (j := 0) [_] [_, _, _, _, _, _, _, _, _, _, _, _, _, _, _, _, _, _, _, _, _, _, _, _, _, _, _, _, _, _, _, _, _, _, _, _, _, _, _] [_] tyP_int.sz rfl (mid_q (o := 3) hal) rfl rfl rfl rfl rfl rfl rfl rfl <| ?_
      refine ND <| SQ <| RG <| MV rfl rfl <| rw_addK (Kk + 4) rfl rfl rfl (kinc (kup hkb) (by decide) (by decide) (by decide)) <| AS rfl rfl <| ND <| gw_sub (Sub.cons (i := 0) rfl (Sub.cons (i := 1) rfl (Sub.cons (i := 4) rfl (Sub.cons (i := 5) rfl (Sub.nil _))))) <| SQ <| RG <| MV rfl rfl <| MV rfl rfl <| MV rfl rfl <| rw_indexAddrO (i) rfl tyE_S_impl_Stream rfl rfl rfl hi2 <| FA rfl tyF_impl_Stream_1 rfl <| FA rfl tyF_impl_Sender_1 rfl <| FA rfl tyF_impl_Ring_2 rfl <| rw_storeM (off := 4) (j := 0) [_] [_, _, _, _, _, _, _, _, _, _, _, _, _, _, _, _, _, _, _, _, _, _, _, _, _, _, _, _, _, _, _, _, _, _, _, _, _, _, _] [_] tyP_int.sz rfl (mid_q (o := 4) hal) rfl rfl rfl rfl rfl rfl rfl rfl <| ?_
      refine ND <| SQ <| RG <| MV rfl rfl <| rw_addK (Kk + 5) rfl rfl rfl (kinc (kup hkb) (by decide) (by decide) (by decide)) <| AS rfl rfl <| ND <| SQ <| RG <| MV rfl rfl <| MV rfl rfl <| rw_indexAddrO (i) rfl tyE_S_impl_Stream rfl rfl rfl hi2 <| FA rfl tyF_impl_Stream_1 rfl <| FA rfl tyF_impl_Sender_1 rfl <| FA rfl tyF_impl_Ring_3 rfl <| rw_loadM (off := 5) (j := 0) rfl tyP_S_int rfl (mid_q (o := 5) hal) rfl rfl <| MV rfl rfl <| rw_ch (G := cc0) (R := hD ++ (cc1 ++ (cc2 ++ (cc3 ++ (cc4 ++ (hR2 ++ ([]))))))) rfl fun_laws_markIntS rfl ((((((List.Perm.refl _)).append_left _).trans (pullc _ _ _)).trans ((List.Perm.refl _).append_left _))) (fun w hs hin hnd => laws_markIntS ho0 hbx0 (ktoc hkb (by decide) (by decide) (by decide)) hin hnd) <| fun vh3 ch3 how3 => ?_
      obtain ⟨rfl, hO3_0⟩ := how3
      obtain ⟨hn3_0, hrv3_0, hR3_0, hrd3_0⟩ := hO3_0.reshape eInt
      have hkb4 : 0 ≤ (kS1 Kk x) ∧ (kS1 Kk x) ≤ 1135795556581391 := by
        have hkt := kS_bd hle_x Kk
        omega
      refine AS rfl rfl <| ND <| gw_sub (Sub.cons (i := 0) rfl (Sub.cons (i := 1) rfl (Sub.cons (i := 4) rfl (Sub.cons (i := 5) rfl (Sub.nil _))))) <| SQ <| RG <| MV rfl rfl <| MV rfl rfl <| rw_indexAddrO (i) rfl tyE_S_impl_Stream rfl rfl rfl hi2 <| FA rfl tyF_impl_Stream_1 rfl <| FA rfl tyF_impl_Sender_2 rfl <| rw_loadM (off := 6) (j := 0) rfl tyP_S_impl_Range rfl (mid_q (o := 6) hal) rfl rfl <| MV rfl rfl <| rw_ch (G := cc1) (R := ch3 ++ (hD ++ (cc2 ++ (cc3 ++ (cc4 ++ (hR2 ++ ([]))))))) rfl fun_laws_markRangeS rfl (((((((((List.Perm.refl _)).append_left _).trans (pullc _ _ _))).append_left _).trans (pullc _ _ _)).trans ((List.Perm.refl _).append_left _))) (fun w hs hin hnd => laws_markRangeS ho1 hbx1 (kto hkb4 (by decide) (by decide) (by decide)) hin hnd) <| fun vh5 ch5 how5 => ?_
      obtain ⟨rfl, hO5_0⟩ := how5
      obtain ⟨hn5_0, hrv5_0, hR5_0, hrd5_0⟩ := hO5_0.reshape eRange
      have hkb6 : 0 ≤ (kS2 Kk x) ∧ (kS2 Kk x) ≤ 1135795556581391 := by
        have hkt := kS_bd hle_x Kk
        omega
      refine AS rfl rfl <| ND <| SQ <| RG <| MV rfl rfl <| MV rfl rfl <| rw_indexAddrO (i) rfl tyE_S_impl_Stream rfl rfl rfl hi2 <| FA rfl tyF_impl_Stream_1 rfl <| FA rfl tyF_impl_Sender_3 rfl <| rw_loadM (off := 7) (j := 0) rfl tyP_S_impl_Range rfl (mid_q (o := 7) hal) rfl rfl <| MV rfl rfl <| rw_ch (G := cc2) (R := ch5 ++ (ch3 ++ (hD ++ (cc3 ++ (cc4 ++ (hR2 ++ ([]))))))) rfl fun_laws_markRangeS rfl ((((((((((((List.Perm.refl _)).append_left _).trans (pullc _ _ _))).append_left _).trans (pullc _ _ _))).append_left _).trans (pullc _ _ _)).trans ((List.Perm.refl _).append_left _))) (fun w hs hin hnd => laws_markRangeS ho2 hbx2 (kto hkb6 (by decide) (by decide) (by decide)) hin hnd) <| fun vh7 ch7 how7 => ?_
      obtain ⟨rfl, hO7_0⟩ := how7
      obtain ⟨hn7_0, hrv7_0, hR7_0, hrd7_0⟩ := hO7_0.reshape eRange
      have hkb8 : 0 ≤ (kS3 Kk x) ∧ (kS3 Kk x) ≤ 1135795556581391 := by
        have hkt := kS_bd hle_x Kk
        omega
      refine AS rfl rfl <| ND <| gw_sub (Sub.cons (i := 0) rfl (Sub.cons (i := 1) rfl (Sub.cons (i := 4) rfl (Sub.cons (i := 5) rfl (Sub.nil _))))) <| SQ <| RG <| MV rfl rfl <| MV rfl rfl <| rw_indexAddrO (i) rfl tyE_S_impl_Stream rfl rfl rfl hi2 <| FA rfl tyF_impl_Stream_1 rfl <| FA rfl tyF_impl_Sender_4 rfl <| rw_loadM (off := 8) (j := 0) rfl tyP_S_impl_Range rfl (mid_q (o := 8) hal) rfl rfl <| MV rfl rfl <| rw_ch (G := cc3) (R := ch7 ++ (ch5 ++ (ch3 ++ (hD ++ (cc4 ++ (hR2 ++ ([]))))))) rfl fun_laws_markRangeS rfl (((((((((((((((List.Perm.refl _)).append_left _).trans (pullc _ _ _))).append_left _).trans (pullc _ _ _))).append_left _).trans (pullc _ _ _))).append_left _).trans (pullc _ _ _)).trans ((List.Perm.refl _).append_left _))) (fun w hs hin hnd => laws_markRangeS ho3 hbx3 (kto hkb8 (by decide) (by decide) (by decide)) hin hnd) <| fun vh9 ch9 how9 => ?_
      obtain ⟨rfl, hO9_0⟩ := how9
      obtain ⟨hn9_0, hrv9_0, hR9_0, hrd9_0⟩ := hO9_0.reshape eRange
      have hkb10 : 0 ≤ (kS4 Kk x) ∧ (kS4 Kk x) ≤ 1135795556581391 := by
        have hkt := kS_bd hle_x Kk
        omega
      refine AS rfl rfl <| ND <| SQ <| RG <| MV rfl rfl <| MV rfl rfl <| MV rfl rfl <| rw_indexAddrO (i) rfl tyE_S_impl_Stream rfl rfl rfl hi2 <| FA rfl tyF_impl_Stream_1 rfl <| FA rfl tyF_impl_Sender_5 rfl <| rw_storeM (off := 9) (j := 0) [_] [_, _, _, _, _, _, _, _, _, _, _, _, _, _, _, _, _, _, _, _, _, _, _, _, _, _, _, _, _, _, _, _, _, _, _, _, _, _, _] [_] tyP_int.sz rfl (mid_q (o := 9) hal) rfl rfl rfl rfl rfl rfl rfl rfl <| ND <| gw_sub (Sub.cons (i := 0) rfl (Sub.cons (i := 1) rfl (Sub.cons (i := 4) rfl (Sub.cons (i := 5) rfl (Sub.nil _))))) <| ?_
      refine SQ <| RG <| MV rfl rfl <| rw_addK ((kS4 Kk x) + 1) rfl rfl rfl (kinc0 (kup hkb10)) <| AS rfl rfl <| ND <| SQ <| RG <| MV rfl rfl <| MV rfl rfl <| MV rfl rfl <| rw_indexAddrO (i) rfl tyE_S_impl_Stream rfl rfl rfl hi2 <| FA rfl tyF_impl_Stream_1 rfl <| FA rfl tyF_impl_Sender_6 rfl <| rw_storeM (off := 10) (j := 0) [_] [_, _, _, _, _, _, _, _, _, _, _, _, _, _, _, _, _, _, _, _, _, _, _, _, _, _, _, _, _, _, _, _, _, _, _, _, _, _, _] [_] tyP_int.sz rfl (mid_q (o := 10) hal) rfl rfl rfl rfl rfl rfl rfl rfl <| ?_
      refine ND <| SQ <| RG <| MV rfl rfl <| rw_addK ((kS4 Kk x) + 2) rfl rfl rfl (kinc (kup hkb10) (by decide) (by decide) (by decide)) <| AS rfl rfl <| ND <| gw_sub (Sub.cons (i := 0) rfl (Sub.cons (i := 1) rfl (Sub.cons (i := 4) rfl (Sub.cons (i := 5) rfl (Sub.nil _))))) <| SQ <| RG <| MV rfl rfl <| MV rfl rfl <| MV rfl rfl <| rw_indexAddrO (i) rfl tyE_S_impl_Stream rfl rfl rfl hi2 <| FA rfl tyF_impl_Stream_1 rfl <| FA rfl tyF_impl_Sender_7 rfl <| rw_storeM (off := 11) (j := 0) [_] [_, _, _, _, _, _, _, _, _, _, _, _, _, _, _, _, _, _, _, _, _, _, _, _, _, _, _, _, _, _, _, _, _, _, _, _, _, _, _] [_] tyP_int.sz rfl (mid_q (o := 11) hal) rfl rfl rfl rfl rfl rfl rfl rfl <| ?_
      refine ND <| SQ <| RG <| MV rfl rfl <| rw_addK ((kS4 Kk x) + 3) rfl rfl rfl (kinc (kup hkb10) (by decide) (by decide) (by decide)) <| AS rfl rfl <| ND <| SQ <| RG <| MV rfl rfl <| MV rfl rfl <| MV rfl rfl <| rw_indexAddrO (i) rfl tyE_S_impl_Stream rfl rfl rfl hi2 <| FA rfl tyF_impl_Stream_1 rfl <| FA rfl tyF_impl_Sender_8 rfl <| rw_storeM (off := 12) (j := 0) [_] [_, _, _, _, _, _, _, _, _, _, _, _, _, _, _, _, _, _, _, _, _, _, _, _, _, _, _, _, _, _, _, _, _, _, _, _, _, _, _] [_] tyP_int.sz rfl (mid_q (o := 12) hal) rfl rfl rfl rfl rfl rfl rfl rfl <| ?_
      refine ND <| gw_sub (Sub.cons (i := 0) rfl (Sub.cons (i := 1) rfl (Sub.cons (i := 4) rfl (Sub.cons (i := 5) rfl (Sub.nil _))))) <| SQ <| RG <| MV rfl rfl <| rw_addK ((kS4 Kk x) + 4) rfl rfl rfl (kinc (kup hkb10) (by decide) (by decide) (by decide)) <| AS rfl rfl <| ND <| SQ <| RG <| MV rfl rfl <| MV rfl rfl <| MV rfl rfl <| rw_indexAddrO (i) rfl tyE_S_impl_Stream rfl rfl rfl hi2 <| FA rfl tyF_impl_Stream_2 rfl <| FA rfl tyF_impl_Credit_0 rfl <| rw_storeM (off := 13) (j := 0) [_] [_, _, _, _, _, _, _, _, _, _, _, _, _, _, _, _, _, _, _, _, _, _, _, _, _, _, _, _, _, _, _, _, _, _, _, _, _, _, _] [_] tyP_int.sz rfl (mid_q (o := 13) hal) rfl rfl rfl rfl rfl rfl rfl rfl <| ?_
      refine ND <| SQ <| RG <| MV rfl rfl <| rw_addK ((kS4 Kk x) + 5) rfl rfl rfl (kinc (kup hkb10) (by decide) (by decide) (by decide)) <| AS rfl rfl <| ND <| gw_sub (Sub.cons (i := 0) rfl (Sub.cons (i := 1) rfl (Sub.cons (i := 4) rfl (Sub.cons (i := 5) rfl (Sub.nil _))))) <| SQ <| RG <| MV rfl rfl <| MV rfl rfl <| MV rfl rfl <| rw_indexAddrO (i) rfl tyE_S_impl_Stream rfl rfl rfl hi2 <| FA rfl tyF_impl_Stream_2 rfl <| FA rfl tyF_impl_Credit_1 rfl <| rw_storeM (off := 14) (j := 0) [_] [_, _, _, _, _, _, _, _, _, _, _, _, _, _, _, _, _, _, _, _, _, _, _, _, _, _, _, _, _, _, _, _, _, _, _, _, _, _, _] [_] tyP_int.sz rfl (mid_q (o := 14) hal) rfl rfl rfl rfl rfl rfl rfl rfl <| ?_
      refine ND <| SQ <| RG <| MV rfl rfl <| rw_addK ((kS4 Kk x) + 6) rfl rfl rfl (kinc (kup hkb10) (by decide) (by decide) (by decide)) <| AS rfl rfl <| ND <| SQ <| RG <| MV rfl rfl <| MV rfl rfl <| MV rfl rfl <| rw_indexAddrO (i) rfl tyE_S_impl_Stream rfl rfl rfl hi2 <| FA rfl tyF_impl_Stream_2 rfl <| FA rfl tyF_impl_Credit_2 rfl <| rw_storeM (off := 15) (j := 0) [_] [_, _, _, _, _, _, _, _, _, _, _, _, _, _, _, _, _, _, _, _, _, _, _, _, _, _, _, _, _, _, _, _, _, _, _, _, _, _, _] [_] tyP_int.sz rfl (mid_q (o := 15) hal) rfl rfl rfl rfl rfl rfl rfl rfl <| ?_
      refine ND <| gw_sub (Sub.cons (i := 0) rfl (Sub.cons (i := 1) rfl (Sub.cons (i := 4) rfl (Sub.cons (i := 5) rfl (Sub.nil _))))) <| SQ <| RG <| MV rfl rfl <| rw_addK ((kS4 Kk x) + 7) rfl rfl rfl (kinc (kup hkb10) (by decide) (by decide) (by decide)) <| AS rfl rfl <| ND <| SQ <| RG <| MV rfl rfl <| MV rfl rfl <| MV rfl rfl <| rw_indexAddrO (i) rfl tyE_S_impl_Stream rfl rfl rfl hi2 <| FA rfl tyF_impl_Stream_2 rfl <| FA rfl tyF_impl_Credit_3 rfl <| rw_storeM (off := 16) (j := 0) [_] [_, _, _, _, _, _, _, _, _, _, _, _, _, _, _, _, _, _, _, _, _, _, _, _, _, _, _, _, _, _, _, _, _, _, _, _, _, _, _] [_] tyP_int.sz rfl (mid_q (o := 16) hal) rfl rfl rfl rfl rfl rfl rfl rfl <| ?_
      refine ND <| SQ <| RG <| MV rfl rfl <| rw_addK ((kS4 Kk x) + 8) rfl rfl rfl (kinc (kup hkb10) (by decide) (by decide) (by decide)) <| AS rfl rfl <| ND <| gw_sub (Sub.cons (i := 0) rfl (Sub.cons (i := 1) rfl (Sub.cons (i := 4) rfl (Sub.cons (i := 5) rfl (Sub.nil _))))) <| SQ <| RG <| MV rfl rfl <| MV rfl rfl <| MV rfl rfl <| rw_indexAddrO (i) rfl tyE_S_impl_Stream rfl rfl rfl hi2 <| FA rfl tyF_impl_Stream_3 rfl <| FA rfl tyF_impl_Receiver_0 rfl <| rw_storeM (off := 17) (j := 0) [_] [_, _, _, _, _, _, _, _, _, _, _, _, _, _, _, _, _, _, _, _, _, _, _, _, _, _, _, _, _, _, _, _, _, _, _, _, _, _, _] [_] tyP_int.sz rfl (mid_q (o := 17) hal) rfl rfl rfl rfl rfl rfl rfl rfl <| ?_
      refine ND <| SQ <| RG <| MV rfl rfl <| rw_addK ((kS4 Kk x) + 9) rfl rfl rfl (kinc (kup hkb10) (by decide) (by decide) (by decide)) <| AS rfl rfl <| ND <| SQ <| RG <| MV rfl rfl <| MV rfl rfl <| MV rfl rfl <| rw_indexAddrO (i) rfl tyE_S_impl_Stream rfl rfl rfl hi2 <| FA rfl tyF_impl_Stream_3 rfl <| FA rfl tyF_impl_Receiver_1 rfl <| FA rfl tyF_impl_Buffer_0 rfl <| rw_storeM (off := 18) (j := 0) [_] [_, _, _, _, _, _, _, _, _, _, _, _, _, _, _, _, _, _, _, _, _, _, _, _, _, _, _, _, _, _, _, _, _, _, _, _, _, _, _] [_] tyP_int.sz rfl (mid_q (o := 18) hal) rfl rfl rfl rfl rfl rfl rfl rfl <| ?_
      refine ND <| gw_sub (Sub.cons (i := 0) rfl (Sub.cons (i := 1) rfl (Sub.cons (i := 4) rfl (Sub.cons (i := 5) rfl (Sub.nil _))))) <| SQ <| RG <| MV rfl rfl <| rw_addK ((kS4 Kk x) + 10) rfl rfl rfl (kinc (kup hkb10) (by decide) (by decide) (by decide)) <| AS rfl rfl <| ND <| SQ <| RG <| MV rfl rfl <| MV rfl rfl <| rw_indexAddrO (i) rfl tyE_S_impl_Stream rfl rfl rfl hi2 <| FA rfl tyF_impl_Stream_3 rfl <| FA rfl tyF_impl_Receiver_1 rfl <| FA rfl tyF_impl_Buffer_1 rfl <| rw_loadM (off := 19) (j := 0) rfl tyP_S_impl_Chunk rfl (mid_q (o := 19) hal) rfl rfl <| ?_
      refine MV rfl rfl <| rw_ch (G := cc4) (R := ch9 ++ (ch7 ++ (ch5 ++ (ch3 ++ (hD ++ (hR2 ++ ([]))))))) rfl fun_laws_markChunkS rfl ((((((((((((((((((List.Perm.refl _)).append_left _).trans (pullc _ _ _))).append_left _).trans (pullc _ _ _))).append_left _).trans (pullc _ _ _))).append_left _).trans (pullc _ _ _))).append_left _).trans (pullc _ _ _)).trans ((List.Perm.refl _).append_left _))) (fun w hs hin hnd => laws_markChunkS ho4 hbx4 (ktoc hkb10 (by decide) (by decide) (by decide)) hin hnd) <| fun vh11 ch11 how11 => ?_
      obtain ⟨rfl, hO11_0⟩ := how11
      obtain ⟨hn11_0, hrv11_0, hR11_0, hrd11_0⟩ := hO11_0.reshape eChunk
      have hkb12 : 0 ≤ (kS5 Kk x) ∧ (kS5 Kk x) ≤ 1135795556581391 := by
        have hkt := kS_bd hle_x Kk
        omega
      refine AS rfl rfl <| ND <| gw_sub (Sub.cons (i := 0) rfl (Sub.cons (i := 1) rfl (Sub.cons (i := 4) rfl (Sub.cons (i := 5) rfl (Sub.nil _))))) <| SQ <| RG <| MV rfl rfl <| MV rfl rfl <| MV rfl rfl <| rw_indexAddrO (i) rfl tyE_S_impl_Stream rfl rfl rfl hi2 <| FA rfl tyF_impl_Stream_3 rfl <| FA rfl tyF_impl_Receiver_2 rfl <| rw_storeM (off := 20) (j := 0) [_] [_, _, _, _, _, _, _, _, _, _, _, _, _, _, _, _, _, _, _, _, _, _, _, _, _, _, _, _, _, _, _, _, _, _, _, _, _, _, _] [_] tyP_int.sz rfl (mid_q (o := 20) hal) rfl rfl rfl rfl rfl rfl rfl rfl <| ?_
      refine ND <| SQ <| RG <| MV rfl rfl <| rw_addK ((kS5 Kk x) + 1) rfl rfl rfl (kinc0 (kup hkb12)) <| AS rfl rfl <| ND <| SQ <| RG <| MV rfl rfl <| MV rfl rfl <| MV rfl rfl <| rw_indexAddrO (i) rfl tyE_S_impl_Stream rfl rfl rfl hi2 <| FA rfl tyF_impl_Stream_3 rfl <| FA rfl tyF_impl_Receiver_3 rfl <| rw_storeM (off := 21) (j := 0) [_] [_, _, _, _, _, _, _, _, _, _, _, _, _, _, _, _, _, _, _, _, _, _, _, _, _, _, _, _, _, _, _, _, _, _, _, _, _, _, _] [_] tyP_int.sz rfl (mid_q (o := 21) hal) rfl rfl rfl rfl rfl rfl rfl rfl <| ?_
      refine ND <| gw_sub (Sub.cons (i := 0) rfl (Sub.cons (i := 1) rfl (Sub.cons (i := 4) rfl (Sub.cons (i := 5) rfl (Sub.nil _))))) <| SQ <| RG <| MV rfl rfl <| rw_addK ((kS5 Kk x) + 2) rfl rfl rfl (kinc (kup hkb12) (by decide) (by decide) (by decide)) <| AS rfl rfl <| ND <| SQ <| RG <| MV rfl rfl <| MV rfl rfl <| MV rfl rfl <| rw_indexAddrO (i) rfl tyE_S_impl_Stream rfl rfl rfl hi2 <| FA rfl tyF_impl_Stream_3 rfl <| FA rfl tyF_impl_Receiver_4 rfl <| rw_storeM (off := 22) (j := 0) [_] [_, _, _, _, _, _, _, _, _, _, _, _, _, _, _, _, _, _, _, _, _, _, _, _, _, _, _, _, _, _, _, _, _, _, _, _, _, _, _] [_] tyP_int.sz rfl (mid_q (o := 22) hal) rfl rfl rfl rfl rfl rfl rfl rfl <| ?_
      refine ND <| SQ <| RG <| MV rfl rfl <| rw_addK ((kS5 Kk x) + 3) rfl rfl rfl (kinc (kup hkb12) (by decide) (by decide) (by decide)) <| AS rfl rfl <| ND <| gw_sub (Sub.cons (i := 0) rfl (Sub.cons (i := 1) rfl (Sub.cons (i := 4) rfl (Sub.cons (i := 5) rfl (Sub.nil _))))) <| SQ <| RG <| MV rfl rfl <| MV rfl rfl <| MV rfl rfl <| rw_indexAddrO (i) rfl tyE_S_impl_Stream rfl rfl rfl hi2 <| FA rfl tyF_impl_Stream_4 rfl <| FA rfl tyF_impl_Window_0 rfl <| rw_storeM (off := 23) (j := 0) [_] [_, _, _, _, _, _, _, _, _, _, _, _, _, _, _, _, _, _, _, _, _, _, _, _, _, _, _, _, _, _, _, _, _, _, _, _, _, _, _] [_] tyP_int.sz rfl (mid_q (o := 23) hal) rfl rfl rfl rfl rfl rfl rfl rfl <| ?_
      refine ND <| SQ <| RG <| MV rfl rfl <| rw_addK ((kS5 Kk x) + 4) rfl rfl rfl (kinc (kup hkb12) (by decide) (by decide) (by decide)) <| AS rfl rfl <| ND <| SQ <| RG <| MV rfl rfl <| MV rfl rfl <| MV rfl rfl <| rw_indexAddrO (i) rfl tyE_S_impl_Stream rfl rfl rfl hi2 <| FA rfl tyF_impl_Stream_4 rfl <| FA rfl tyF_impl_Window_1 rfl <| rw_storeM (off := 24) (j := 0) [_] [_, _, _, _, _, _, _, _, _, _, _, _, _, _, _, _, _, _, _, _, _, _, _, _, _, _, _, _, _, _, _, _, _, _, _, _, _, _, _] [_] tyP_int.sz rfl (mid_q (o := 24) hal) rfl rfl rfl rfl rfl rfl rfl rfl <| ?_
      refine ND <| gw_sub (Sub.cons (i := 0) rfl (Sub.cons (i := 1) rfl (Sub.cons (i := 4) rfl (Sub.cons (i := 5) rfl (Sub.nil _))))) <| SQ <| RG <| MV rfl rfl <| rw_addK ((kS5 Kk x) + 5) rfl rfl rfl (kinc (kup hkb12) (by decide) (by decide) (by decide)) <| AS rfl rfl <| ND <| SQ <| RG <| MV rfl rfl <| MV rfl rfl <| MV rfl rfl <| rw_indexAddrO (i) rfl tyE_S_impl_Stream rfl rfl rfl hi2 <| FA rfl tyF_impl_Stream_4 rfl <| FA rfl tyF_impl_Window_2 rfl <| rw_storeM (off := 25) (j := 0) [_] [_, _, _, _, _, _, _, _, _, _, _, _, _, _, _, _, _, _, _, _, _, _, _, _, _, _, _, _, _, _, _, _, _, _, _, _, _, _, _] [_] tyP_int.sz rfl (mid_q (o := 25) hal) rfl rfl rfl rfl rfl rfl rfl rfl <| ?_
      refine ND <| SQ <| RG <| MV rfl rfl <| rw_addK ((kS5 Kk x) + 6) rfl rfl rfl (kinc (kup hkb12) (by decide) (by decide) (by decide)) <| AS rfl rfl <| ND <| gw_sub (Sub.cons (i := 0) rfl (Sub.cons (i := 1) rfl (Sub.cons (i := 4) rfl (Sub.cons (i := 5) rfl (Sub.nil _))))) <| SQ <| RG <| MV rfl rfl <| MV rfl rfl <| MV rfl rfl <| rw_indexAddrO (i) rfl tyE_S_impl_Stream rfl rfl rfl hi2 <| FA rfl tyF_impl_Stream_4 rfl <| FA rfl tyF_impl_Window_3 rfl <| rw_storeM (off := 26) (j := 0) [_] [_, _, _, _, _, _, _, _, _, _, _, _, _, _, _, _, _, _, _, _, _, _, _, _, _, _, _, _, _, _, _, _, _, _, _, _, _, _, _] [_] tyP_int.sz rfl (mid_q (o := 26) hal) rfl rfl rfl rfl rfl rfl rfl rfl <| ?_
      refine ND <| SQ <| RG <| MV rfl rfl <| rw_addK ((kS5 Kk x) + 7) rfl rfl rfl (kinc (kup hkb12) (by decide) (by decide) (by decide)) <| AS rfl rfl <| ND <| SQ <| RG <| MV rfl rfl <| MV rfl rfl <| MV rfl rfl <| rw_indexAddrO (i) rfl tyE_S_impl_Stream rfl rfl rfl hi2 <| FA rfl tyF_impl_Stream_4 rfl <| FA rfl tyF_impl_Window_4 rfl <| rw_storeM (off := 27) (j := 0) [_] [_, _, _, _, _, _, _, _, _, _, _, _, _, _, _, _, _, _, _, _, _, _, _, _, _, _, _, _, _, _, _, _, _, _, _, _, _, _, _] [_] tyP_int.sz rfl (mid_q (o := 27) hal) rfl rfl rfl rfl rfl rfl rfl rfl <| ?_
      refine ND <| gw_sub (Sub.cons (i := 0) rfl (Sub.cons (i := 1) rfl (Sub.cons (i := 4) rfl (Sub.cons (i := 5) rfl (Sub.nil _))))) <| SQ <| RG <| MV rfl rfl <| rw_addK ((kS5 Kk x) + 8) rfl rfl rfl (kinc (kup hkb12) (by decide) (by decide) (by decide)) <| AS rfl rfl <| ND <| SQ <| RG <| MV rfl rfl <| MV rfl rfl <| MV rfl rfl <| rw_indexAddrO (i) rfl tyE_S_impl_Stream rfl rfl rfl hi2 <| FA rfl tyF_impl_Stream_4 rfl <| FA rfl tyF_impl_Window_5 rfl <| rw_storeM (off := 28) (j := 0) [_] [_, _, _, _, _, _, _, _, _, _, _, _, _, _, _, _, _, _, _, _, _, _, _, _, _, _, _, _, _, _, _, _, _, _, _, _, _, _, _] [_] tyP_int.sz rfl (mid_q (o := 28) hal) rfl rfl rfl rfl rfl rfl rfl rfl <| ?_
      refine ND <| SQ <| RG <| MV rfl rfl <| rw_addK ((kS5 Kk x) + 9) rfl rfl rfl (kinc (kup hkb12) (by decide) (by decide) (by decide)) <| AS rfl rfl <| ND <| gw_sub (Sub.cons (i := 0) rfl (Sub.cons (i := 1) rfl (Sub.cons (i := 4) rfl (Sub.cons (i := 5) rfl (Sub.nil _))))) <| SQ <| RG <| MV rfl rfl <| MV rfl rfl <| MV rfl rfl <| rw_indexAddrO (i) rfl tyE_S_impl_Stream rfl rfl rfl hi2 <| FA rfl tyF_impl_Stream_5 rfl <| FA rfl tyF_impl_Priority_0 rfl <| rw_storeM (off := 29) (j := 0) [_] [_, _, _, _, _, _, _, _, _, _, _, _, _, _, _, _, _, _, _, _, _, _, _, _, _, _, _, _, _, _, _, _, _, _, _, _, _, _, _] [_] tyP_int.sz rfl (mid_q (o := 29) hal) rfl rfl rfl rfl rfl rfl rfl rfl <| ?_
      refine ND <| SQ <| RG <| MV rfl rfl <| rw_addK ((kS5 Kk x) + 10) rfl rfl rfl (kinc (kup hkb12) (by decide) (by decide) (by decide)) <| AS rfl rfl <| ND <| SQ <| RG <| MV rfl rfl <| MV rfl rfl <| MV rfl rfl <| rw_rem rfl rfl rfl (by decide) <| EQ1 rfl rfl rfl <| rw_indexAddrO (i) rfl tyE_S_impl_Stream rfl rfl rfl hi2 <| FA rfl tyF_impl_Stream_5 rfl <| FA rfl tyF_impl_Priority_1 rfl <| rw_storeM (off := 30) (j := 0) [_] [_, _, _, _, _, _, _, _, _, _, _, _, _, _, _, _, _, _, _, _, _, _, _, _, _, _, _, _, _, _, _, _, _, _, _, _, _, _, _] [_] tyP_bool.sz rfl (mid_q (o := 30) hal) rfl rfl rfl rfl rfl rfl rfl rfl <| ?_
      refine ND <| gw_sub (Sub.cons (i := 0) rfl (Sub.cons (i := 1) rfl (Sub.cons (i := 4) rfl (Sub.cons (i := 5) rfl (Sub.nil _))))) <| SQ <| RG <| MV rfl rfl <| rw_addK ((kS5 Kk x) + 11) rfl rfl rfl (kinc (kup hkb12) (by decide) (by decide) (by decide)) <| AS rfl rfl <| ND <| SQ <| RG <| MV rfl rfl <| MV rfl rfl <| MV rfl rfl <| rw_rem rfl rfl rfl (by decide) <| EQ1 rfl rfl rfl <| rw_indexAddrO (i) rfl tyE_S_impl_Stream rfl rfl rfl hi2 <| FA rfl tyF_impl_Stream_6 rfl <| rw_storeM (off := 31) (j := 0) [_] [_, _, _, _, _, _, _, _, _, _, _, _, _, _, _, _, _, _, _, _, _, _, _, _, _, _, _, _, _, _, _, _, _, _, _, _, _, _, _] [_] tyP_bool.sz rfl (mid_q (o := 31) hal) rfl rfl rfl rfl rfl rfl rfl rfl <| ?_
      refine ND <| SQ <| RG <| MV rfl rfl <| rw_addK ((kS5 Kk x) + 12) rfl rfl rfl (kinc (kup hkb12) (by decide) (by decide) (by decide)) <| AS rfl rfl <| ND <| gw_sub (Sub.cons (i := 0) rfl (Sub.cons (i := 1) rfl (Sub.cons (i := 4) rfl (Sub.cons (i := 5) rfl (Sub.nil _))))) <| SQ <| RG <| MV rfl rfl <| MV rfl rfl <| MV rfl rfl <| rw_rem rfl rfl rfl (by decide) <| EQ1 rfl rfl rfl <| rw_indexAddrO (i) rfl tyE_S_impl_Stream rfl rfl rfl hi2 <| FA rfl tyF_impl_Stream_7 rfl <| rw_storeM (off := 32) (j := 0) [_] [_, _, _, _, _, _, _, _, _, _, _, _, _, _, _, _, _, _, _, _, _, _, _, _, _, _, _, _, _, _, _, _, _, _, _, _, _, _, _] [_] tyP_bool.sz rfl (mid_q (o := 32) hal) rfl rfl rfl rfl rfl rfl rfl rfl <| ?_
      refine ND <| SQ <| RG <| MV rfl rfl <| rw_addK ((kS5 Kk x) + 13) rfl rfl rfl (kinc (kup hkb12) (by decide) (by decide) (by decide)) <| AS rfl rfl <| ND <| SQ <| RG <| MV rfl rfl <| MV rfl rfl <| MV rfl rfl <| rw_rem rfl rfl rfl (by decide) <| EQ1 rfl rfl rfl <| rw_indexAddrO (i) rfl tyE_S_impl_Stream rfl rfl rfl hi2 <| FA rfl tyF_impl_Stream_8 rfl <| rw_storeM (off := 33) (j := 0) [_] [_, _, _, _, _, _, _, _, _, _, _, _, _, _, _, _, _, _, _, _, _, _, _, _, _, _, _, _, _, _, _, _, _, _, _, _, _, _, _] [_] tyP_bool.sz rfl (mid_q (o := 33) hal) rfl rfl rfl rfl rfl rfl rfl rfl <| ?_
      refine ND <| gw_sub (Sub.cons (i := 0) rfl (Sub.cons (i := 1) rfl (Sub.cons (i := 4) rfl (Sub.cons (i := 5) rfl (Sub.nil _))))) <| SQ <| RG <| MV rfl rfl <| rw_addK ((kS5 Kk x) + 14) rfl rfl rfl (kinc (kup hkb12) (by decide) (by decide) (by decide)) <| AS rfl rfl <| ND <| SQ <| RG <| MV rfl rfl <| MV rfl rfl <| MV rfl rfl <| rw_rem rfl rfl rfl (by decide) <| EQ1 rfl rfl rfl <| rw_indexAddrO (i) rfl tyE_S_impl_Stream rfl rfl rfl hi2 <| FA rfl tyF_impl_Stream_9 rfl <| rw_storeM (off := 34) (j := 0) [_] [_, _, _, _, _, _, _, _, _, _, _, _, _, _, _, _, _, _, _, _, _, _, _, _, _, _, _, _, _, _, _, _, _, _, _, _, _, _, _] [_] tyP_bool.sz rfl (mid_q (o := 34) hal) rfl rfl rfl rfl rfl rfl rfl rfl <| ?_
      refine ND <| SQ <| RG <| MV rfl rfl <| rw_addK ((kS5 Kk x) + 15) rfl rfl rfl (kinc (kup hkb12) (by decide) (by decide) (by decide)) <| AS rfl rfl <| ND <| gw_sub (Sub.cons (i := 0) rfl (Sub.cons (i := 1) rfl (Sub.cons (i := 4) rfl (Sub.cons (i := 5) rfl (Sub.nil _))))) <| SQ <| RG <| MV rfl rfl <| MV rfl rfl <| MV rfl rfl <| rw_rem rfl rfl rfl (by decide) <| EQ1 rfl rfl rfl <| rw_indexAddrO (i) rfl tyE_S_impl_Stream rfl rfl rfl hi2 <| FA rfl tyF_impl_Stream_10 rfl <| rw_storeM (off := 35) (j := 0) [_] [_, _, _, _, _, _, _, _, _, _, _, _, _, _, _, _, _, _, _, _, _, _, _, _, _, _, _, _, _, _, _, _, _, _, _, _, _, _, _] [_] tyP_bool.sz rfl (mid_q (o := 35) hal) rfl rfl rfl rfl rfl rfl rfl rfl <| ?_
      refine ND <| SQ <| RG <| MV rfl rfl <| rw_addK ((kS5 Kk x) + 16) rfl rfl rfl (kinc (kup hkb12) (by decide) (by decide) (by decide)) <| AS rfl rfl <| ND <| SQ <| RG <| MV rfl rfl <| MV rfl rfl <| MV rfl rfl <| rw_rem rfl rfl rfl (by decide) <| EQ1 rfl rfl rfl <| rw_indexAddrO (i) rfl tyE_S_impl_Stream rfl rfl rfl hi2 <| FA rfl tyF_impl_Stream_11 rfl <| rw_storeM (off := 36) (j := 0) [_] [_, _, _, _, _, _, _, _, _, _, _, _, _, _, _, _, _, _, _, _, _, _, _, _, _, _, _, _, _, _, _, _, _, _, _, _, _, _, _] [_] tyP_bool.sz rfl (mid_q (o := 36) hal) rfl rfl rfl rfl rfl rfl rfl rfl <| ?_
      refine ND <| gw_sub (Sub.cons (i := 0) rfl (Sub.cons (i := 1) rfl (Sub.cons (i := 4) rfl (Sub.cons (i := 5) rfl (Sub.nil _))))) <| SQ <| RG <| MV rfl rfl <| rw_addK ((kS5 Kk x) + 17) rfl rfl rfl (kinc (kup hkb12) (by decide) (by decide) (by decide)) <| AS rfl rfl <| ND <| SQ <| RG <| MV rfl rfl <| MV rfl rfl <| MV rfl rfl <| rw_indexAddrO (i) rfl tyE_S_impl_Stream rfl rfl rfl hi2 <| FA rfl tyF_impl_Stream_12 rfl <| rw_storeM (off := 37) (j := 0) [_] [_, _, _, _, _, _, _, _, _, _, _, _, _, _, _, _, _, _, _, _, _, _, _, _, _, _, _, _, _, _, _, _, _, _, _, _, _, _, _] [_] tyP_int.sz rfl (mid_q (o := 37) hal) rfl rfl rfl rfl rfl rfl rfl rfl <| ?_
      refine ND <| SQ <| RG <| MV rfl rfl <| rw_addK ((kS5 Kk x) + 18) rfl rfl rfl (kinc (kup hkb12) (by decide) (by decide) (by decide)) <| AS rfl rfl <| ND <| SQ <| RG <| MV rfl rfl <| MV rfl rfl <| MV rfl rfl <| rw_rem rfl rfl rfl (by decide) <| EQ1 rfl rfl rfl <| rw_indexAddrO (i) rfl tyE_S_impl_Stream rfl rfl rfl hi2 <| FA rfl tyF_impl_Stream_13 rfl <| rw_storeM (off := 38) (j := 0) [_] [_, _, _, _, _, _, _, _, _, _, _, _, _, _, _, _, _, _, _, _, _, _, _, _, _, _, _, _, _, _, _, _, _, _, _, _, _, _, _] [_] tyP_bool.sz rfl (mid_q (o := 38) hal) rfl rfl rfl rfl rfl rfl rfl rfl <| ?_
      refine ND <| gw_sub (Sub.cons (i := 0) rfl (Sub.cons (i := 1) rfl (Sub.cons (i := 4) rfl (Sub.cons (i := 5) rfl (Sub.nil _))))) <| RG <| MV rfl rfl <| rw_addK ((kS5 Kk x) + 19) rfl rfl rfl (kinc (kup hkb12) (by decide) (by decide) (by decide)) <| AS rfl rfl <| ND <| IB <| RG <| MV rfl rfl <| rw_add rfl rfl rfl <| AS rfl rfl <| ND <| ?_
      refine gw_B blk_assoc <| ?_
      refine gw_FP (((((((((((((((((List.Perm.refl _)).append_left _).trans (pullc _ _ _))).append_left _).trans (pullc _ _ _))).append_left _).trans (pullc _ _ _))).append_left _).trans (pullc _ _ _))).append_left _).trans (pullc _ _ _)).trans (((((((((((((((List.Perm.refl _)).append_left _).trans (pullc _ _ _))).append_left _).trans (pullc _ _ _))).append_left _).trans (pullc _ _ _))).append_left _).trans (pullc _ _ _)).trans ((((((((((((List.Perm.refl _)).append_left _).trans (pullc _ _ _))).append_left _).trans (pullc _ _ _))).append_left _).trans (pullc _ _ _)).trans (((((((((List.Perm.refl _)).append_left _).trans (pullc _ _ _))).append_left _).trans (pullc _ _ _)).trans ((((((List.Perm.refl _)).append_left _).trans (pullc _ _ _)).trans (((List.Perm.refl _).trans (((List.Perm.refl _).trans ((List.Perm.refl _).append_left _)).append_left _)).append_left _)).append_left _)).append_left _)).append_left _)).append_left _)) (gw_F (F' := (hD ++ (ch3 ++ (ch5 ++ (ch7 ++ (ch9 ++ (ch11)))))) ++ (hR2 ++ ([]))) (by simp only [List.append_assoc]) ?_)
      refine gw_sub (Sub.consE (i := 5) rfl (int_succ (by omega)) (Sub.consE (i := 1) rfl rfl (Sub.cons (i := 0) rfl (Sub.cons (i := 4) rfl (Sub.nil _))))) (ih1 (i + 1, kS6 Kk x, cD ++ Stream.row (mkStream Kk x) (.slice R0_ x.send.ring.cells.length b0_) (.slice R1_ x.send.pending.length b1_) (.slice R2_ x.send.flight.length b2_) (.slice R3_ x.send.acked.length b3_) (.slice R4_ x.recv.buffer.chunks.length b4_), cR2, hD ++ (ch3 ++ (ch5 ++ (ch7 ++ (ch9 ++ (ch11))))), hR2) ?_ ?_)
      · exact ⟨by omega, endD_step hx hK, by rw [mkD_step hx hK]; exact hD_.snoc ⟨_, _, _, _, _, _, _, _, _, _, rfl, hO3_0, hO5_0, hO7_0, hO9_0, hO11_0, rfl⟩, hR_2⟩
      · show l.length - (i + 1) < l.length - i; omega
    · have hn13 := ge_of_dec h1
      refine EX rfl <| SQ <| RG <| MV rfl rfl <| AS rfl rfl <| ND <| ?_
      refine ret_ch (⟨g, 56, pre ++ (cD ++ (cR ++ rs))⟩ :: (hD ++ [])) Try.func21 (res1 Try.func21 rfl (rv_tmp rfl)) ?_ ?_
      · obtain rfl : i = l.length := by omega
        rw [List.drop_length] at hR_
        obtain ⟨rfl, rfl⟩ := hR_.nil_inv
        rw [List.take_length] at hK hD_
        refine ⟨by rw [hK], ?_⟩
        rw [List.append_nil]
        exact OwS.closeG hD_ (mkD_len _ _ _ _) hc1 hc2 (by have h1 := hD_.length eStream; rw [mkD_len] at h1; have h2 := hO.length eStream; rw [List.length_append] at hc3 ⊢; rw [List.nil_append]; omega)
      · exact List.Sublist.cons_cons _ (List.Sublist.append_left (List.nil_sublist _) _)

theorem laws_markStreamS {w : World} {A : Option Addr} {n c : Nat} {l : List Stream} {ch : List Ck} {k : Int} (hO : OwS 56 39 OwStream (.slice A n c) l ch) (hb : l.length ≤ 1048576) (hall : ∀ x ∈ l, x.le 1048576) (hk : 0 ≤ k ∧ k ≤ 1125899906842624) (hin : ∀ c ∈ ch, c.In w) (hnd : (ch.map Ck.b).Nodup) :
    CH Try.prog 21 [.slice A n c, .int .i64 k] w ch (fun v' ch' => v' = .int .i64 (endD kS6 k l) ∧ OwS 56 39 OwStream (.slice A n c) (mkD mkStream kS6 k l) ch') := by
  rcases hO.openG with ⟨rfl, rfl, rfl, rfl⟩ | ⟨g, pre, rs, cells, chs, rfl, rfl, hO2, rfl, hc1, hc2, hc3⟩
  · exact (laws_markStreamS_nil A k w).ch ⟨rfl, ⟨[], .inl ⟨A, rfl, rfl, rfl⟩⟩⟩
  · exact laws_markStreamS_b hO2 hb hall hk hc1 hc2 hc3 hin hnd

theorem laws_markFrameS_nil (A : Option Addr) (k : Int) (w : World) : CV Try.prog 156 [.slice A 0 0, .int .i64 k] w (.int .i64 k) := by
  refine cv_of Try.func156 rfl rfl rfl <| SQ <| RG <| AS rfl rfl <| ND <| SQ <| SQ <| RG <| AS rfl rfl <| ND <| BK <| gw_loop1 <| SQ <| SQ <| RG <| MV rfl rfl <| MV rfl rfl <| rw_len rfl tyE_S_impl_Frame rfl <| rw_lss rfl rfl rfl <| ND <| CF rfl rfl <| EX rfl <| SQ <| RG <| MV rfl rfl <| AS rfl rfl <| ND <| ret_cv Try.func156 (res1 Try.func156 rfl (rv_tmp rfl)) <| ?_
  rfl

set_option maxRecDepth 20000 in
theorem laws_markFrameS_b {w : World} {g c : Nat} {pre rs cells : List Value} {chs : List Ck} {l : List Frame'} {k : Int} (hO : Ows (PlO Frame'.cells) l cells chs) (hb : l.length ≤ 1048576) (hk : 0 ≤ k ∧ k ≤ 36028797018963968) (hc1 : l.length ≤ c) (hc2 : c ≤ maxLen) (hc3 : (cells ++ rs).length = c * 9) (hin : ∀ c ∈ ((⟨g, 230, pre ++ (cells ++ rs)⟩ :: chs) : List Ck), c.In w) (hnd : (((⟨g, 230, pre ++ (cells ++ rs)⟩ :: chs) : List Ck).map Ck.b).Nodup) : CH Try.prog 156 [.slice (some ⟨g, pre.length, none⟩) l.length c, .int .i64 k] w (⟨g, 230, pre ++ (cells ++ rs)⟩ :: chs) (fun v' ch' => v' = .int .i64 (endD (nx 9) k l) ∧ OwS 230 9 (PlO Frame'.cells) (.slice (some ⟨g, pre.length, none⟩) l.length c) (mkD mkFrame (nx 9) k l) ch') := by
  refine ch_ofBF hin hnd Try.func156 rfl rfl rfl <| SQ <| RG <| AS rfl rfl <| ND <| SQ <| SQ <| RG <| AS rfl rfl <| ND <| BK <| ?_
  refine gw_loopX (α := Nat × Int × List Value × List Value × List Ck × List Ck) (fun z_ => z_.1 ≤ l.length ∧ z_.2.1 = endD (nx 9) k (l.take z_.1) ∧ Ows (PlO Frame'.cells) (mkD mkFrame (nx 9) k (l.take z_.1)) z_.2.2.1 z_.2.2.2.2.1 ∧ Ows (PlO Frame'.cells) (l.drop z_.1) z_.2.2.2.1 z_.2.2.2.2.2) (fun z_ => l.length - z_.1) (fun e z_ => (5, .int .i64 (z_.1 : Int)) :: (1, .int .i64 z_.2.1) :: e) (fun B z_ => [⟨g, 230, pre ++ (z_.2.2.1 ++ (z_.2.2.2.1 ++ rs))⟩]) (fun F z_ => z_.2.2.2.2.1 ++ (z_.2.2.2.2.2 ++ ([]))) (0, k, [], cells, [], chs) [(0, _), (4, _)] (Sub.consE rfl rfl (Sub.consE rfl rfl (Sub.cons (i := 0) rfl (Sub.cons (i := 4) rfl (Sub.nil _))))) rfl rfl ?_ ?_
  · exact ⟨Nat.zero_le _, rfl, .nil, hO⟩
  · rintro ⟨i, Kk, cD, cR, hD, hR⟩ hI1 ih1
    dsimp only at hI1
    dsimp only [List.set]
    obtain ⟨hle, hK, hD_, hR_⟩ := hI1
    have hkb : 0 ≤ Kk ∧ Kk ≤ 36028797028401152 := by
      have hkt := endD_le 9 (by decide) (i := i) hb (k := k) (fun x _ k => nx_bd (by decide) x k)
      rw [← hK] at hkt; omega
    refine SQ <| SQ <| RG <| MV rfl rfl <| MV rfl rfl <| rw_len rfl tyE_S_impl_Frame rfl <| rw_lss rfl rfl rfl <| ND <| ?_
    refine gw_cond rfl (fun h1 => ?_) (fun h1 => ?_)
    · have hi2 := lt_of_dec h1
      obtain ⟨x, hx⟩ := get_of_lt hi2
      have hd2 := drop_cons hx
      rw [hd2] at hR_
      obtain ⟨mm, cR2, cx, hR2, rfl, rfl, hm, hR_2⟩ := hR_.uncons
      have hal : (pre ++ cD).length = pre.length + i * 9 := by
        rw [List.length_append, hD_.length eFrame, mkD_len, List.length_take]; congr 2; omega
      obtain ⟨rfl, rfl⟩ := hm
      refine gw_B blk_open <| SK <| SQ <| BK <| SQ <| RG <| MV rfl rfl <| MV rfl rfl <| MV rfl rfl <| rw_indexAddrO (i) rfl tyE_S_impl_Frame rfl rfl rfl hi2 <| FA rfl tyF_impl_Frame_0 rfl <| rw_storeM (off := 0) (j := 0) [_] [_, _, _, _, _, _, _, _, _] [_] tyP_int.sz rfl (mid_q (o := 0) hal) rfl rfl rfl rfl rfl rfl rfl rfl <| ND <| SQ <| RG <| MV rfl rfl <| rw_addK (Kk + 1) rfl rfl rfl (kinc0 (kup hkb)) <| AS rfl rfl <| ND <| gw_sub (Sub.cons (i := 0) rfl (Sub.cons (i := 1) rfl (Sub.cons (i := 4) rfl (Sub.cons (i := 5) rfl (Sub.nil _))))) <| ?_
      refine SQ <| RG <| MV rfl rfl <| MV rfl rfl <| MV rfl rfl <| rw_indexAddrO (i) rfl tyE_S_impl_Frame rfl rfl rfl hi2 <| FA rfl tyF_impl_Frame_1 rfl <| rw_storeM (off := 1) (j := 0) [_] [_, _, _, _, _, _, _, _, _] [_] tyP_int.sz rfl (mid_q (o := 1) hal) rfl rfl rfl rfl rfl rfl rfl rfl <| ND <| SQ <| RG <| MV rfl rfl <| rw_addK (Kk + 2) rfl rfl rfl (kinc (kup hkb) (by decide) (by decide) (by decide)) <| AS rfl rfl <| ND <| SQ <| RG <| MV rfl rfl <| MV rfl rfl <| MV rfl rfl <| rw_indexAddrO (i) rfl tyE_S_impl_Frame rfl rfl rfl hi2 <| ?_
      refine FA rfl tyF_impl_Frame_2 rfl <| rw_storeM (off := 2) (j := 0) [_] [_, _, _, _, _, _, _, _, _] [_] tyP_int.sz rfl (mid_q (o := 2) hal) rfl rfl rfl rfl rfl rfl rfl rfl <| ND <| gw_sub (Sub.cons (i := 0) rfl (Sub.cons (i := 1) rfl (Sub.cons (i := 4) rfl (Sub.cons (i := 5) rfl (Sub.nil _))))) <| SQ <| RG <| MV rfl rfl <| rw_addK (Kk + 3) rfl rfl rfl (kinc (kup hkb) (by decide) (by decide) (by decide)) <| AS rfl rfl <| ND <| SQ <| RG <| MV rfl rfl <| MV rfl rfl <| MV rfl rfl <| CV1 rfl fun_laws_markText rfl (fun w hs => laws_markText (Kk + 3) (kplus hkb (by decide)) w) <| ?_
      refine rw_indexAddrO (i) rfl tyE_S_impl_Frame rfl rfl rfl hi2 <| FA rfl tyF_impl_Frame_3 rfl <| rw_storeM (off := 3) (j := 0) [_] [_, _, _, _, _, _, _, _, _] [_] tyP_string.sz rfl (mid_q (o := 3) hal) rfl rfl rfl rfl rfl rfl rfl rfl <| ND <| SQ <| RG <| MV rfl rfl <| rw_addK (Kk + 4) rfl rfl rfl (kinc (kup hkb) (by decide) (by decide) (by decide)) <| AS rfl rfl <| ND <| gw_sub (Sub.cons (i := 0) rfl (Sub.cons (i := 1) rfl (Sub.cons (i := 4) rfl (Sub.cons (i := 5) rfl (Sub.nil _))))) <| SQ <| RG <| MV rfl rfl <| MV rfl rfl <| MV rfl rfl <| ?_
      refine rw_rem rfl rfl rfl (by decide) <| EQ1 rfl rfl rfl <| rw_indexAddrO (i) rfl tyE_S_impl_Frame rfl rfl rfl hi2 <| FA rfl tyF_impl_Frame_4 rfl <| rw_storeM (off := 4) (j := 0) [_] [_, _, _, _, _, _, _, _, _] [_] tyP_bool.sz rfl (mid_q (o := 4) hal) rfl rfl rfl rfl rfl rfl rfl rfl <| ND <| SQ <| RG <| MV rfl rfl <| rw_addK (Kk + 5) rfl rfl rfl (kinc (kup hkb) (by decide) (by decide) (by decide)) <| AS rfl rfl <| ND <| SQ <| RG <| MV rfl rfl <| MV rfl rfl <| MV rfl rfl <| rw_indexAddrO (i) rfl tyE_S_impl_Frame rfl rfl rfl hi2 <| ?_
      refine FA rfl tyF_impl_Frame_5 rfl <| rw_storeM (off := 5) (j := 0) [_] [_, _, _, _, _, _, _, _, _] [_] tyP_int.sz rfl (mid_q (o := 5) hal) rfl rfl rfl rfl rfl rfl rfl rfl <| ND <| gw_sub (Sub.cons (i := 0) rfl (Sub.cons (i := 1) rfl (Sub.cons (i := 4) rfl (Sub.cons (i := 5) rfl (Sub.nil _))))) <| SQ <| RG <| MV rfl rfl <| rw_addK (Kk + 6) rfl rfl rfl (kinc (kup hkb) (by decide) (by decide) (by decide)) <| AS rfl rfl <| ND <| SQ <| RG <| MV rfl rfl <| MV rfl rfl <| MV rfl rfl <| rw_indexAddrO (i) rfl tyE_S_impl_Frame rfl rfl rfl hi2 <| ?_
      refine FA rfl tyF_impl_Frame_6 rfl <| rw_storeM (off := 6) (j := 0) [_] [_, _, _, _, _, _, _, _, _] [_] tyP_int.sz rfl (mid_q (o := 6) hal) rfl rfl rfl rfl rfl rfl rfl rfl <| ND <| SQ <| RG <| MV rfl rfl <| rw_addK (Kk + 7) rfl rfl rfl (kinc (kup hkb) (by decide) (by decide) (by decide)) <| AS rfl rfl <| ND <| SQ <| RG <| MV rfl rfl <| MV rfl rfl <| MV rfl rfl <| rw_indexAddrO (i) rfl tyE_S_impl_Frame rfl rfl rfl hi2 <| FA rfl tyF_impl_Frame_7 rfl <| rw_storeM (off := 7) (j := 0) [_] [_, _, _, _, _, _, _, _, _] [_] tyP_int.sz rfl (mid_q (o := 7) hal) rfl rfl rfl rfl rfl rfl rfl rfl <| ?_
      refine ND <| gw_sub (Sub.cons (i := 0) rfl (Sub.cons (i := 1) rfl (Sub.cons (i := 4) rfl (Sub.cons (i := 5) rfl (Sub.nil _))))) <| SQ <| RG <| MV rfl rfl <| rw_addK (Kk + 8) rfl rfl rfl (kinc (kup hkb) (by decide) (by decide) (by decide)) <| AS rfl rfl <| ND <| SQ <| RG <| MV rfl rfl <| MV rfl rfl <| MV rfl rfl <| rw_rem rfl rfl rfl (by decide) <| EQ1 rfl rfl rfl <| rw_indexAddrO (i) rfl tyE_S_impl_Frame rfl rfl rfl hi2 <| FA rfl tyF_impl_Frame_8 rfl <| rw_storeM (off := 8) (j := 0) [_] [_, _, _, _, _, _, _, _, _] [_] tyP_bool.sz rfl (mid_q (o := 8) hal) rfl rfl rfl rfl rfl rfl rfl rfl <| ?_
      refine ND <| RG <| MV rfl rfl <| rw_addK (Kk + 9) rfl rfl rfl (kinc (kup hkb) (by decide) (by decide) (by decide)) <| AS rfl rfl <| ND <| gw_sub (Sub.cons (i := 0) rfl (Sub.cons (i := 1) rfl (Sub.cons (i := 4) rfl (Sub.cons (i := 5) rfl (Sub.nil _))))) <| IB <| RG <| MV rfl rfl <| rw_add rfl rfl rfl <| AS rfl rfl <| ND <| ?_
      refine gw_B blk_assoc <| ?_
      refine gw_sub (Sub.consE (i := 5) rfl (int_succ (by omega)) (Sub.consE (i := 1) rfl rfl (Sub.cons (i := 0) rfl (Sub.cons (i := 4) rfl (Sub.nil _))))) (ih1 (i + 1, (nx 9) Kk x, cD ++ Frame'.cells (mkFrame Kk x), cR2, hD, hR2) ?_ ?_)
      · exact ⟨by omega, endD_step hx hK, by rw [mkD_step hx hK]; exact hD_.snocP, hR_2⟩
      · show l.length - (i + 1) < l.length - i; omega
    · have hn3 := ge_of_dec h1
      refine EX rfl <| SQ <| RG <| MV rfl rfl <| AS rfl rfl <| ND <| ?_
      refine ret_ch (⟨g, 230, pre ++ (cD ++ (cR ++ rs))⟩ :: (hD ++ [])) Try.func156 (res1 Try.func156 rfl (rv_tmp rfl)) ?_ ?_
      · obtain rfl : i = l.length := by omega
        rw [List.drop_length] at hR_
        obtain ⟨rfl, rfl⟩ := hR_.nil_inv
        rw [List.take_length] at hK hD_
        refine ⟨by rw [hK], ?_⟩
        rw [List.append_nil]
        exact OwS.closeG hD_ (mkD_len _ _ _ _) hc1 hc2 (by have h1 := hD_.length eFrame; rw [mkD_len] at h1; have h2 := hO.length eFrame; rw [List.length_append] at hc3 ⊢; rw [List.nil_append]; omega)
      · exact List.Sublist.cons_cons _ (List.Sublist.append_left (List.nil_sublist _) _)

theorem laws_markFrameS {w : World} {A : Option Addr} {n c : Nat} {l : List Frame'} {ch : List Ck} {k : Int} (hO : OwS 230 9 (PlO Frame'.cells) (.slice A n c) l ch) (hb : l.length ≤ 1048576) (hk : 0 ≤ k ∧ k ≤ 36028797018963968) (hin : ∀ c ∈ ch, c.In w) (hnd : (ch.map Ck.b).Nodup) :
    CH Try.prog 156 [.slice A n c, .int .i64 k] w ch (fun v' ch' => v' = .int .i64 (endD (nx 9) k l) ∧ OwS 230 9 (PlO Frame'.cells) (.slice A n c) (mkD mkFrame (nx 9) k l) ch') := by
  rcases hO.openG with ⟨rfl, rfl, rfl, rfl⟩ | ⟨g, pre, rs, cells, chs, rfl, rfl, hO2, rfl, hc1, hc2, hc3⟩
  · exact (laws_markFrameS_nil A k w).ch ⟨rfl, ⟨[], .inl ⟨A, rfl, rfl, rfl⟩⟩⟩
  · exact laws_markFrameS_b hO2 hb hk hc1 hc2 hc3 hin hnd

theorem laws_markPacketS_nil (A : Option Addr) (k : Int) (w : World) : CV Try.prog 92 [.slice A 0 0, .int .i64 k] w (.int .i64 k) := by
  refine cv_of Try.func92 rfl rfl rfl <| SQ <| RG <| AS rfl rfl <| ND <| SQ <| SQ <| RG <| AS rfl rfl <| ND <| BK <| gw_loop1 <| SQ <| SQ <| RG <| MV rfl rfl <| MV rfl rfl <| rw_len rfl tyE_S_impl_Packet rfl <| rw_lss rfl rfl rfl <| ND <| CF rfl rfl <| EX rfl <| SQ <| RG <| MV rfl rfl <| AS rfl rfl <| ND <| ret_cv Try.func92 (res1 Try.func92 rfl (rv_tmp rfl)) <| ?_
  rfl

set_option maxRecDepth 20000 in
theorem laws_markPacketS_b {w : World} {g c : Nat} {pre rs cells : List Value} {chs : List Ck} {l : List Packet} {k : Int} (hO : Ows OwPacket l cells chs) (hb : l.length ≤ 1048576) (hall : ∀ x ∈ l, x.le 1048576) (hk : 0 ≤ k ∧ k ≤ 1125899906842624) (hc1 : l.length ≤ c) (hc2 : c ≤ maxLen) (hc3 : (cells ++ rs).length = c * 2) (hin : ∀ c ∈ ((⟨g, 195, pre ++ (cells ++ rs)⟩ :: chs) : List Ck), c.In w) (hnd : (((⟨g, 195, pre ++ (cells ++ rs)⟩ :: chs) : List Ck).map Ck.b).Nodup) : CH Try.prog 92 [.slice (some ⟨g, pre.length, none⟩) l.length c, .int .i64 k] w (⟨g, 195, pre ++ (cells ++ rs)⟩ :: chs) (fun v' ch' => v' = .int .i64 (endD kP k l) ∧ OwS 195 2 OwPacket (.slice (some ⟨g, pre.length, none⟩) l.length c) (mkD mkPacket kP k l) ch') := by
  refine ch_ofBF hin hnd Try.func92 rfl rfl rfl <| SQ <| RG <| AS rfl rfl <| ND <| SQ <| SQ <| RG <| AS rfl rfl <| ND <| BK <| ?_
  refine gw_loopX (α := Nat × Int × List Value × List Value × List Ck × List Ck) (fun z_ => z_.1 ≤ l.length ∧ z_.2.1 = endD kP k (l.take z_.1) ∧ Ows OwPacket (mkD mkPacket kP k (l.take z_.1)) z_.2.2.1 z_.2.2.2.2.1 ∧ Ows OwPacket (l.drop z_.1) z_.2.2.2.1 z_.2.2.2.2.2) (fun z_ => l.length - z_.1) (fun e z_ => (5, .int .i64 (z_.1 : Int)) :: (1, .int .i64 z_.2.1) :: e) (fun B z_ => [⟨g, 195, pre ++ (z_.2.2.1 ++ (z_.2.2.2.1 ++ rs))⟩]) (fun F z_ => z_.2.2.2.2.1 ++ (z_.2.2.2.2.2 ++ ([]))) (0, k, [], cells, [], chs) [(0, _), (4, _)] (Sub.consE rfl rfl (Sub.consE rfl rfl (Sub.cons (i := 0) rfl (Sub.cons (i := 4) rfl (Sub.nil _))))) rfl rfl ?_ ?_
  · exact ⟨Nat.zero_le _, rfl, .nil, hO⟩
  · rintro ⟨i, Kk, cD, cR, hD, hR⟩ hI1 ih1
    dsimp only at hI1
    dsimp only [List.set]
    obtain ⟨hle, hK, hD_, hR_⟩ := hI1
    have hkb : 0 ≤ Kk ∧ Kk ≤ 1135795512541184 := by
      have hkt := endD_le 9437185 (by decide) (i := i) hb (k := k) (fun x hx k => kP_bd (hall x hx) k)
      rw [← hK] at hkt; omega
    refine SQ <| SQ <| RG <| MV rfl rfl <| MV rfl rfl <| rw_len rfl tyE_S_impl_Packet rfl <| rw_lss rfl rfl rfl <| ND <| ?_
    refine gw_cond rfl (fun h1 => ?_) (fun h1 => ?_)
    · have hi2 := lt_of_dec h1
      obtain ⟨x, hx⟩ := get_of_lt hi2
      have hd2 := drop_cons hx
      rw [hd2] at hR_
      obtain ⟨mm, cR2, cx, hR2, rfl, rfl, hm, hR_2⟩ := hR_.uncons
      have hal : (pre ++ cD).length = pre.length + i * 2 := by
        rw [List.length_append, hD_.length ePacket, mkD_len, List.length_take]; congr 2; omega
      obtain ⟨v0, cc0, rfl, ho0, rfl⟩ := hm
      obtain ⟨hbx0, hbx1⟩ := hall x (List.mem_of_getElem? hx)
      have hle_x : x.le 1048576 := hall x (List.mem_of_getElem? hx)
      obtain ⟨R0_, b0_, rfl, hR0_, hrd0_⟩ := ho0.shape eFrame
      refine gw_B blk_open <| gw_F (F' := hD ++ (cx ++ (hR2 ++ ([])))) (by simp only [List.append_assoc]) <| SK <| SQ <| BK <| SQ <| RG <| MV rfl rfl <| MV rfl rfl <| MV rfl rfl <| rw_indexAddrO (i) rfl tyE_S_impl_Packet rfl rfl rfl hi2 <| FA rfl tyF_impl_Packet_0 rfl <| rw_storeM (off := 0) (j := 0) [_] [_, _] [_] tyP_int.sz rfl (mid_q (o := 0) hal) rfl rfl rfl rfl rfl rfl rfl rfl <| ND <| SQ <| RG <| MV rfl rfl <| rw_addK (Kk + 1) rfl rfl rfl (kinc0 (kup hkb)) <| AS rfl rfl <| ND <| gw_sub (Sub.cons (i := 0) rfl (Sub.cons (i := 1) rfl (Sub.cons (i := 4) rfl (Sub.cons (i := 5) rfl (Sub.nil _))))) <| ?_
      refine RG <| MV rfl rfl <| MV rfl rfl <| rw_indexAddrO (i) rfl tyE_S_impl_Packet rfl rfl rfl hi2 <| FA rfl tyF_impl_Packet_1 rfl <| rw_loadM (off := 1) (j := 0) rfl tyP_S_impl_Frame rfl (mid_q (o := 1) hal) rfl rfl <| MV rfl rfl <| rw_ch (G := cx) (R := hD ++ (hR2 ++ ([]))) rfl fun_laws_markFrameS rfl ((((((List.Perm.refl _)).append_left _).trans (pullc _ _ _)).trans ((List.Perm.refl _).append_left _))) (fun w hs hin hnd => laws_markFrameS ho0 hbx0 (ktoc hkb (by decide) (by decide) (by decide)) hin hnd) <| fun vh3 ch3 how3 => ?_
      obtain ⟨rfl, hO3_0⟩ := how3
      obtain ⟨hn3_0, hrv3_0, hR3_0, hrd3_0⟩ := hO3_0.reshape eFrame
      have hkb4 : 0 ≤ (kP Kk x) ∧ (kP Kk x) ≤ 1135795521978369 := by
        have hkt := kP_bd hle_x Kk
        omega
      refine AS rfl rfl <| ND <| IB <| RG <| MV rfl rfl <| rw_add rfl rfl rfl <| AS rfl rfl <| ND <| ?_
      refine gw_B blk_assoc <| ?_
      refine gw_FP (((((List.Perm.refl _)).append_left _).trans (pullc _ _ _)).trans (((List.Perm.refl _).trans (((List.Perm.refl _).trans ((List.Perm.refl _).append_left _)).append_left _)).append_left _)) (gw_F (F' := (hD ++ (ch3)) ++ (hR2 ++ ([]))) (by simp only [List.append_assoc]) ?_)
      refine gw_sub (Sub.consE (i := 5) rfl (int_succ (by omega)) (Sub.consE (i := 1) rfl rfl (Sub.cons (i := 0) rfl (Sub.cons (i := 4) rfl (Sub.nil _))))) (ih1 (i + 1, kP Kk x, cD ++ Packet.row (mkPacket Kk x) (.slice R0_ x.frames.length b0_), cR2, hD ++ (ch3), hR2) ?_ ?_)
      · exact ⟨by omega, endD_step hx hK, by rw [mkD_step hx hK]; exact hD_.snoc ⟨_, _, rfl, hO3_0, rfl⟩, hR_2⟩
      · show l.length - (i + 1) < l.length - i; omega
    · have hn5 := ge_of_dec h1
      refine EX rfl <| SQ <| RG <| MV rfl rfl <| AS rfl rfl <| ND <| ?_
      refine ret_ch (⟨g, 195, pre ++ (cD ++ (cR ++ rs))⟩ :: (hD ++ [])) Try.func92 (res1 Try.func92 rfl (rv_tmp rfl)) ?_ ?_
      · obtain rfl : i = l.length := by omega
        rw [List.drop_length] at hR_
        obtain ⟨rfl, rfl⟩ := hR_.nil_inv
        rw [List.take_length] at hK hD_
        refine ⟨by rw [hK], ?_⟩
        rw [List.append_nil]
        exact OwS.closeG hD_ (mkD_len _ _ _ _) hc1 hc2 (by have h1 := hD_.length ePacket; rw [mkD_len] at h1; have h2 := hO.length ePacket; rw [List.length_append] at hc3 ⊢; rw [List.nil_append]; omega)
      · exact List.Sublist.cons_cons _ (List.Sublist.append_left (List.nil_sublist _) _)

theorem laws_markPacketS {w : World} {A : Option Addr} {n c : Nat} {l : List Packet} {ch : List Ck} {k : Int} (hO : OwS 195 2 OwPacket (.slice A n c) l ch) (hb : l.length ≤ 1048576) (hall : ∀ x ∈ l, x.le 1048576) (hk : 0 ≤ k ∧ k ≤ 1125899906842624) (hin : ∀ c ∈ ch, c.In w) (hnd : (ch.map Ck.b).Nodup) :
    CH Try.prog 92 [.slice A n c, .int .i64 k] w ch (fun v' ch' => v' = .int .i64 (endD kP k l) ∧ OwS 195 2 OwPacket (.slice A n c) (mkD mkPacket kP k l) ch') := by
  rcases hO.openG with ⟨rfl, rfl, rfl, rfl⟩ | ⟨g, pre, rs, cells, chs, rfl, rfl, hO2, rfl, hc1, hc2, hc3⟩
  · exact (laws_markPacketS_nil A k w).ch ⟨rfl, ⟨[], .inl ⟨A, rfl, rfl, rfl⟩⟩⟩
  · exact laws_markPacketS_b hO2 hb hall hk hc1 hc2 hc3 hin hnd

theorem laws_markConn {w : World} {x : Conn} {v0 v1 : Value} {c0 c1 : List Ck} {k : Int} (h0 : OwS 56 39 OwStream v0 x.streams c0) (h1 : OwS 195 2 OwPacket v1 x.packets c1) (hb0 : x.streams.length ≤ 1048576) (hall0 : ∀ y ∈ x.streams, y.le 1048576) (hb1 : x.packets.length ≤ 1048576) (hall1 : ∀ y ∈ x.packets, y.le 1048576) (hk : 0 ≤ k ∧ k ≤ 562949953421312) (hin : ∀ c ∈ c0 ++ (c1), c.In w) (hnd : ((c0 ++ (c1)).map Ck.b).Nodup) : CH Try.prog 29 [.agg (Conn.row x v0 v1).toArray, .int .i64 k] w (c0 ++ (c1)) (fun v' ch' => v' = .int .i64 (endD kP (endD kS6 k x.streams) x.packets) ∧ ∃ c0 c1, ch' = c0 ++ (c1) ∧ OwS 56 39 OwStream v0 (mkD mkStream kS6 k x.streams) c0 ∧ OwS 195 2 OwPacket v1 (mkD mkPacket kP (endD kS6 k x.streams) x.packets) c1) := by
  obtain ⟨R0_, b0_, rfl, hR0_, hrd0_⟩ := h0.shape eStream
  obtain ⟨R1_, b1_, rfl, hR1_, hrd1_⟩ := h1.shape ePacket
  refine ch_of hin hnd Try.func29 rfl rfl rfl <| gw_F (F' := c0 ++ (c1 ++ ([]))) (by simp only [List.append_assoc]) <| SQ <| RG <| BX [_, _, _, _, _, _, _, _, _, _, _, _, _, _, _, _, _, _, _, _, _, _, _, _, _, _, _, _, _, _, _, _, _, _, _, _, _, _, _, _, _, _, _, _, _, _, _, _, _, _] rfl rfl rfl <| fun b1 => AS rfl rfl <| ND <| SQ <| RG <| FA rfl tyF_impl_Conn_3 rfl <| LD (i := 0) rfl tyP_S_impl_Stream rfl rfl rfl <| MV rfl rfl <| rw_ch (G := c0) (R := c1 ++ ([])) rfl fun_laws_markStreamS rfl (((List.Perm.refl _).trans ((List.Perm.refl _).append_left _))) (fun w hs hin hnd => laws_markStreamS h0 hb0 hall0 (kto hk (by decide) (by decide) (by decide)) hin hnd) <| fun vh1 ch1 how1 => ?_
  obtain ⟨rfl, hO1_0⟩ := how1
  obtain ⟨hn1_0, hrv1_0, hR1_0, hrd1_0⟩ := hO1_0.reshape eStream
  have hkb2 : 0 ≤ (endD kS6 k x.streams) ∧ (endD kS6 k x.streams) ≤ 572845593722880 := by
    have hkt := endD_all (nx := kS6) 9437218 (by decide) hb0 (k := k) (fun x hx k => kS6_bd (hall0 x hx) k)
    omega
  refine AS rfl rfl <| ND <| SQ <| RG <| FA rfl tyF_impl_Conn_15 rfl <| LD (i := 0) rfl tyP_S_impl_Packet rfl rfl rfl <| MV rfl rfl <| rw_ch (G := c1) (R := ch1 ++ ([])) rfl fun_laws_markPacketS rfl ((((((List.Perm.refl _)).append_left _).trans (pullc _ _ _)).trans ((List.Perm.refl _).append_left _))) (fun w hs hin hnd => laws_markPacketS h1 hb1 hall1 (kto hkb2 (by decide) (by decide) (by decide)) hin hnd) <| fun vh3 ch3 how3 => ?_
  obtain ⟨rfl, hO3_0⟩ := how3
  obtain ⟨hn3_0, hrv3_0, hR3_0, hrd3_0⟩ := hO3_0.reshape ePacket
  have hkb4 : 0 ≤ (endD kP (endD kS6 k x.streams) x.packets) ∧ (endD kP (endD kS6 k x.streams) x.packets) ≤ 582741199421440 := by
    have hkt := endD_all (nx := kP) 9437185 (by decide) hb1 (k := (endD kS6 k x.streams)) (fun x hx k => kP_bd (hall1 x hx) k)
    omega
  refine AS rfl rfl <| ND <| SQ <| RG <| MV rfl rfl <| AS rfl rfl <| ND <| ?_
  refine gw_FP (((((List.Perm.refl _)).append_left _).trans (pullc _ _ _)).trans (((List.Perm.refl _).trans ((List.Perm.refl _).append_left _)).append_left _)) (gw_F (F' := (ch1 ++ (ch3)) ++ ([])) (by simp only [List.append_assoc]) ?_)
  refine ret_ch (ch1 ++ (ch3)) Try.func29 (res1 Try.func29 rfl (rv_tmp rfl)) ?_ ?_
  · exact ⟨rfl, _, _, rfl, hO1_0, hO3_0⟩
  · exact (List.sublist_append_left _ _).trans (List.sublist_append_right _ _)

set_option maxRecDepth 20000 in
theorem laws_heldIntS {w : World} {v : Value} {l : List Int} {k : Int} (hv : RdS w 1 (Pl intC) v (mkD mkInt (nx 1) k l)) (hb : l.length ≤ 1048576) (hk : 0 ≤ k ∧ k ≤ 36028797018963968) : CV Try.prog 80 [v, .int .i64 k] w (.int .i64 (endD (nx 1) k l)) := by
  obtain ⟨A, c, rfl, hA⟩ := hv
  have hlm : (mkD mkInt (nx 1) k l).length = l.length := mkD_len _ _ _ _
  refine cv_of Try.func80 rfl rfl rfl <| SQ <| RG <| AS rfl rfl <| ND <| SQ <| SQ <| RG <| AS rfl rfl <| ND <| BK <| ?_
  refine gw_loopC (α := Nat × Int) (fun z_ => z_.1 ≤ l.length ∧ z_.2 = endD (nx 1) k (l.take z_.1)) (fun z_ => l.length - z_.1) (fun e z_ => (5, .int .i64 (z_.1 : Int)) :: (1, .int .i64 z_.2) :: e) (0, k) [(0, _)] (Sub.consE rfl rfl (Sub.consE rfl rfl (Sub.cons (i := 0) rfl (Sub.nil _)))) ?_ ?_
  · exact ⟨Nat.zero_le _, rfl⟩
  · rintro ⟨i, Kk⟩ hI1 ih1
    dsimp only at hI1
    dsimp only
    obtain ⟨hle, hK⟩ := hI1
    have hkb : 0 ≤ Kk ∧ Kk ≤ 36028797020012544 := by
      have hkt := endD_le 1 (by decide) (i := i) hb (k := k) (fun x _ k => nx_bd (by decide) x k)
      rw [← hK] at hkt; omega
    refine SQ <| SQ <| RG <| MV rfl rfl <| MV rfl rfl <| rw_len rfl tyE_S_int rfl <| rw_lss rfl rfl rfl <| ND <| ?_
    refine gw_cond rfl (fun h1 => ?_) (fun h1 => ?_)
    · have hi2 := lt_of_dec h1
      obtain ⟨x3, hx3⟩ := get_of_lt hi2
      obtain ⟨y3, hy3, rfl⟩ := mkD_get _ _ _ _ _ _ hx3
      rw [← hK] at hx3
      refine SK <| SQ <| BK <| SQ <| SQ <| RG <| MV rfl rfl <| MV rfl rfl <| ?_
      have hq4 := hA.plain hx3
      refine rw_indexAddr (i) rfl tyE_S_int rfl rfl rfl (hA.some hi2) hi2 <| rw_loadX _ rfl tyP_int rfl (fun w hs => hq4.ld0 hs rfl) <| MV rfl rfl <| NS rfl rfl rfl <| ND <| CF rfl rfl <| SK <| RG <| MV rfl rfl <| rw_addK (Kk + 1) rfl rfl rfl (kinc0 (kup hkb)) <| AS rfl rfl <| ND <| gw_sub (Sub.cons (i := 0) rfl (Sub.cons (i := 1) rfl (Sub.cons (i := 5) rfl (Sub.nil _)))) <| IB <| RG <| MV rfl rfl <| rw_add rfl rfl rfl <| AS rfl rfl <| ND <| ?_
      refine gw_sub (Sub.consE (i := 5) rfl (int_succ (by omega)) (Sub.consE (i := 1) rfl rfl (Sub.cons (i := 0) rfl (Sub.nil _)))) (ih1 (i + 1, (nx 1) Kk y3) ?_ ?_)
      · exact ⟨by omega, endD_step hy3 hK⟩
      · show l.length - (i + 1) < l.length - i; omega
    · have hn5 := nil_of_dec h1
      refine EX rfl <| SQ <| RG <| MV rfl rfl <| AS rfl rfl <| ND <| ret_cv Try.func80 (res1 Try.func80 rfl (rv_tmp rfl)) <| ?_
      have hil : i = l.length := by have hz := congrArg List.length hn5; rw [List.length_drop, List.length_nil] at hz; omega
      rw [hK, hil, List.take_length]

theorem laws_heldRing {w : World} {x : Ring} {v0 : Value} {l0 : List Int} {k : Int} (hv0 : RdS w 1 (Pl intC) v0 (mkD mkInt (nx 1) k l0)) (hb0 : l0.length ≤ 1048576) (hk : 0 ≤ k ∧ k ≤ 9007199254740992) : CV Try.prog 157 [.agg (Ring.row x v0).toArray, .int .i64 k] w (.int .i64 (endD (nx 1) k l0)) := by
  obtain ⟨A0, cc0, rfl, hA0⟩ := hv0
  refine cv_of Try.func157 rfl rfl rfl <| SQ <| RG <| BX [_, _, _, _] rfl rfl rfl <| fun b1 => AS rfl rfl <| ND <| SQ <| RG <| FA rfl tyF_impl_Ring_3 rfl <| LD (i := 0) rfl tyP_S_int rfl rfl rfl <| MV rfl rfl <| CV1 rfl fun_laws_heldIntS rfl (fun w hs => laws_heldIntS (k := k) (l := l0) (hA0.s Pl.keeps hs) hb0 (kto hk (by decide) (by decide) (by decide))) <| ?_
  have hkb1 : 0 ≤ (endD (nx 1) k l0) ∧ (endD (nx 1) k l0) ≤ 9007199255789568 := by
    have hkt := endD_all (nx := (nx 1)) 1 (by decide) hb0 (k := k) (fun x _ k => nx_bd (by decide) x k)
    omega
  refine AS rfl rfl <| ND <| SQ <| SQ <| RG <| MV rfl rfl <| rw_lss rfl rfl rfl <| ND <| CF rfl (knn (kup hkb1)) <| SK <| SQ <| RG <| MV rfl rfl <| AS rfl rfl <| ND <| ret_cv Try.func157 (res1 Try.func157 rfl (rv_tmp rfl)) <| ?_
  rfl

set_option maxRecDepth 20000 in
theorem laws_heldRangeS {w : World} {v : Value} {l : List Range} {k : Int} (hv : RdS w 2 (Pl Range.cells) v (mkD mkRange (nx 2) k l)) (hb : l.length ≤ 1048576) (hk : 0 ≤ k ∧ k ≤ 36028797018963968) : CV Try.prog 81 [v, .int .i64 k] w (.int .i64 (endD (nx 2) k l)) := by
  obtain ⟨A, c, rfl, hA⟩ := hv
  have hlm : (mkD mkRange (nx 2) k l).length = l.length := mkD_len _ _ _ _
  refine cv_of Try.func81 rfl rfl rfl <| SQ <| RG <| AS rfl rfl <| ND <| SQ <| SQ <| RG <| AS rfl rfl <| ND <| BK <| ?_
  refine gw_loopC (α := Nat × Int) (fun z_ => z_.1 ≤ l.length ∧ z_.2 = endD (nx 2) k (l.take z_.1)) (fun z_ => l.length - z_.1) (fun e z_ => (5, .int .i64 (z_.1 : Int)) :: (1, .int .i64 z_.2) :: e) (0, k) [(0, _)] (Sub.consE rfl rfl (Sub.consE rfl rfl (Sub.cons (i := 0) rfl (Sub.nil _)))) ?_ ?_
  · exact ⟨Nat.zero_le _, rfl⟩
  · rintro ⟨i, Kk⟩ hI1 ih1
    dsimp only at hI1
    dsimp only
    obtain ⟨hle, hK⟩ := hI1
    have hkb : 0 ≤ Kk ∧ Kk ≤ 36028797021061120 := by
      have hkt := endD_le 2 (by decide) (i := i) hb (k := k) (fun x _ k => nx_bd (by decide) x k)
      rw [← hK] at hkt; omega
    refine SQ <| SQ <| RG <| MV rfl rfl <| MV rfl rfl <| rw_len rfl tyE_S_impl_Range rfl <| rw_lss rfl rfl rfl <| ND <| ?_
    refine gw_cond rfl (fun h1 => ?_) (fun h1 => ?_)
    · have hi2 := lt_of_dec h1
      obtain ⟨x3, hx3⟩ := get_of_lt hi2
      obtain ⟨y3, hy3, rfl⟩ := mkD_get _ _ _ _ _ _ hx3
      rw [← hK] at hx3
      refine SK <| SQ <| BK <| SQ <| SQ <| RG <| MV rfl rfl <| MV rfl rfl <| ?_
      have hq4 := hA.plain hx3
      refine rw_indexAddr (i) rfl tyE_S_impl_Range rfl rfl rfl (hA.some hi2) hi2 <| FX rfl tyF_impl_Range_0 rfl <| rw_loadX _ rfl tyP_int rfl (fun w hs => hq4.ld hs rfl) <| MV rfl rfl <| NS rfl rfl rfl <| ND <| gw_sub (Sub.cons (i := 0) rfl (Sub.cons (i := 1) rfl (Sub.cons (i := 5) rfl (Sub.cons (i := 18) rfl (Sub.nil _))))) <| CF rfl rfl <| SK <| SQ <| RG <| MV rfl rfl <| rw_addK (Kk + 1) rfl rfl rfl (kinc0 (kup hkb)) <| AS rfl rfl <| ND <| SQ <| SQ <| RG <| MV rfl rfl <| MV rfl rfl <| rw_indexAddr (i) rfl tyE_S_impl_Range rfl rfl rfl (hA.some hi2) hi2 <| ?_
      refine FX rfl tyF_impl_Range_1 rfl <| rw_loadX _ rfl tyP_int rfl (fun w hs => hq4.ld hs rfl) <| MV rfl rfl <| NS rfl rfl rfl <| ND <| CF rfl rfl <| SK <| RG <| MV rfl rfl <| rw_addK (Kk + 2) rfl rfl rfl (kinc (kup hkb) (by decide) (by decide) (by decide)) <| AS rfl rfl <| ND <| gw_sub (Sub.cons (i := 0) rfl (Sub.cons (i := 1) rfl (Sub.cons (i := 5) rfl (Sub.nil _)))) <| IB <| RG <| MV rfl rfl <| rw_add rfl rfl rfl <| AS rfl rfl <| ND <| ?_
      refine gw_sub (Sub.consE (i := 5) rfl (int_succ (by omega)) (Sub.consE (i := 1) rfl rfl (Sub.cons (i := 0) rfl (Sub.nil _)))) (ih1 (i + 1, (nx 2) Kk y3) ?_ ?_)
      · exact ⟨by omega, endD_step hy3 hK⟩
      · show l.length - (i + 1) < l.length - i; omega
    · have hn5 := nil_of_dec h1
      refine EX rfl <| SQ <| RG <| MV rfl rfl <| AS rfl rfl <| ND <| ret_cv Try.func81 (res1 Try.func81 rfl (rv_tmp rfl)) <| ?_
      have hil : i = l.length := by have hz := congrArg List.length hn5; rw [List.length_drop, List.length_nil] at hz; omega
      rw [hK, hil, List.take_length]

theorem laws_heldSender {w : World} {x : Sender} {v0 v1 v2 v3 : Value} {l0 : List Int} {l1 : List Range} {l2 : List Range} {l3 : List Range} {k : Int} (hv0 : RdS w 1 (Pl intC) v0 (mkD mkInt (nx 1) k l0)) (hv1 : RdS w 2 (Pl Range.cells) v1 (mkD mkRange (nx 2) (endD (nx 1) k l0) l1)) (hv2 : RdS w 2 (Pl Range.cells) v2 (mkD mkRange (nx 2) (endD (nx 2) (endD (nx 1) k l0) l1) l2)) (hv3 : RdS w 2 (Pl Range.cells) v3 (mkD mkRange (nx 2) (endD (nx 2) (endD (nx 2) (endD (nx 1) k l0) l1) l2) l3)) (hb0 : l0.length ≤ 1048576) (hb1 : l1.length ≤ 1048576) (hb2 : l2.length ≤ 1048576) (hb3 : l3.length ≤ 1048576) (hk : 0 ≤ k ∧ k ≤ 4503599627370496) : CV Try.prog 93 [.agg (Sender.row x v0 v1 v2 v3).toArray, .int .i64 k] w (.int .i64 (endD (nx 2) (endD (nx 2) (endD (nx 2) (endD (nx 1) k l0) l1) l2) l3)) := by
  obtain ⟨A0, cc0, rfl, hA0⟩ := hv0
  obtain ⟨A1, cc1, rfl, hA1⟩ := hv1
  obtain ⟨A2, cc2, rfl, hA2⟩ := hv2
  obtain ⟨A3, cc3, rfl, hA3⟩ := hv3
  refine cv_of Try.func93 rfl rfl rfl <| SQ <| RG <| BX [_, _, _, _, _, _, _, _, _, _, _, _] rfl rfl rfl <| fun b1 => AS rfl rfl <| ND <| SQ <| RG <| FA rfl tyF_impl_Sender_1 rfl <| LS (i := 0) [_, _, _, _] rfl tyS_impl_Ring rfl rfl rfl rfl <| MV rfl rfl <| CV1 rfl fun_laws_heldRing rfl (fun w hs => laws_heldRing (k := k) (l0 := l0) (hA0.s Pl.keeps hs) hb0 (kto hk (by decide) (by decide) (by decide))) <| ?_
  have hkb1 : 0 ≤ (endD (nx 1) k l0) ∧ (endD (nx 1) k l0) ≤ 4503599628419072 := by
    have hkt := endD_all (nx := (nx 1)) 1 (by decide) hb0 (k := k) (fun x _ k => nx_bd (by decide) x k)
    omega
  refine AS rfl rfl <| ND <| SQ <| SQ <| RG <| MV rfl rfl <| rw_lss rfl rfl rfl <| ND <| CF rfl (knn (kup hkb1)) <| SK <| SQ <| RG <| FA rfl tyF_impl_Sender_2 rfl <| LD (i := 0) rfl tyP_S_impl_Range rfl rfl rfl <| MV rfl rfl <| CV1 rfl fun_laws_heldRangeS rfl (fun w hs => laws_heldRangeS (k := (endD (nx 1) k l0)) (l := l1) (hA1.s Pl.keeps hs) hb1 (kto hkb1 (by decide) (by decide) (by decide))) <| ?_
  have hkb2 : 0 ≤ (endD (nx 2) (endD (nx 1) k l0) l1) ∧ (endD (nx 2) (endD (nx 1) k l0) l1) ≤ 4503599630516224 := by
    have hkt := endD_all (nx := (nx 2)) 2 (by decide) hb1 (k := (endD (nx 1) k l0)) (fun x _ k => nx_bd (by decide) x k)
    omega
  refine AS rfl rfl <| ND <| SQ <| SQ <| RG <| MV rfl rfl <| rw_lss rfl rfl rfl <| ND <| CF rfl (knn (kup hkb2)) <| SK <| SQ <| RG <| FA rfl tyF_impl_Sender_3 rfl <| LD (i := 0) rfl tyP_S_impl_Range rfl rfl rfl <| MV rfl rfl <| CV1 rfl fun_laws_heldRangeS rfl (fun w hs => laws_heldRangeS (k := (endD (nx 2) (endD (nx 1) k l0) l1)) (l := l2) (hA2.s Pl.keeps hs) hb2 (kto hkb2 (by decide) (by decide) (by decide))) <| ?_
  have hkb3 : 0 ≤ (endD (nx 2) (endD (nx 2) (endD (nx 1) k l0) l1) l2) ∧ (endD (nx 2) (endD (nx 2) (endD (nx 1) k l0) l1) l2) ≤ 4503599632613376 := by
    have hkt := endD_all (nx := (nx 2)) 2 (by decide) hb2 (k := (endD (nx 2) (endD (nx 1) k l0) l1)) (fun x _ k => nx_bd (by decide) x k)
    omega
  refine AS rfl rfl <| ND <| SQ <| SQ <| RG <| MV rfl rfl <| rw_lss rfl rfl rfl <| ND <| CF rfl (knn (kup hkb3)) <| SK <| SQ <| RG <| FA rfl tyF_impl_Sender_4 rfl <| LD (i := 0) rfl tyP_S_impl_Range rfl rfl rfl <| MV rfl rfl <| CV1 rfl fun_laws_heldRangeS rfl (fun w hs => laws_heldRangeS (k := (endD (nx 2) (endD (nx 2) (endD (nx 1) k l0) l1) l2)) (l := l3) (hA3.s Pl.keeps hs) hb3 (kto hkb3 (by decide) (by decide) (by decide))) <| ?_
  have hkb4 : 0 ≤ (endD (nx 2) (endD (nx 2) (endD (nx 2) (endD (nx 1) k l0) l1) l2) l3) ∧ (endD (nx 2) (endD (nx 2) (endD (nx 2) (endD (nx 1) k l0) l1) l2) l3) ≤ 4503599634710528 := by
    have hkt := endD_all (nx := (nx 2)) 2 (by decide) hb3 (k := (endD (nx 2) (endD (nx 2) (endD (nx 1) k l0) l1) l2)) (fun x _ k => nx_bd (by decide) x k)
    omega
  refine AS rfl rfl <| ND <| SQ <| SQ <| RG <| MV rfl rfl <| rw_lss rfl rfl rfl <| ND <| CF rfl (knn (kup hkb4)) <| SK <| SQ <| RG <| MV rfl rfl <| AS rfl rfl <| ND <| ret_cv Try.func93 (res1 Try.func93 rfl (rv_tmp rfl)) <| ?_
  rfl

set_option maxRecDepth 20000 in
theorem laws_heldChunkS {w : World} {v : Value} {l : List Chunk} {k : Int} (hv : RdS w 2 (Pl Chunk.cells) v (mkD mkChunk (nx 2) k l)) (hb : l.length ≤ 1048576) (hk : 0 ≤ k ∧ k ≤ 36028797018963968) : CV Try.prog 82 [v, .int .i64 k] w (.int .i64 (endD (nx 2) k l)) := by
  obtain ⟨A, c, rfl, hA⟩ := hv
  have hlm : (mkD mkChunk (nx 2) k l).length = l.length := mkD_len _ _ _ _
  refine cv_of Try.func82 rfl rfl rfl <| SQ <| RG <| AS rfl rfl <| ND <| SQ <| SQ <| RG <| AS rfl rfl <| ND <| BK <| ?_
  refine gw_loopC (α := Nat × Int) (fun z_ => z_.1 ≤ l.length ∧ z_.2 = endD (nx 2) k (l.take z_.1)) (fun z_ => l.length - z_.1) (fun e z_ => (5, .int .i64 (z_.1 : Int)) :: (1, .int .i64 z_.2) :: e) (0, k) [(0, _)] (Sub.consE rfl rfl (Sub.consE rfl rfl (Sub.cons (i := 0) rfl (Sub.nil _)))) ?_ ?_
  · exact ⟨Nat.zero_le _, rfl⟩
  · rintro ⟨i, Kk⟩ hI1 ih1
    dsimp only at hI1
    dsimp only
    obtain ⟨hle, hK⟩ := hI1
    have hkb : 0 ≤ Kk ∧ Kk ≤ 36028797021061120 := by
      have hkt := endD_le 2 (by decide) (i := i) hb (k := k) (fun x _ k => nx_bd (by decide) x k)
      rw [← hK] at hkt; omega
    refine SQ <| SQ <| RG <| MV rfl rfl <| MV rfl rfl <| rw_len rfl tyE_S_impl_Chunk rfl <| rw_lss rfl rfl rfl <| ND <| ?_
    refine gw_cond rfl (fun h1 => ?_) (fun h1 => ?_)
    · have hi2 := lt_of_dec h1
      obtain ⟨x3, hx3⟩ := get_of_lt hi2
      obtain ⟨y3, hy3, rfl⟩ := mkD_get _ _ _ _ _ _ hx3
      rw [← hK] at hx3
      refine SK <| SQ <| BK <| SQ <| SQ <| RG <| MV rfl rfl <| MV rfl rfl <| ?_
      have hq4 := hA.plain hx3
      refine rw_indexAddr (i) rfl tyE_S_impl_Chunk rfl rfl rfl (hA.some hi2) hi2 <| FX rfl tyF_impl_Chunk_0 rfl <| rw_loadX _ rfl tyP_int rfl (fun w hs => hq4.ld hs rfl) <| MV rfl rfl <| NS rfl rfl rfl <| ND <| gw_sub (Sub.cons (i := 0) rfl (Sub.cons (i := 1) rfl (Sub.cons (i := 5) rfl (Sub.cons (i := 18) rfl (Sub.nil _))))) <| CF rfl rfl <| SK <| SQ <| RG <| MV rfl rfl <| rw_addK (Kk + 1) rfl rfl rfl (kinc0 (kup hkb)) <| AS rfl rfl <| ND <| SQ <| SQ <| gw_draw' [(0, .det), (1, .det), (2, .det), (3, .det), (4, .det), (5, .det), (6, .det)] [7] mixed rfl (free_det (free_det (free_det (free_det (free_det (free_det (free_det free_nil))))))) (ts := [_]) rfl <| ?_
      refine DT rfl rfl (fun K hk => MV rfl rfl hk) <| DT rfl rfl (fun K hk => MV rfl rfl hk) <| DT rfl rfl (fun K hk => rw_indexAddr (i) rfl tyE_S_impl_Chunk rfl rfl rfl (hA.some hi2) hi2 hk) <| DT rfl rfl (fun K hk => FX rfl tyF_impl_Chunk_1 rfl hk) <| DT rfl rfl (fun K hk => rw_loadX _ rfl tyP_string rfl (fun w hs => hq4.ld hs rfl) hk) <| DT rfl rfl (fun K hk => MV rfl rfl hk) <| DT rfl rfl (fun K hk => CV1 rfl fun_laws_markText rfl (fun w hs => laws_markText (Kk + 1) (kplus hkb (by decide)) w) hk) <| dw_nil <| rw_neqSelfS rfl rfl rfl <| ?_
      refine ND <| gw_sub (Sub.cons (i := 0) rfl (Sub.cons (i := 1) rfl (Sub.cons (i := 5) rfl (Sub.cons (i := 28) rfl (Sub.nil _))))) <| CF rfl rfl <| SK <| RG <| MV rfl rfl <| rw_addK (Kk + 2) rfl rfl rfl (kinc (kup hkb) (by decide) (by decide) (by decide)) <| AS rfl rfl <| ND <| IB <| RG <| MV rfl rfl <| rw_add rfl rfl rfl <| AS rfl rfl <| ND <| ?_
      refine gw_sub (Sub.consE (i := 5) rfl (int_succ (by omega)) (Sub.consE (i := 1) rfl rfl (Sub.cons (i := 0) rfl (Sub.nil _)))) (ih1 (i + 1, (nx 2) Kk y3) ?_ ?_)
      · exact ⟨by omega, endD_step hy3 hK⟩
      · show l.length - (i + 1) < l.length - i; omega
    · have hn5 := nil_of_dec h1
      refine EX rfl <| SQ <| RG <| MV rfl rfl <| AS rfl rfl <| ND <| ret_cv Try.func82 (res1 Try.func82 rfl (rv_tmp rfl)) <| ?_
      have hil : i = l.length := by have hz := congrArg List.length hn5; rw [List.length_drop, List.length_nil] at hz; omega
      rw [hK, hil, List.take_length]

theorem laws_heldBuffer {w : World} {x : Buffer} {v0 : Value} {l0 : List Chunk} {k : Int} (hv0 : RdS w 2 (Pl Chunk.cells) v0 (mkD mkChunk (nx 2) k l0)) (hb0 : l0.length ≤ 1048576) (hk : 0 ≤ k ∧ k ≤ 9007199254740992) : CV Try.prog 158 [.agg (Buffer.row x v0).toArray, .int .i64 k] w (.int .i64 (endD (nx 2) k l0)) := by
  obtain ⟨A0, cc0, rfl, hA0⟩ := hv0
  refine cv_of Try.func158 rfl rfl rfl <| SQ <| RG <| BX [_, _] rfl rfl rfl <| fun b1 => AS rfl rfl <| ND <| SQ <| RG <| FA rfl tyF_impl_Buffer_1 rfl <| LD (i := 0) rfl tyP_S_impl_Chunk rfl rfl rfl <| MV rfl rfl <| CV1 rfl fun_laws_heldChunkS rfl (fun w hs => laws_heldChunkS (k := k) (l := l0) (hA0.s Pl.keeps hs) hb0 (kto hk (by decide) (by decide) (by decide))) <| ?_
  have hkb1 : 0 ≤ (endD (nx 2) k l0) ∧ (endD (nx 2) k l0) ≤ 9007199256838144 := by
    have hkt := endD_all (nx := (nx 2)) 2 (by decide) hb0 (k := k) (fun x _ k => nx_bd (by decide) x k)
    omega
  refine AS rfl rfl <| ND <| SQ <| SQ <| RG <| MV rfl rfl <| rw_lss rfl rfl rfl <| ND <| CF rfl (knn (kup hkb1)) <| SK <| SQ <| RG <| MV rfl rfl <| AS rfl rfl <| ND <| ret_cv Try.func158 (res1 Try.func158 rfl (rv_tmp rfl)) <| ?_
  rfl

theorem laws_heldReceiver {w : World} {x : Receiver} {v0 : Value} {l0 : List Chunk} {k : Int} (hv0 : RdS w 2 (Pl Chunk.cells) v0 (mkD mkChunk (nx 2) k l0)) (hb0 : l0.length ≤ 1048576) (hk : 0 ≤ k ∧ k ≤ 4503599627370496) : CV Try.prog 94 [.agg (Receiver.row x v0).toArray, .int .i64 k] w (.int .i64 (endD (nx 2) k l0)) := by
  obtain ⟨A0, cc0, rfl, hA0⟩ := hv0
  refine cv_of Try.func94 rfl rfl rfl <| SQ <| RG <| BX [_, _, _, _, _, _] rfl rfl rfl <| fun b1 => AS rfl rfl <| ND <| SQ <| RG <| FA rfl tyF_impl_Receiver_1 rfl <| LS (i := 0) [_, _] rfl tyS_impl_Buffer rfl rfl rfl rfl <| MV rfl rfl <| CV1 rfl fun_laws_heldBuffer rfl (fun w hs => laws_heldBuffer (k := k) (l0 := l0) (hA0.s Pl.keeps hs) hb0 (kto hk (by decide) (by decide) (by decide))) <| ?_
  have hkb1 : 0 ≤ (endD (nx 2) k l0) ∧ (endD (nx 2) k l0) ≤ 4503599629467648 := by
    have hkt := endD_all (nx := (nx 2)) 2 (by decide) hb0 (k := k) (fun x _ k => nx_bd (by decide) x k)
    omega
  refine AS rfl rfl <| ND <| SQ <| SQ <| RG <| MV rfl rfl <| rw_lss rfl rfl rfl <| ND <| CF rfl (knn (kup hkb1)) <| SK <| SQ <| RG <| MV rfl rfl <| AS rfl rfl <| ND <| ret_cv Try.func94 (res1 Try.func94 rfl (rv_tmp rfl)) <| ?_
  rfl

theorem laws_heldStream {w : World} {x : Stream} {v0 v1 v2 v3 v4 : Value} {l0 : List Int} {l1 : List Range} {l2 : List Range} {l3 : List Range} {l4 : List Chunk} {k : Int} (hv0 : RdS w 1 (Pl intC) v0 (mkD mkInt (nx 1) k l0)) (hv1 : RdS w 2 (Pl Range.cells) v1 (mkD mkRange (nx 2) (endD (nx 1) k l0) l1)) (hv2 : RdS w 2 (Pl Range.cells) v2 (mkD mkRange (nx 2) (endD (nx 2) (endD (nx 1) k l0) l1) l2)) (hv3 : RdS w 2 (Pl Range.cells) v3 (mkD mkRange (nx 2) (endD (nx 2) (endD (nx 2) (endD (nx 1) k l0) l1) l2) l3)) (hv4 : RdS w 2 (Pl Chunk.cells) v4 (mkD mkChunk (nx 2) (endD (nx 2) (endD (nx 2) (endD (nx 2) (endD (nx 1) k l0) l1) l2) l3) l4)) (hb0 : l0.length ≤ 1048576) (hb1 : l1.length ≤ 1048576) (hb2 : l2.length ≤ 1048576) (hb3 : l3.length ≤ 1048576) (hb4 : l4.length ≤ 1048576) (hk : 0 ≤ k ∧ k ≤ 2251799813685248) : CV Try.prog 30 [.agg (Stream.row x v0 v1 v2 v3 v4).toArray, .int .i64 k] w (.int .i64 (endD (nx 2) (endD (nx 2) (endD (nx 2) (endD (nx 2) (endD (nx 1) k l0) l1) l2) l3) l4)) := by
  obtain ⟨A0, cc0, rfl, hA0⟩ := hv0
  obtain ⟨A1, cc1, rfl, hA1⟩ := hv1
  obtain ⟨A2, cc2, rfl, hA2⟩ := hv2
  obtain ⟨A3, cc3, rfl, hA3⟩ := hv3
  obtain ⟨A4, cc4, rfl, hA4⟩ := hv4
  refine cv_of Try.func30 rfl rfl rfl <| SQ <| RG <| BX [_, _, _, _, _, _, _, _, _, _, _, _, _, _, _, _, _, _, _, _, _, _, _, _, _, _, _, _, _, _, _, _, _, _, _, _, _, _, _] rfl rfl rfl <| fun b1 => AS rfl rfl <| ND <| SQ <| RG <| FA rfl tyF_impl_Stream_1 rfl <| LS (i := 0) [_, _, _, _, _, _, _, _, _, _, _, _] rfl tyS_impl_Sender rfl rfl rfl rfl <| MV rfl rfl <| CV1 rfl fun_laws_heldSender rfl (fun w hs => laws_heldSender (k := k) (l0 := l0) (l1 := l1) (l2 := l2) (l3 := l3) (hA0.s Pl.keeps hs) (hA1.s Pl.keeps hs) (hA2.s Pl.keeps hs) (hA3.s Pl.keeps hs) hb0 hb1 hb2 hb3 (kto hk (by decide) (by decide) (by decide))) <| ?_
  have hkb1 : 0 ≤ (endD (nx 1) k l0) ∧ (endD (nx 1) k l0) ≤ 2251799814733824 := by
    have hkt := endD_all (nx := (nx 1)) 1 (by decide) hb0 (k := k) (fun x _ k => nx_bd (by decide) x k)
    omega
  have hkb2 : 0 ≤ (endD (nx 2) (endD (nx 1) k l0) l1) ∧ (endD (nx 2) (endD (nx 1) k l0) l1) ≤ 2251799816830976 := by
    have hkt := endD_all (nx := (nx 2)) 2 (by decide) hb1 (k := (endD (nx 1) k l0)) (fun x _ k => nx_bd (by decide) x k)
    omega
  have hkb3 : 0 ≤ (endD (nx 2) (endD (nx 2) (endD (nx 1) k l0) l1) l2) ∧ (endD (nx 2) (endD (nx 2) (endD (nx 1) k l0) l1) l2) ≤ 2251799818928128 := by
    have hkt := endD_all (nx := (nx 2)) 2 (by decide) hb2 (k := (endD (nx 2) (endD (nx 1) k l0) l1)) (fun x _ k => nx_bd (by decide) x k)
    omega
  have hkb4 : 0 ≤ (endD (nx 2) (endD (nx 2) (endD (nx 2) (endD (nx 1) k l0) l1) l2) l3) ∧ (endD (nx 2) (endD (nx 2) (endD (nx 2) (endD (nx 1) k l0) l1) l2) l3) ≤ 2251799821025280 := by
    have hkt := endD_all (nx := (nx 2)) 2 (by decide) hb3 (k := (endD (nx 2) (endD (nx 2) (endD (nx 1) k l0) l1) l2)) (fun x _ k => nx_bd (by decide) x k)
    omega
  refine AS rfl rfl <| ND <| SQ <| SQ <| RG <| MV rfl rfl <| rw_lss rfl rfl rfl <| ND <| CF rfl (knn (kup hkb4)) <| SK <| SQ <| RG <| FA rfl tyF_impl_Stream_3 rfl <| LS (i := 0) [_, _, _, _, _, _] rfl tyS_impl_Receiver rfl rfl rfl rfl <| MV rfl rfl <| CV1 rfl fun_laws_heldReceiver rfl (fun w hs => laws_heldReceiver (k := (endD (nx 2) (endD (nx 2) (endD (nx 2) (endD (nx 1) k l0) l1) l2) l3)) (l0 := l4) (hA4.s Pl.keeps hs) hb4 (kto hkb4 (by decide) (by decide) (by decide))) <| ?_
  have hkb5 : 0 ≤ (endD (nx 2) (endD (nx 2) (endD (nx 2) (endD (nx 2) (endD (nx 1) k l0) l1) l2) l3) l4) ∧ (endD (nx 2) (endD (nx 2) (endD (nx 2) (endD (nx 2) (endD (nx 1) k l0) l1) l2) l3) l4) ≤ 2251799823122432 := by
    have hkt := endD_all (nx := (nx 2)) 2 (by decide) hb4 (k := (endD (nx 2) (endD (nx 2) (endD (nx 2) (endD (nx 1) k l0) l1) l2) l3)) (fun x _ k => nx_bd (by decide) x k)
    omega
  refine AS rfl rfl <| ND <| SQ <| SQ <| RG <| MV rfl rfl <| rw_lss rfl rfl rfl <| ND <| CF rfl (knn (kup hkb5)) <| SK <| SQ <| RG <| MV rfl rfl <| AS rfl rfl <| ND <| ret_cv Try.func30 (res1 Try.func30 rfl (rv_tmp rfl)) <| ?_
  rfl

set_option maxHeartbeats 4000000 in
set_option maxRecDepth 20000 in
theorem laws_heldStreamS {w : World} {v : Value} {l : List Stream} {k : Int} (hv : RdS w 39 RdStream v (mkD mkStream kS6 k l)) (hb : l.length ≤ 1048576) (hall : ∀ x ∈ l, x.le 1048576) (hk : 0 ≤ k ∧ k ≤ 1125899906842624) : CV Try.prog 23 [v, .int .i64 k] w (.int .i64 (endD kS6 k l)) := by
  obtain ⟨A, c, rfl, hA⟩ := hv
  have hlm : (mkD mkStream kS6 k l).length = l.length := mkD_len _ _ _ _
  refine cv_of Try.func23 rfl rfl rfl <| SQ <| RG <| AS rfl rfl <| ND <| SQ <| SQ <| RG <| AS rfl rfl <| ND <| BK <| ?_
  refine gw_loopC (α := Nat × Int) (fun z_ => z_.1 ≤ l.length ∧ z_.2 = endD kS6 k (l.take z_.1)) (fun z_ => l.length - z_.1) (fun e z_ => (5, .int .i64 (z_.1 : Int)) :: (1, .int .i64 z_.2) :: e) (0, k) [(0, _)] (Sub.consE rfl rfl (Sub.consE rfl rfl (Sub.cons (i := 0) rfl (Sub.nil _)))) ?_ ?_
  · exact ⟨Nat.zero_le _, rfl⟩
  · rintro ⟨i, Kk⟩ hI1 ih1
    dsimp only at hI1
    dsimp only
    obtain ⟨hle, hK⟩ := hI1
    have hkb : 0 ≤ Kk ∧ Kk ≤ 1135795547144192 := by
      have hkt := endD_le 9437218 (by decide) (i := i) hb (k := k) (fun x hx k => kS6_bd (hall x hx) k)
      rw [← hK] at hkt; omega
    refine SQ <| SQ <| RG <| MV rfl rfl <| MV rfl rfl <| rw_len rfl tyE_S_impl_Stream rfl <| rw_lss rfl rfl rfl <| ND <| ?_
    refine gw_cond rfl (fun h1 => ?_) (fun h1 => ?_)
    · have hi2 := lt_of_dec h1
      obtain ⟨x3, hx3⟩ := get_of_lt hi2
      obtain ⟨y3, hy3, rfl⟩ := mkD_get _ _ _ _ _ _ hx3
      rw [← hK] at hx3
      obtain ⟨hby4_0, hby4_1, hby4_2, hby4_3, hby4_4, hby4_5⟩ := hall y3 (List.mem_of_getElem? hy3)
      have hle_y4 : y3.le 1048576 := hall y3 (List.mem_of_getElem? hy3)
      refine SK <| SQ <| BK <| SQ <| SQ <| RG <| MV rfl rfl <| MV rfl rfl <| ?_
      obtain ⟨cse5_, hRe5_, hq5⟩ := hA.get hx3
      obtain ⟨ve5_0, ve5_1, ve5_2, ve5_3, ve5_4, rfl, ke5_0, ke5_1, ke5_2, ke5_3, ke5_4⟩ := hRe5_
      obtain ⟨Ae5_0, ce5_0, rfl, hAe5_0⟩ := ke5_0
      obtain ⟨Ae5_1, ce5_1, rfl, hAe5_1⟩ := ke5_1
      obtain ⟨Ae5_2, ce5_2, rfl, hAe5_2⟩ := ke5_2
      obtain ⟨Ae5_3, ce5_3, rfl, hAe5_3⟩ := ke5_3
      obtain ⟨Ae5_4, ce5_4, rfl, hAe5_4⟩ := ke5_4
      refine rw_indexAddr (i) rfl tyE_S_impl_Stream rfl rfl rfl (hA.some hi2) hi2 <| FX rfl tyF_impl_Stream_0 rfl <| rw_loadX _ rfl tyP_int rfl (fun w hs => hq5.ld hs rfl) <| MV rfl rfl <| NS rfl rfl rfl <| ND <| gw_sub (Sub.cons (i := 0) rfl (Sub.cons (i := 1) rfl (Sub.cons (i := 5) rfl (Sub.cons (i := 18) rfl (Sub.nil _))))) <| CF rfl rfl <| SK <| SQ <| RG <| MV rfl rfl <| rw_addK (Kk + 1) rfl rfl rfl (kinc0 (kup hkb)) <| AS rfl rfl <| ND <| SQ <| SQ <| RG <| MV rfl rfl <| MV rfl rfl <| rw_indexAddr (i) rfl tyE_S_impl_Stream rfl rfl rfl (hA.some hi2) hi2 <| ?_
      refine FX rfl tyF_impl_Stream_1 rfl <| FX rfl tyF_impl_Sender_0 rfl <| rw_loadX _ rfl tyP_int rfl (fun w hs => hq5.ld2 hs rfl) <| MV rfl rfl <| NS rfl rfl rfl <| ND <| gw_sub (Sub.cons (i := 0) rfl (Sub.cons (i := 1) rfl (Sub.cons (i := 5) rfl (Sub.cons (i := 28) rfl (Sub.nil _))))) <| CF rfl rfl <| SK <| SQ <| RG <| MV rfl rfl <| rw_addK (Kk + 2) rfl rfl rfl (kinc (kup hkb) (by decide) (by decide) (by decide)) <| AS rfl rfl <| ND <| SQ <| SQ <| RG <| MV rfl rfl <| MV rfl rfl <| rw_indexAddr (i) rfl tyE_S_impl_Stream rfl rfl rfl (hA.some hi2) hi2 <| ?_
      refine FX rfl tyF_impl_Stream_1 rfl <| FX rfl tyF_impl_Sender_1 rfl <| FX rfl tyF_impl_Ring_0 rfl <| rw_loadX _ rfl tyP_int rfl (fun w hs => hq5.ld3 hs rfl) <| MV rfl rfl <| NS rfl rfl rfl <| ND <| gw_sub (Sub.cons (i := 0) rfl (Sub.cons (i := 1) rfl (Sub.cons (i := 5) rfl (Sub.cons (i := 39) rfl (Sub.nil _))))) <| CF rfl rfl <| SK <| SQ <| RG <| MV rfl rfl <| rw_addK (Kk + 3) rfl rfl rfl (kinc (kup hkb) (by decide) (by decide) (by decide)) <| AS rfl rfl <| ND <| SQ <| SQ <| RG <| MV rfl rfl <| ?_
      refine MV rfl rfl <| rw_indexAddr (i) rfl tyE_S_impl_Stream rfl rfl rfl (hA.some hi2) hi2 <| FX rfl tyF_impl_Stream_1 rfl <| FX rfl tyF_impl_Sender_1 rfl <| FX rfl tyF_impl_Ring_1 rfl <| rw_loadX _ rfl tyP_int rfl (fun w hs => hq5.ld3 hs rfl) <| MV rfl rfl <| NS rfl rfl rfl <| ND <| gw_sub (Sub.cons (i := 0) rfl (Sub.cons (i := 1) rfl (Sub.cons (i := 5) rfl (Sub.cons (i := 50) rfl (Sub.nil _))))) <| CF rfl rfl <| SK <| SQ <| RG <| MV rfl rfl <| rw_addK (Kk + 4) rfl rfl rfl (kinc (kup hkb) (by decide) (by decide) (by decide)) <| ?_
      refine AS rfl rfl <| ND <| SQ <| SQ <| RG <| MV rfl rfl <| MV rfl rfl <| rw_indexAddr (i) rfl tyE_S_impl_Stream rfl rfl rfl (hA.some hi2) hi2 <| FX rfl tyF_impl_Stream_1 rfl <| FX rfl tyF_impl_Sender_1 rfl <| FX rfl tyF_impl_Ring_2 rfl <| rw_loadX _ rfl tyP_int rfl (fun w hs => hq5.ld3 hs rfl) <| MV rfl rfl <| NS rfl rfl rfl <| ND <| gw_sub (Sub.cons (i := 0) rfl (Sub.cons (i := 1) rfl (Sub.cons (i := 5) rfl (Sub.cons (i := 61) rfl (Sub.nil _))))) <| CF rfl rfl <| SK <| SQ <| RG <| MV rfl rfl <| ?_
      refine rw_addK (Kk + 5) rfl rfl rfl (kinc (kup hkb) (by decide) (by decide) (by decide)) <| AS rfl rfl <| ND <| SQ <| RG <| MV rfl rfl <| MV rfl rfl <| rw_indexAddr (i) rfl tyE_S_impl_Stream rfl rfl rfl (hA.some hi2) hi2 <| FX rfl tyF_impl_Stream_1 rfl <| FX rfl tyF_impl_Sender_1 rfl <| FX rfl tyF_impl_Ring_3 rfl <| rw_loadX _ rfl tyP_S_int rfl (fun w hs => hq5.ld3 hs rfl) <| MV rfl rfl <| CV1 rfl fun_laws_heldIntS rfl (fun w hs => laws_heldIntS (k := (Kk + 5)) (l := y3.send.ring.cells) (hAe5_0.s Pl.keeps hs) hby4_0 (ktoc hkb (by decide) (by decide) (by decide))) <| ?_
      have hkb6 : 0 ≤ (kS1 Kk y3) ∧ (kS1 Kk y3) ≤ 1135795556581391 := by
        have hkt := kS_bd hle_y4 Kk
        omega
      refine AS rfl rfl <| ND <| gw_sub (Sub.cons (i := 0) rfl (Sub.cons (i := 1) rfl (Sub.cons (i := 5) rfl (Sub.nil _)))) <| SQ <| SQ <| RG <| MV rfl rfl <| rw_lss rfl rfl rfl <| ND <| CF rfl (knn (kup hkb6)) <| SK <| SQ <| RG <| MV rfl rfl <| MV rfl rfl <| rw_indexAddr (i) rfl tyE_S_impl_Stream rfl rfl rfl (hA.some hi2) hi2 <| FX rfl tyF_impl_Stream_1 rfl <| FX rfl tyF_impl_Sender_2 rfl <| rw_loadX _ rfl tyP_S_impl_Range rfl (fun w hs => hq5.ld2 hs rfl) <| MV rfl rfl <| CV1 rfl fun_laws_heldRangeS rfl (fun w hs => laws_heldRangeS (k := (kS1 Kk y3)) (l := y3.send.pending) (hAe5_1.s Pl.keeps hs) hby4_1 (kto hkb6 (by decide) (by decide) (by decide))) <| ?_
      have hkb7 : 0 ≤ (kS2 Kk y3) ∧ (kS2 Kk y3) ≤ 1135795556581391 := by
        have hkt := kS_bd hle_y4 Kk
        omega
      refine AS rfl rfl <| ND <| gw_sub (Sub.cons (i := 0) rfl (Sub.cons (i := 1) rfl (Sub.cons (i := 5) rfl (Sub.nil _)))) <| SQ <| SQ <| RG <| MV rfl rfl <| rw_lss rfl rfl rfl <| ND <| CF rfl (knn (kup hkb7)) <| SK <| SQ <| RG <| MV rfl rfl <| MV rfl rfl <| rw_indexAddr (i) rfl tyE_S_impl_Stream rfl rfl rfl (hA.some hi2) hi2 <| FX rfl tyF_impl_Stream_1 rfl <| FX rfl tyF_impl_Sender_3 rfl <| rw_loadX _ rfl tyP_S_impl_Range rfl (fun w hs => hq5.ld2 hs rfl) <| MV rfl rfl <| CV1 rfl fun_laws_heldRangeS rfl (fun w hs => laws_heldRangeS (k := (kS2 Kk y3)) (l := y3.send.flight) (hAe5_2.s Pl.keeps hs) hby4_2 (kto hkb7 (by decide) (by decide) (by decide))) <| ?_
      have hkb8 : 0 ≤ (kS3 Kk y3) ∧ (kS3 Kk y3) ≤ 1135795556581391 := by
        have hkt := kS_bd hle_y4 Kk
        omega
      refine AS rfl rfl <| ND <| gw_sub (Sub.cons (i := 0) rfl (Sub.cons (i := 1) rfl (Sub.cons (i := 5) rfl (Sub.nil _)))) <| SQ <| SQ <| RG <| MV rfl rfl <| rw_lss rfl rfl rfl <| ND <| CF rfl (knn (kup hkb8)) <| SK <| SQ <| RG <| MV rfl rfl <| MV rfl rfl <| rw_indexAddr (i) rfl tyE_S_impl_Stream rfl rfl rfl (hA.some hi2) hi2 <| FX rfl tyF_impl_Stream_1 rfl <| FX rfl tyF_impl_Sender_4 rfl <| rw_loadX _ rfl tyP_S_impl_Range rfl (fun w hs => hq5.ld2 hs rfl) <| MV rfl rfl <| CV1 rfl fun_laws_heldRangeS rfl (fun w hs => laws_heldRangeS (k := (kS3 Kk y3)) (l := y3.send.acked) (hAe5_3.s Pl.keeps hs) hby4_3 (kto hkb8 (by decide) (by decide) (by decide))) <| ?_
      have hkb9 : 0 ≤ (kS4 Kk y3) ∧ (kS4 Kk y3) ≤ 1135795556581391 := by
        have hkt := kS_bd hle_y4 Kk
        omega
      refine AS rfl rfl <| ND <| gw_sub (Sub.cons (i := 0) rfl (Sub.cons (i := 1) rfl (Sub.cons (i := 5) rfl (Sub.nil _)))) <| SQ <| SQ <| RG <| MV rfl rfl <| rw_lss rfl rfl rfl <| ND <| CF rfl (knn (kup hkb9)) <| SK <| SQ <| SQ <| RG <| MV rfl rfl <| MV rfl rfl <| rw_indexAddr (i) rfl tyE_S_impl_Stream rfl rfl rfl (hA.some hi2) hi2 <| FX rfl tyF_impl_Stream_1 rfl <| FX rfl tyF_impl_Sender_5 rfl <| rw_loadX _ rfl tyP_int rfl (fun w hs => hq5.ld2 hs rfl) <| MV rfl rfl <| NS rfl rfl rfl <| ND <| ?_
      refine CF rfl rfl <| SK <| SQ <| RG <| MV rfl rfl <| rw_addK ((kS4 Kk y3) + 1) rfl rfl rfl (kinc0 (kup hkb9)) <| AS rfl rfl <| ND <| gw_sub (Sub.cons (i := 0) rfl (Sub.cons (i := 1) rfl (Sub.cons (i := 5) rfl (Sub.nil _)))) <| SQ <| SQ <| RG <| MV rfl rfl <| MV rfl rfl <| rw_indexAddr (i) rfl tyE_S_impl_Stream rfl rfl rfl (hA.some hi2) hi2 <| FX rfl tyF_impl_Stream_1 rfl <| FX rfl tyF_impl_Sender_6 rfl <| rw_loadX _ rfl tyP_int rfl (fun w hs => hq5.ld2 hs rfl) <| MV rfl rfl <| NS rfl rfl rfl <| ?_
      refine ND <| CF rfl rfl <| SK <| SQ <| RG <| MV rfl rfl <| rw_addK ((kS4 Kk y3) + 2) rfl rfl rfl (kinc (kup hkb9) (by decide) (by decide) (by decide)) <| AS rfl rfl <| ND <| gw_sub (Sub.cons (i := 0) rfl (Sub.cons (i := 1) rfl (Sub.cons (i := 5) rfl (Sub.nil _)))) <| SQ <| SQ <| RG <| MV rfl rfl <| MV rfl rfl <| rw_indexAddr (i) rfl tyE_S_impl_Stream rfl rfl rfl (hA.some hi2) hi2 <| FX rfl tyF_impl_Stream_1 rfl <| FX rfl tyF_impl_Sender_7 rfl <| rw_loadX _ rfl tyP_int rfl (fun w hs => hq5.ld2 hs rfl) <| MV rfl rfl <| ?_
      refine NS rfl rfl rfl <| ND <| CF rfl rfl <| SK <| SQ <| RG <| MV rfl rfl <| rw_addK ((kS4 Kk y3) + 3) rfl rfl rfl (kinc (kup hkb9) (by decide) (by decide) (by decide)) <| AS rfl rfl <| ND <| gw_sub (Sub.cons (i := 0) rfl (Sub.cons (i := 1) rfl (Sub.cons (i := 5) rfl (Sub.nil _)))) <| SQ <| SQ <| RG <| MV rfl rfl <| MV rfl rfl <| rw_indexAddr (i) rfl tyE_S_impl_Stream rfl rfl rfl (hA.some hi2) hi2 <| FX rfl tyF_impl_Stream_1 rfl <| FX rfl tyF_impl_Sender_8 rfl <| rw_loadX _ rfl tyP_int rfl (fun w hs => hq5.ld2 hs rfl) <| ?_
      refine MV rfl rfl <| NS rfl rfl rfl <| ND <| CF rfl rfl <| SK <| SQ <| RG <| MV rfl rfl <| rw_addK ((kS4 Kk y3) + 4) rfl rfl rfl (kinc (kup hkb9) (by decide) (by decide) (by decide)) <| AS rfl rfl <| ND <| gw_sub (Sub.cons (i := 0) rfl (Sub.cons (i := 1) rfl (Sub.cons (i := 5) rfl (Sub.nil _)))) <| SQ <| SQ <| RG <| MV rfl rfl <| MV rfl rfl <| rw_indexAddr (i) rfl tyE_S_impl_Stream rfl rfl rfl (hA.some hi2) hi2 <| FX rfl tyF_impl_Stream_2 rfl <| FX rfl tyF_impl_Credit_0 rfl <| rw_loadX _ rfl tyP_int rfl (fun w hs => hq5.ld2 hs rfl) <| ?_
      refine MV rfl rfl <| NS rfl rfl rfl <| ND <| CF rfl rfl <| SK <| SQ <| RG <| MV rfl rfl <| rw_addK ((kS4 Kk y3) + 5) rfl rfl rfl (kinc (kup hkb9) (by decide) (by decide) (by decide)) <| AS rfl rfl <| ND <| gw_sub (Sub.cons (i := 0) rfl (Sub.cons (i := 1) rfl (Sub.cons (i := 5) rfl (Sub.nil _)))) <| SQ <| SQ <| RG <| MV rfl rfl <| MV rfl rfl <| rw_indexAddr (i) rfl tyE_S_impl_Stream rfl rfl rfl (hA.some hi2) hi2 <| FX rfl tyF_impl_Stream_2 rfl <| FX rfl tyF_impl_Credit_1 rfl <| rw_loadX _ rfl tyP_int rfl (fun w hs => hq5.ld2 hs rfl) <| ?_
      refine MV rfl rfl <| NS rfl rfl rfl <| ND <| CF rfl rfl <| SK <| SQ <| RG <| MV rfl rfl <| rw_addK ((kS4 Kk y3) + 6) rfl rfl rfl (kinc (kup hkb9) (by decide) (by decide) (by decide)) <| AS rfl rfl <| ND <| gw_sub (Sub.cons (i := 0) rfl (Sub.cons (i := 1) rfl (Sub.cons (i := 5) rfl (Sub.nil _)))) <| SQ <| SQ <| RG <| MV rfl rfl <| MV rfl rfl <| rw_indexAddr (i) rfl tyE_S_impl_Stream rfl rfl rfl (hA.some hi2) hi2 <| FX rfl tyF_impl_Stream_2 rfl <| FX rfl tyF_impl_Credit_2 rfl <| rw_loadX _ rfl tyP_int rfl (fun w hs => hq5.ld2 hs rfl) <| ?_
      refine MV rfl rfl <| NS rfl rfl rfl <| ND <| CF rfl rfl <| SK <| SQ <| RG <| MV rfl rfl <| rw_addK ((kS4 Kk y3) + 7) rfl rfl rfl (kinc (kup hkb9) (by decide) (by decide) (by decide)) <| AS rfl rfl <| ND <| gw_sub (Sub.cons (i := 0) rfl (Sub.cons (i := 1) rfl (Sub.cons (i := 5) rfl (Sub.nil _)))) <| SQ <| SQ <| RG <| MV rfl rfl <| MV rfl rfl <| rw_indexAddr (i) rfl tyE_S_impl_Stream rfl rfl rfl (hA.some hi2) hi2 <| FX rfl tyF_impl_Stream_2 rfl <| FX rfl tyF_impl_Credit_3 rfl <| rw_loadX _ rfl tyP_int rfl (fun w hs => hq5.ld2 hs rfl) <| ?_
      refine MV rfl rfl <| NS rfl rfl rfl <| ND <| CF rfl rfl <| SK <| SQ <| RG <| MV rfl rfl <| rw_addK ((kS4 Kk y3) + 8) rfl rfl rfl (kinc (kup hkb9) (by decide) (by decide) (by decide)) <| AS rfl rfl <| ND <| gw_sub (Sub.cons (i := 0) rfl (Sub.cons (i := 1) rfl (Sub.cons (i := 5) rfl (Sub.nil _)))) <| SQ <| SQ <| RG <| MV rfl rfl <| MV rfl rfl <| rw_indexAddr (i) rfl tyE_S_impl_Stream rfl rfl rfl (hA.some hi2) hi2 <| FX rfl tyF_impl_Stream_3 rfl <| FX rfl tyF_impl_Receiver_0 rfl <| rw_loadX _ rfl tyP_int rfl (fun w hs => hq5.ld2 hs rfl) <| ?_
      refine MV rfl rfl <| NS rfl rfl rfl <| ND <| CF rfl rfl <| SK <| SQ <| RG <| MV rfl rfl <| rw_addK ((kS4 Kk y3) + 9) rfl rfl rfl (kinc (kup hkb9) (by decide) (by decide) (by decide)) <| AS rfl rfl <| ND <| gw_sub (Sub.cons (i := 0) rfl (Sub.cons (i := 1) rfl (Sub.cons (i := 5) rfl (Sub.nil _)))) <| SQ <| SQ <| RG <| MV rfl rfl <| MV rfl rfl <| rw_indexAddr (i) rfl tyE_S_impl_Stream rfl rfl rfl (hA.some hi2) hi2 <| FX rfl tyF_impl_Stream_3 rfl <| FX rfl tyF_impl_Receiver_1 rfl <| FX rfl tyF_impl_Buffer_0 rfl <| ?_
      refine rw_loadX _ rfl tyP_int rfl (fun w hs => hq5.ld3 hs rfl) <| MV rfl rfl <| NS rfl rfl rfl <| ND <| CF rfl rfl <| SK <| SQ <| RG <| MV rfl rfl <| rw_addK ((kS4 Kk y3) + 10) rfl rfl rfl (kinc (kup hkb9) (by decide) (by decide) (by decide)) <| AS rfl rfl <| ND <| gw_sub (Sub.cons (i := 0) rfl (Sub.cons (i := 1) rfl (Sub.cons (i := 5) rfl (Sub.nil _)))) <| SQ <| RG <| MV rfl rfl <| MV rfl rfl <| rw_indexAddr (i) rfl tyE_S_impl_Stream rfl rfl rfl (hA.some hi2) hi2 <| FX rfl tyF_impl_Stream_3 rfl <| FX rfl tyF_impl_Receiver_1 rfl <| ?_
      refine FX rfl tyF_impl_Buffer_1 rfl <| rw_loadX _ rfl tyP_S_impl_Chunk rfl (fun w hs => hq5.ld3 hs rfl) <| MV rfl rfl <| CV1 rfl fun_laws_heldChunkS rfl (fun w hs => laws_heldChunkS (k := ((kS4 Kk y3) + 10)) (l := y3.recv.buffer.chunks) (hAe5_4.s Pl.keeps hs) hby4_4 (ktoc hkb9 (by decide) (by decide) (by decide))) <| ?_
      have hkb10 : 0 ≤ (kS5 Kk y3) ∧ (kS5 Kk y3) ≤ 1135795556581391 := by
        have hkt := kS_bd hle_y4 Kk
        omega
      refine AS rfl rfl <| ND <| SQ <| SQ <| RG <| MV rfl rfl <| rw_lss rfl rfl rfl <| ND <| gw_sub (Sub.cons (i := 0) rfl (Sub.cons (i := 1) rfl (Sub.cons (i := 5) rfl (Sub.cons (i := 216) rfl (Sub.nil _))))) <| CF rfl (knn (kup hkb10)) <| SK <| SQ <| SQ <| RG <| MV rfl rfl <| MV rfl rfl <| rw_indexAddr (i) rfl tyE_S_impl_Stream rfl rfl rfl (hA.some hi2) hi2 <| FX rfl tyF_impl_Stream_3 rfl <| FX rfl tyF_impl_Receiver_2 rfl <| rw_loadX _ rfl tyP_int rfl (fun w hs => hq5.ld2 hs rfl) <| MV rfl rfl <| NS rfl rfl rfl <| ?_
      refine ND <| CF rfl rfl <| SK <| SQ <| RG <| MV rfl rfl <| rw_addK ((kS5 Kk y3) + 1) rfl rfl rfl (kinc0 (kup hkb10)) <| AS rfl rfl <| ND <| gw_sub (Sub.cons (i := 0) rfl (Sub.cons (i := 1) rfl (Sub.cons (i := 5) rfl (Sub.nil _)))) <| SQ <| SQ <| RG <| MV rfl rfl <| MV rfl rfl <| rw_indexAddr (i) rfl tyE_S_impl_Stream rfl rfl rfl (hA.some hi2) hi2 <| FX rfl tyF_impl_Stream_3 rfl <| FX rfl tyF_impl_Receiver_3 rfl <| rw_loadX _ rfl tyP_int rfl (fun w hs => hq5.ld2 hs rfl) <| MV rfl rfl <| NS rfl rfl rfl <| ?_
      refine ND <| CF rfl rfl <| SK <| SQ <| RG <| MV rfl rfl <| rw_addK ((kS5 Kk y3) + 2) rfl rfl rfl (kinc (kup hkb10) (by decide) (by decide) (by decide)) <| AS rfl rfl <| ND <| gw_sub (Sub.cons (i := 0) rfl (Sub.cons (i := 1) rfl (Sub.cons (i := 5) rfl (Sub.nil _)))) <| SQ <| SQ <| RG <| MV rfl rfl <| MV rfl rfl <| rw_indexAddr (i) rfl tyE_S_impl_Stream rfl rfl rfl (hA.some hi2) hi2 <| FX rfl tyF_impl_Stream_3 rfl <| FX rfl tyF_impl_Receiver_4 rfl <| rw_loadX _ rfl tyP_int rfl (fun w hs => hq5.ld2 hs rfl) <| MV rfl rfl <| ?_
      refine NS rfl rfl rfl <| ND <| CF rfl rfl <| SK <| SQ <| RG <| MV rfl rfl <| rw_addK ((kS5 Kk y3) + 3) rfl rfl rfl (kinc (kup hkb10) (by decide) (by decide) (by decide)) <| AS rfl rfl <| ND <| gw_sub (Sub.cons (i := 0) rfl (Sub.cons (i := 1) rfl (Sub.cons (i := 5) rfl (Sub.nil _)))) <| SQ <| SQ <| RG <| MV rfl rfl <| MV rfl rfl <| rw_indexAddr (i) rfl tyE_S_impl_Stream rfl rfl rfl (hA.some hi2) hi2 <| FX rfl tyF_impl_Stream_4 rfl <| FX rfl tyF_impl_Window_0 rfl <| rw_loadX _ rfl tyP_int rfl (fun w hs => hq5.ld2 hs rfl) <| ?_
      refine MV rfl rfl <| NS rfl rfl rfl <| ND <| CF rfl rfl <| SK <| SQ <| RG <| MV rfl rfl <| rw_addK ((kS5 Kk y3) + 4) rfl rfl rfl (kinc (kup hkb10) (by decide) (by decide) (by decide)) <| AS rfl rfl <| ND <| gw_sub (Sub.cons (i := 0) rfl (Sub.cons (i := 1) rfl (Sub.cons (i := 5) rfl (Sub.nil _)))) <| SQ <| SQ <| RG <| MV rfl rfl <| MV rfl rfl <| rw_indexAddr (i) rfl tyE_S_impl_Stream rfl rfl rfl (hA.some hi2) hi2 <| FX rfl tyF_impl_Stream_4 rfl <| FX rfl tyF_impl_Window_1 rfl <| rw_loadX _ rfl tyP_int rfl (fun w hs => hq5.ld2 hs rfl) <| ?_
      refine MV rfl rfl <| NS rfl rfl rfl <| ND <| CF rfl rfl <| SK <| SQ <| RG <| MV rfl rfl <| rw_addK ((kS5 Kk y3) + 5) rfl rfl rfl (kinc (kup hkb10) (by decide) (by decide) (by decide)) <| AS rfl rfl <| ND <| gw_sub (Sub.cons (i := 0) rfl (Sub.cons (i := 1) rfl (Sub.cons (i := 5) rfl (Sub.nil _)))) <| SQ <| SQ <| RG <| MV rfl rfl <| MV rfl rfl <| rw_indexAddr (i) rfl tyE_S_impl_Stream rfl rfl rfl (hA.some hi2) hi2 <| FX rfl tyF_impl_Stream_4 rfl <| FX rfl tyF_impl_Window_2 rfl <| rw_loadX _ rfl tyP_int rfl (fun w hs => hq5.ld2 hs rfl) <| ?_
      refine MV rfl rfl <| NS rfl rfl rfl <| ND <| CF rfl rfl <| SK <| SQ <| RG <| MV rfl rfl <| rw_addK ((kS5 Kk y3) + 6) rfl rfl rfl (kinc (kup hkb10) (by decide) (by decide) (by decide)) <| AS rfl rfl <| ND <| gw_sub (Sub.cons (i := 0) rfl (Sub.cons (i := 1) rfl (Sub.cons (i := 5) rfl (Sub.nil _)))) <| SQ <| SQ <| RG <| MV rfl rfl <| MV rfl rfl <| rw_indexAddr (i) rfl tyE_S_impl_Stream rfl rfl rfl (hA.some hi2) hi2 <| FX rfl tyF_impl_Stream_4 rfl <| FX rfl tyF_impl_Window_3 rfl <| rw_loadX _ rfl tyP_int rfl (fun w hs => hq5.ld2 hs rfl) <| ?_
      refine MV rfl rfl <| NS rfl rfl rfl <| ND <| CF rfl rfl <| SK <| SQ <| RG <| MV rfl rfl <| rw_addK ((kS5 Kk y3) + 7) rfl rfl rfl (kinc (kup hkb10) (by decide) (by decide) (by decide)) <| AS rfl rfl <| ND <| gw_sub (Sub.cons (i := 0) rfl (Sub.cons (i := 1) rfl (Sub.cons (i := 5) rfl (Sub.nil _)))) <| SQ <| SQ <| RG <| MV rfl rfl <| MV rfl rfl <| rw_indexAddr (i) rfl tyE_S_impl_Stream rfl rfl rfl (hA.some hi2) hi2 <| FX rfl tyF_impl_Stream_4 rfl <| FX rfl tyF_impl_Window_4 rfl <| rw_loadX _ rfl tyP_int rfl (fun w hs => hq5.ld2 hs rfl) <| ?_
      refine MV rfl rfl <| NS rfl rfl rfl <| ND <| CF rfl rfl <| SK <| SQ <| RG <| MV rfl rfl <| rw_addK ((kS5 Kk y3) + 8) rfl rfl rfl (kinc (kup hkb10) (by decide) (by decide) (by decide)) <| AS rfl rfl <| ND <| gw_sub (Sub.cons (i := 0) rfl (Sub.cons (i := 1) rfl (Sub.cons (i := 5) rfl (Sub.nil _)))) <| SQ <| SQ <| RG <| MV rfl rfl <| MV rfl rfl <| rw_indexAddr (i) rfl tyE_S_impl_Stream rfl rfl rfl (hA.some hi2) hi2 <| FX rfl tyF_impl_Stream_4 rfl <| FX rfl tyF_impl_Window_5 rfl <| rw_loadX _ rfl tyP_int rfl (fun w hs => hq5.ld2 hs rfl) <| ?_
      refine MV rfl rfl <| NS rfl rfl rfl <| ND <| CF rfl rfl <| SK <| SQ <| RG <| MV rfl rfl <| rw_addK ((kS5 Kk y3) + 9) rfl rfl rfl (kinc (kup hkb10) (by decide) (by decide) (by decide)) <| AS rfl rfl <| ND <| gw_sub (Sub.cons (i := 0) rfl (Sub.cons (i := 1) rfl (Sub.cons (i := 5) rfl (Sub.nil _)))) <| SQ <| SQ <| RG <| MV rfl rfl <| MV rfl rfl <| rw_indexAddr (i) rfl tyE_S_impl_Stream rfl rfl rfl (hA.some hi2) hi2 <| FX rfl tyF_impl_Stream_5 rfl <| FX rfl tyF_impl_Priority_0 rfl <| rw_loadX _ rfl tyP_int rfl (fun w hs => hq5.ld2 hs rfl) <| ?_
      refine MV rfl rfl <| NS rfl rfl rfl <| ND <| CF rfl rfl <| SK <| SQ <| RG <| MV rfl rfl <| rw_addK ((kS5 Kk y3) + 10) rfl rfl rfl (kinc (kup hkb10) (by decide) (by decide) (by decide)) <| AS rfl rfl <| ND <| gw_sub (Sub.cons (i := 0) rfl (Sub.cons (i := 1) rfl (Sub.cons (i := 5) rfl (Sub.nil _)))) <| SQ <| SQ <| RG <| MV rfl rfl <| MV rfl rfl <| rw_indexAddr (i) rfl tyE_S_impl_Stream rfl rfl rfl (hA.some hi2) hi2 <| FX rfl tyF_impl_Stream_5 rfl <| FX rfl tyF_impl_Priority_1 rfl <| rw_loadX _ rfl tyP_bool rfl (fun w hs => hq5.ld2 hs rfl) <| ?_
      refine MV rfl rfl <| rw_rem rfl rfl rfl (by decide) <| EQ1 rfl rfl rfl <| rw_neqSelfB (by kernel_rfl) rfl rfl rfl <| ND <| CF rfl rfl <| SK <| SQ <| RG <| MV rfl rfl <| rw_addK ((kS5 Kk y3) + 11) rfl rfl rfl (kinc (kup hkb10) (by decide) (by decide) (by decide)) <| AS rfl rfl <| ND <| gw_sub (Sub.cons (i := 0) rfl (Sub.cons (i := 1) rfl (Sub.cons (i := 5) rfl (Sub.nil _)))) <| SQ <| SQ <| RG <| MV rfl rfl <| MV rfl rfl <| rw_indexAddr (i) rfl tyE_S_impl_Stream rfl rfl rfl (hA.some hi2) hi2 <| FX rfl tyF_impl_Stream_6 rfl <| ?_
      refine rw_loadX _ rfl tyP_bool rfl (fun w hs => hq5.ld hs rfl) <| MV rfl rfl <| rw_rem rfl rfl rfl (by decide) <| EQ1 rfl rfl rfl <| rw_neqSelfB (by kernel_rfl) rfl rfl rfl <| ND <| CF rfl rfl <| SK <| SQ <| RG <| MV rfl rfl <| rw_addK ((kS5 Kk y3) + 12) rfl rfl rfl (kinc (kup hkb10) (by decide) (by decide) (by decide)) <| AS rfl rfl <| ND <| gw_sub (Sub.cons (i := 0) rfl (Sub.cons (i := 1) rfl (Sub.cons (i := 5) rfl (Sub.nil _)))) <| SQ <| SQ <| RG <| MV rfl rfl <| MV rfl rfl <| rw_indexAddr (i) rfl tyE_S_impl_Stream rfl rfl rfl (hA.some hi2) hi2 <| ?_
      refine FX rfl tyF_impl_Stream_7 rfl <| rw_loadX _ rfl tyP_bool rfl (fun w hs => hq5.ld hs rfl) <| MV rfl rfl <| rw_rem rfl rfl rfl (by decide) <| EQ1 rfl rfl rfl <| rw_neqSelfB (by kernel_rfl) rfl rfl rfl <| ND <| CF rfl rfl <| SK <| SQ <| RG <| MV rfl rfl <| rw_addK ((kS5 Kk y3) + 13) rfl rfl rfl (kinc (kup hkb10) (by decide) (by decide) (by decide)) <| AS rfl rfl <| ND <| gw_sub (Sub.cons (i := 0) rfl (Sub.cons (i := 1) rfl (Sub.cons (i := 5) rfl (Sub.nil _)))) <| SQ <| SQ <| RG <| MV rfl rfl <| MV rfl rfl <| ?_
      refine rw_indexAddr (i) rfl tyE_S_impl_Stream rfl rfl rfl (hA.some hi2) hi2 <| FX rfl tyF_impl_Stream_8 rfl <| rw_loadX _ rfl tyP_bool rfl (fun w hs => hq5.ld hs rfl) <| MV rfl rfl <| rw_rem rfl rfl rfl (by decide) <| EQ1 rfl rfl rfl <| rw_neqSelfB (by kernel_rfl) rfl rfl rfl <| ND <| CF rfl rfl <| SK <| SQ <| RG <| MV rfl rfl <| rw_addK ((kS5 Kk y3) + 14) rfl rfl rfl (kinc (kup hkb10) (by decide) (by decide) (by decide)) <| AS rfl rfl <| ND <| gw_sub (Sub.cons (i := 0) rfl (Sub.cons (i := 1) rfl (Sub.cons (i := 5) rfl (Sub.nil _)))) <| ?_
      refine SQ <| SQ <| RG <| MV rfl rfl <| MV rfl rfl <| rw_indexAddr (i) rfl tyE_S_impl_Stream rfl rfl rfl (hA.some hi2) hi2 <| FX rfl tyF_impl_Stream_9 rfl <| rw_loadX _ rfl tyP_bool rfl (fun w hs => hq5.ld hs rfl) <| MV rfl rfl <| rw_rem rfl rfl rfl (by decide) <| EQ1 rfl rfl rfl <| rw_neqSelfB (by kernel_rfl) rfl rfl rfl <| ND <| CF rfl rfl <| SK <| SQ <| RG <| MV rfl rfl <| rw_addK ((kS5 Kk y3) + 15) rfl rfl rfl (kinc (kup hkb10) (by decide) (by decide) (by decide)) <| AS rfl rfl <| ND <| gw_sub (Sub.cons (i := 0) rfl (Sub.cons (i := 1) rfl (Sub.cons (i := 5) rfl (Sub.nil _)))) <| ?_
      refine SQ <| SQ <| RG <| MV rfl rfl <| MV rfl rfl <| rw_indexAddr (i) rfl tyE_S_impl_Stream rfl rfl rfl (hA.some hi2) hi2 <| FX rfl tyF_impl_Stream_10 rfl <| rw_loadX _ rfl tyP_bool rfl (fun w hs => hq5.ld hs rfl) <| MV rfl rfl <| rw_rem rfl rfl rfl (by decide) <| EQ1 rfl rfl rfl <| rw_neqSelfB (by kernel_rfl) rfl rfl rfl <| ND <| CF rfl rfl <| SK <| SQ <| RG <| MV rfl rfl <| rw_addK ((kS5 Kk y3) + 16) rfl rfl rfl (kinc (kup hkb10) (by decide) (by decide) (by decide)) <| AS rfl rfl <| ND <| gw_sub (Sub.cons (i := 0) rfl (Sub.cons (i := 1) rfl (Sub.cons (i := 5) rfl (Sub.nil _)))) <| ?_
      refine SQ <| SQ <| RG <| MV rfl rfl <| MV rfl rfl <| rw_indexAddr (i) rfl tyE_S_impl_Stream rfl rfl rfl (hA.some hi2) hi2 <| FX rfl tyF_impl_Stream_11 rfl <| rw_loadX _ rfl tyP_bool rfl (fun w hs => hq5.ld hs rfl) <| MV rfl rfl <| rw_rem rfl rfl rfl (by decide) <| EQ1 rfl rfl rfl <| rw_neqSelfB (by kernel_rfl) rfl rfl rfl <| ND <| CF rfl rfl <| SK <| SQ <| RG <| MV rfl rfl <| rw_addK ((kS5 Kk y3) + 17) rfl rfl rfl (kinc (kup hkb10) (by decide) (by decide) (by decide)) <| AS rfl rfl <| ND <| gw_sub (Sub.cons (i := 0) rfl (Sub.cons (i := 1) rfl (Sub.cons (i := 5) rfl (Sub.nil _)))) <| ?_
      refine SQ <| SQ <| RG <| MV rfl rfl <| MV rfl rfl <| rw_indexAddr (i) rfl tyE_S_impl_Stream rfl rfl rfl (hA.some hi2) hi2 <| FX rfl tyF_impl_Stream_12 rfl <| rw_loadX _ rfl tyP_int rfl (fun w hs => hq5.ld hs rfl) <| MV rfl rfl <| NS rfl rfl rfl <| ND <| CF rfl rfl <| SK <| SQ <| RG <| MV rfl rfl <| rw_addK ((kS5 Kk y3) + 18) rfl rfl rfl (kinc (kup hkb10) (by decide) (by decide) (by decide)) <| AS rfl rfl <| ND <| SQ <| SQ <| RG <| MV rfl rfl <| MV rfl rfl <| rw_indexAddr (i) rfl tyE_S_impl_Stream rfl rfl rfl (hA.some hi2) hi2 <| ?_
      refine FX rfl tyF_impl_Stream_13 rfl <| rw_loadX _ rfl tyP_bool rfl (fun w hs => hq5.ld hs rfl) <| MV rfl rfl <| rw_rem rfl rfl rfl (by decide) <| EQ1 rfl rfl rfl <| rw_neqSelfB (by kernel_rfl) rfl rfl rfl <| ND <| gw_sub (Sub.cons (i := 0) rfl (Sub.cons (i := 1) rfl (Sub.cons (i := 5) rfl (Sub.cons (i := 412) rfl (Sub.nil _))))) <| CF rfl rfl <| SK <| RG <| MV rfl rfl <| rw_addK ((kS5 Kk y3) + 19) rfl rfl rfl (kinc (kup hkb10) (by decide) (by decide) (by decide)) <| AS rfl rfl <| ND <| IB <| RG <| MV rfl rfl <| ?_
      refine rw_add rfl rfl rfl <| AS rfl rfl <| ND <| ?_
      refine gw_sub (Sub.consE (i := 5) rfl (int_succ (by omega)) (Sub.consE (i := 1) rfl rfl (Sub.cons (i := 0) rfl (Sub.nil _)))) (ih1 (i + 1, kS6 Kk y3) ?_ ?_)
      · exact ⟨by omega, endD_step hy3 hK⟩
      · show l.length - (i + 1) < l.length - i; omega
    · have hn11 := nil_of_dec h1
      refine EX rfl <| SQ <| RG <| MV rfl rfl <| AS rfl rfl <| ND <| ret_cv Try.func23 (res1 Try.func23 rfl (rv_tmp rfl)) <| ?_
      have hil : i = l.length := by have hz := congrArg List.length hn11; rw [List.length_drop, List.length_nil] at hz; omega
      rw [hK, hil, List.take_length]

set_option maxRecDepth 20000 in
theorem laws_heldFrameS {w : World} {v : Value} {l : List Frame'} {k : Int} (hv : RdS w 9 (Pl Frame'.cells) v (mkD mkFrame (nx 9) k l)) (hb : l.length ≤ 1048576) (hk : 0 ≤ k ∧ k ≤ 36028797018963968) : CV Try.prog 161 [v, .int .i64 k] w (.int .i64 (endD (nx 9) k l)) := by
  obtain ⟨A, c, rfl, hA⟩ := hv
  have hlm : (mkD mkFrame (nx 9) k l).length = l.length := mkD_len _ _ _ _
  refine cv_of Try.func161 rfl rfl rfl <| SQ <| RG <| AS rfl rfl <| ND <| SQ <| SQ <| RG <| AS rfl rfl <| ND <| BK <| ?_
  refine gw_loopC (α := Nat × Int) (fun z_ => z_.1 ≤ l.length ∧ z_.2 = endD (nx 9) k (l.take z_.1)) (fun z_ => l.length - z_.1) (fun e z_ => (5, .int .i64 (z_.1 : Int)) :: (1, .int .i64 z_.2) :: e) (0, k) [(0, _)] (Sub.consE rfl rfl (Sub.consE rfl rfl (Sub.cons (i := 0) rfl (Sub.nil _)))) ?_ ?_
  · exact ⟨Nat.zero_le _, rfl⟩
  · rintro ⟨i, Kk⟩ hI1 ih1
    dsimp only at hI1
    dsimp only
    obtain ⟨hle, hK⟩ := hI1
    have hkb : 0 ≤ Kk ∧ Kk ≤ 36028797028401152 := by
      have hkt := endD_le 9 (by decide) (i := i) hb (k := k) (fun x _ k => nx_bd (by decide) x k)
      rw [← hK] at hkt; omega
    refine SQ <| SQ <| RG <| MV rfl rfl <| MV rfl rfl <| rw_len rfl tyE_S_impl_Frame rfl <| rw_lss rfl rfl rfl <| ND <| ?_
    refine gw_cond rfl (fun h1 => ?_) (fun h1 => ?_)
    · have hi2 := lt_of_dec h1
      obtain ⟨x3, hx3⟩ := get_of_lt hi2
      obtain ⟨y3, hy3, rfl⟩ := mkD_get _ _ _ _ _ _ hx3
      rw [← hK] at hx3
      refine SK <| SQ <| BK <| SQ <| SQ <| RG <| MV rfl rfl <| MV rfl rfl <| ?_
      have hq4 := hA.plain hx3
      refine rw_indexAddr (i) rfl tyE_S_impl_Frame rfl rfl rfl (hA.some hi2) hi2 <| FX rfl tyF_impl_Frame_0 rfl <| rw_loadX _ rfl tyP_int rfl (fun w hs => hq4.ld hs rfl) <| MV rfl rfl <| NS rfl rfl rfl <| ND <| gw_sub (Sub.cons (i := 0) rfl (Sub.cons (i := 1) rfl (Sub.cons (i := 5) rfl (Sub.cons (i := 18) rfl (Sub.nil _))))) <| CF rfl rfl <| SK <| SQ <| RG <| MV rfl rfl <| rw_addK (Kk + 1) rfl rfl rfl (kinc0 (kup hkb)) <| AS rfl rfl <| ND <| SQ <| SQ <| RG <| MV rfl rfl <| MV rfl rfl <| rw_indexAddr (i) rfl tyE_S_impl_Frame rfl rfl rfl (hA.some hi2) hi2 <| ?_
      refine FX rfl tyF_impl_Frame_1 rfl <| rw_loadX _ rfl tyP_int rfl (fun w hs => hq4.ld hs rfl) <| MV rfl rfl <| NS rfl rfl rfl <| ND <| CF rfl rfl <| SK <| SQ <| RG <| MV rfl rfl <| rw_addK (Kk + 2) rfl rfl rfl (kinc (kup hkb) (by decide) (by decide) (by decide)) <| AS rfl rfl <| ND <| gw_sub (Sub.cons (i := 0) rfl (Sub.cons (i := 1) rfl (Sub.cons (i := 5) rfl (Sub.nil _)))) <| SQ <| SQ <| RG <| MV rfl rfl <| MV rfl rfl <| rw_indexAddr (i) rfl tyE_S_impl_Frame rfl rfl rfl (hA.some hi2) hi2 <| FX rfl tyF_impl_Frame_2 rfl <| ?_
      refine rw_loadX _ rfl tyP_int rfl (fun w hs => hq4.ld hs rfl) <| MV rfl rfl <| NS rfl rfl rfl <| ND <| CF rfl rfl <| SK <| SQ <| RG <| MV rfl rfl <| rw_addK (Kk + 3) rfl rfl rfl (kinc (kup hkb) (by decide) (by decide) (by decide)) <| AS rfl rfl <| ND <| SQ <| SQ <| gw_draw' [(0, .det), (1, .det), (2, .det), (3, .det), (4, .det), (5, .det), (6, .det)] [7] mixed rfl (free_det (free_det (free_det (free_det (free_det (free_det (free_det free_nil))))))) (ts := [_]) rfl <| DT rfl rfl (fun K hk => MV rfl rfl hk) <| DT rfl rfl (fun K hk => MV rfl rfl hk) <| ?_
      refine DT rfl rfl (fun K hk => rw_indexAddr (i) rfl tyE_S_impl_Frame rfl rfl rfl (hA.some hi2) hi2 hk) <| DT rfl rfl (fun K hk => FX rfl tyF_impl_Frame_3 rfl hk) <| DT rfl rfl (fun K hk => rw_loadX _ rfl tyP_string rfl (fun w hs => hq4.ld hs rfl) hk) <| DT rfl rfl (fun K hk => MV rfl rfl hk) <| DT rfl rfl (fun K hk => CV1 rfl fun_laws_markText rfl (fun w hs => laws_markText (Kk + 3) (kplus hkb (by decide)) w) hk) <| dw_nil <| rw_neqSelfS rfl rfl rfl <| ND <| gw_sub (Sub.cons (i := 0) rfl (Sub.cons (i := 1) rfl (Sub.cons (i := 5) rfl (Sub.cons (i := 46) rfl (Sub.nil _))))) <| ?_
      refine CF rfl rfl <| SK <| SQ <| RG <| MV rfl rfl <| rw_addK (Kk + 4) rfl rfl rfl (kinc (kup hkb) (by decide) (by decide) (by decide)) <| AS rfl rfl <| ND <| SQ <| SQ <| RG <| MV rfl rfl <| MV rfl rfl <| rw_indexAddr (i) rfl tyE_S_impl_Frame rfl rfl rfl (hA.some hi2) hi2 <| FX rfl tyF_impl_Frame_4 rfl <| rw_loadX _ rfl tyP_bool rfl (fun w hs => hq4.ld hs rfl) <| MV rfl rfl <| rw_rem rfl rfl rfl (by decide) <| EQ1 rfl rfl rfl <| rw_neqSelfB (by kernel_rfl) rfl rfl rfl <| ND <| gw_sub (Sub.cons (i := 0) rfl (Sub.cons (i := 1) rfl (Sub.cons (i := 5) rfl (Sub.cons (i := 57) rfl (Sub.nil _))))) <| ?_
      refine CF rfl rfl <| SK <| SQ <| RG <| MV rfl rfl <| rw_addK (Kk + 5) rfl rfl rfl (kinc (kup hkb) (by decide) (by decide) (by decide)) <| AS rfl rfl <| ND <| SQ <| SQ <| RG <| MV rfl rfl <| MV rfl rfl <| rw_indexAddr (i) rfl tyE_S_impl_Frame rfl rfl rfl (hA.some hi2) hi2 <| FX rfl tyF_impl_Frame_5 rfl <| rw_loadX _ rfl tyP_int rfl (fun w hs => hq4.ld hs rfl) <| MV rfl rfl <| NS rfl rfl rfl <| ND <| CF rfl rfl <| SK <| SQ <| RG <| MV rfl rfl <| rw_addK (Kk + 6) rfl rfl rfl (kinc (kup hkb) (by decide) (by decide) (by decide)) <| ?_
      refine AS rfl rfl <| ND <| gw_sub (Sub.cons (i := 0) rfl (Sub.cons (i := 1) rfl (Sub.cons (i := 5) rfl (Sub.nil _)))) <| SQ <| SQ <| RG <| MV rfl rfl <| MV rfl rfl <| rw_indexAddr (i) rfl tyE_S_impl_Frame rfl rfl rfl (hA.some hi2) hi2 <| FX rfl tyF_impl_Frame_6 rfl <| rw_loadX _ rfl tyP_int rfl (fun w hs => hq4.ld hs rfl) <| MV rfl rfl <| NS rfl rfl rfl <| ND <| CF rfl rfl <| SK <| SQ <| RG <| MV rfl rfl <| rw_addK (Kk + 7) rfl rfl rfl (kinc (kup hkb) (by decide) (by decide) (by decide)) <| AS rfl rfl <| ?_
      refine ND <| SQ <| SQ <| RG <| MV rfl rfl <| MV rfl rfl <| rw_indexAddr (i) rfl tyE_S_impl_Frame rfl rfl rfl (hA.some hi2) hi2 <| FX rfl tyF_impl_Frame_7 rfl <| rw_loadX _ rfl tyP_int rfl (fun w hs => hq4.ld hs rfl) <| MV rfl rfl <| NS rfl rfl rfl <| ND <| gw_sub (Sub.cons (i := 0) rfl (Sub.cons (i := 1) rfl (Sub.cons (i := 5) rfl (Sub.cons (i := 84) rfl (Sub.nil _))))) <| CF rfl rfl <| SK <| SQ <| RG <| MV rfl rfl <| rw_addK (Kk + 8) rfl rfl rfl (kinc (kup hkb) (by decide) (by decide) (by decide)) <| AS rfl rfl <| ?_
      refine ND <| SQ <| SQ <| RG <| MV rfl rfl <| MV rfl rfl <| rw_indexAddr (i) rfl tyE_S_impl_Frame rfl rfl rfl (hA.some hi2) hi2 <| FX rfl tyF_impl_Frame_8 rfl <| rw_loadX _ rfl tyP_bool rfl (fun w hs => hq4.ld hs rfl) <| MV rfl rfl <| rw_rem rfl rfl rfl (by decide) <| EQ1 rfl rfl rfl <| rw_neqSelfB (by kernel_rfl) rfl rfl rfl <| ND <| gw_sub (Sub.cons (i := 0) rfl (Sub.cons (i := 1) rfl (Sub.cons (i := 5) rfl (Sub.cons (i := 95) rfl (Sub.nil _))))) <| CF rfl rfl <| SK <| RG <| MV rfl rfl <| rw_addK (Kk + 9) rfl rfl rfl (kinc (kup hkb) (by decide) (by decide) (by decide)) <| ?_
      refine AS rfl rfl <| ND <| IB <| RG <| MV rfl rfl <| rw_add rfl rfl rfl <| AS rfl rfl <| ND <| ?_
      refine gw_sub (Sub.consE (i := 5) rfl (int_succ (by omega)) (Sub.consE (i := 1) rfl rfl (Sub.cons (i := 0) rfl (Sub.nil _)))) (ih1 (i + 1, (nx 9) Kk y3) ?_ ?_)
      · exact ⟨by omega, endD_step hy3 hK⟩
      · show l.length - (i + 1) < l.length - i; omega
    · have hn5 := nil_of_dec h1
      refine EX rfl <| SQ <| RG <| MV rfl rfl <| AS rfl rfl <| ND <| ret_cv Try.func161 (res1 Try.func161 rfl (rv_tmp rfl)) <| ?_
      have hil : i = l.length := by have hz := congrArg List.length hn5; rw [List.length_drop, List.length_nil] at hz; omega
      rw [hK, hil, List.take_length]

set_option maxHeartbeats 4000000 in
set_option maxRecDepth 20000 in
theorem laws_heldPacketS {w : World} {v : Value} {l : List Packet} {k : Int} (hv : RdS w 2 RdPacket v (mkD mkPacket kP k l)) (hb : l.length ≤ 1048576) (hall : ∀ x ∈ l, x.le 1048576) (hk : 0 ≤ k ∧ k ≤ 1125899906842624) : CV Try.prog 99 [v, .int .i64 k] w (.int .i64 (endD kP k l)) := by
  obtain ⟨A, c, rfl, hA⟩ := hv
  have hlm : (mkD mkPacket kP k l).length = l.length := mkD_len _ _ _ _
  refine cv_of Try.func99 rfl rfl rfl <| SQ <| RG <| AS rfl rfl <| ND <| SQ <| SQ <| RG <| AS rfl rfl <| ND <| BK <| ?_
  refine gw_loopC (α := Nat × Int) (fun z_ => z_.1 ≤ l.length ∧ z_.2 = endD kP k (l.take z_.1)) (fun z_ => l.length - z_.1) (fun e z_ => (5, .int .i64 (z_.1 : Int)) :: (1, .int .i64 z_.2) :: e) (0, k) [(0, _)] (Sub.consE rfl rfl (Sub.consE rfl rfl (Sub.cons (i := 0) rfl (Sub.nil _)))) ?_ ?_
  · exact ⟨Nat.zero_le _, rfl⟩
  · rintro ⟨i, Kk⟩ hI1 ih1
    dsimp only at hI1
    dsimp only
    obtain ⟨hle, hK⟩ := hI1
    have hkb : 0 ≤ Kk ∧ Kk ≤ 1135795512541184 := by
      have hkt := endD_le 9437185 (by decide) (i := i) hb (k := k) (fun x hx k => kP_bd (hall x hx) k)
      rw [← hK] at hkt; omega
    refine SQ <| SQ <| RG <| MV rfl rfl <| MV rfl rfl <| rw_len rfl tyE_S_impl_Packet rfl <| rw_lss rfl rfl rfl <| ND <| ?_
    refine gw_cond rfl (fun h1 => ?_) (fun h1 => ?_)
    · have hi2 := lt_of_dec h1
      obtain ⟨x3, hx3⟩ := get_of_lt hi2
      obtain ⟨y3, hy3, rfl⟩ := mkD_get _ _ _ _ _ _ hx3
      rw [← hK] at hx3
      obtain ⟨hby4_0, hby4_1⟩ := hall y3 (List.mem_of_getElem? hy3)
      have hle_y4 : y3.le 1048576 := hall y3 (List.mem_of_getElem? hy3)
      refine SK <| SQ <| BK <| SQ <| SQ <| RG <| MV rfl rfl <| MV rfl rfl <| ?_
      obtain ⟨cse5_, hRe5_, hq5⟩ := hA.get hx3
      obtain ⟨ve5_0, rfl, ke5_0⟩ := hRe5_
      obtain ⟨Ae5_0, ce5_0, rfl, hAe5_0⟩ := ke5_0
      refine rw_indexAddr (i) rfl tyE_S_impl_Packet rfl rfl rfl (hA.some hi2) hi2 <| FX rfl tyF_impl_Packet_0 rfl <| rw_loadX _ rfl tyP_int rfl (fun w hs => hq5.ld hs rfl) <| MV rfl rfl <| NS rfl rfl rfl <| ND <| gw_sub (Sub.cons (i := 0) rfl (Sub.cons (i := 1) rfl (Sub.cons (i := 5) rfl (Sub.cons (i := 18) rfl (Sub.nil _))))) <| CF rfl rfl <| SK <| SQ <| RG <| MV rfl rfl <| rw_addK (Kk + 1) rfl rfl rfl (kinc0 (kup hkb)) <| AS rfl rfl <| ND <| SQ <| RG <| MV rfl rfl <| MV rfl rfl <| rw_indexAddr (i) rfl tyE_S_impl_Packet rfl rfl rfl (hA.some hi2) hi2 <| ?_
      refine FX rfl tyF_impl_Packet_1 rfl <| rw_loadX _ rfl tyP_S_impl_Frame rfl (fun w hs => hq5.ld hs rfl) <| MV rfl rfl <| CV1 rfl fun_laws_heldFrameS rfl (fun w hs => laws_heldFrameS (k := (Kk + 1)) (l := y3.frames) (hAe5_0.s Pl.keeps hs) hby4_0 (ktoc hkb (by decide) (by decide) (by decide))) <| ?_
      have hkb6 : 0 ≤ (kP Kk y3) ∧ (kP Kk y3) ≤ 1135795521978369 := by
        have hkt := kP_bd hle_y4 Kk
        omega
      refine AS rfl rfl <| ND <| gw_sub (Sub.cons (i := 0) rfl (Sub.cons (i := 1) rfl (Sub.cons (i := 5) rfl (Sub.nil _)))) <| SQ <| RG <| MV rfl rfl <| rw_lss rfl rfl rfl <| ND <| CF rfl (knn (kup hkb6)) <| SK <| IB <| RG <| MV rfl rfl <| rw_add rfl rfl rfl <| AS rfl rfl <| ND <| ?_
      refine gw_sub (Sub.consE (i := 5) rfl (int_succ (by omega)) (Sub.consE (i := 1) rfl rfl (Sub.cons (i := 0) rfl (Sub.nil _)))) (ih1 (i + 1, kP Kk y3) ?_ ?_)
      · exact ⟨by omega, endD_step hy3 hK⟩
      · show l.length - (i + 1) < l.length - i; omega
    · have hn7 := nil_of_dec h1
      refine EX rfl <| SQ <| RG <| MV rfl rfl <| AS rfl rfl <| ND <| ret_cv Try.func99 (res1 Try.func99 rfl (rv_tmp rfl)) <| ?_
      have hil : i = l.length := by have hz := congrArg List.length hn7; rw [List.length_drop, List.length_nil] at hz; omega
      rw [hK, hil, List.take_length]

theorem laws_heldConn {w : World} {x : Conn} {v0 v1 : Value} {l0 : List Stream} {l1 : List Packet} {k : Int} (hv0 : RdS w 39 RdStream v0 (mkD mkStream kS6 k l0)) (hv1 : RdS w 2 RdPacket v1 (mkD mkPacket kP (endD kS6 k l0) l1)) (hb0 : l0.length ≤ 1048576) (hall0 : ∀ x ∈ l0, x.le 1048576) (hb1 : l1.length ≤ 1048576) (hall1 : ∀ x ∈ l1, x.le 1048576) (hk : 0 ≤ k ∧ k ≤ 562949953421312) : CV Try.prog 33 [.agg (Conn.row x v0 v1).toArray, .int .i64 k] w (.int .i64 (endD kP (endD kS6 k l0) l1)) := by
  obtain ⟨A0, cc0, rfl, hA0⟩ := hv0
  obtain ⟨A1, cc1, rfl, hA1⟩ := hv1
  refine cv_of Try.func33 rfl rfl rfl <| SQ <| RG <| BX [_, _, _, _, _, _, _, _, _, _, _, _, _, _, _, _, _, _, _, _, _, _, _, _, _, _, _, _, _, _, _, _, _, _, _, _, _, _, _, _, _, _, _, _, _, _, _, _, _, _] rfl rfl rfl <| fun b1 => AS rfl rfl <| ND <| SQ <| RG <| FA rfl tyF_impl_Conn_3 rfl <| LD (i := 0) rfl tyP_S_impl_Stream rfl rfl rfl <| MV rfl rfl <| CV1 rfl fun_laws_heldStreamS rfl (fun w hs => laws_heldStreamS (k := k) (l := l0) (hA0.s RdStream.keeps hs) hb0 hall0 (kto hk (by decide) (by decide) (by decide))) <| ?_
  have hkb1 : 0 ≤ (endD kS6 k l0) ∧ (endD kS6 k l0) ≤ 572845593722880 := by
    have hkt := endD_all (nx := kS6) 9437218 (by decide) hb0 (k := k) (fun x hx k => kS6_bd (hall0 x hx) k)
    omega
  refine AS rfl rfl <| ND <| SQ <| SQ <| RG <| MV rfl rfl <| rw_lss rfl rfl rfl <| ND <| CF rfl (knn (kup hkb1)) <| SK <| SQ <| RG <| FA rfl tyF_impl_Conn_15 rfl <| LD (i := 0) rfl tyP_S_impl_Packet rfl rfl rfl <| MV rfl rfl <| CV1 rfl fun_laws_heldPacketS rfl (fun w hs => laws_heldPacketS (k := (endD kS6 k l0)) (l := l1) (hA1.s RdPacket.keeps hs) hb1 hall1 (kto hkb1 (by decide) (by decide) (by decide))) <| ?_
  have hkb2 : 0 ≤ (endD kP (endD kS6 k l0) l1) ∧ (endD kP (endD kS6 k l0) l1) ≤ 582741199421440 := by
    have hkt := endD_all (nx := kP) 9437185 (by decide) hb1 (k := (endD kS6 k l0)) (fun x hx k => kP_bd (hall1 x hx) k)
    omega
  refine AS rfl rfl <| ND <| SQ <| SQ <| RG <| MV rfl rfl <| rw_lss rfl rfl rfl <| ND <| CF rfl (knn (kup hkb2)) <| SK <| SQ <| RG <| MV rfl rfl <| AS rfl rfl <| ND <| ret_cv Try.func33 (res1 Try.func33 rfl (rv_tmp rfl)) <| ?_
  rfl

theorem impl_FindStream_1 {w : World} {q : Addr} {id : Int} {cs : List Value} {x : Stream} (hv : RdStream w cs x) (hq : At w q [.int .i64 id]) : CV Try.prog 147 [.agg cs.toArray, .pointer (some q)] w (.bool (x.id == id)) := by
  obtain ⟨v0, v1, v2, v3, v4, rfl, k0, k1, k2, k3, k4⟩ := hv
  obtain ⟨A0, c0, rfl, hA0⟩ := k0
  obtain ⟨A1, c1, rfl, hA1⟩ := k1
  obtain ⟨A2, c2, rfl, hA2⟩ := k2
  obtain ⟨A3, c3, rfl, hA3⟩ := k3
  obtain ⟨A4, c4, rfl, hA4⟩ := k4
  refine cv_of Try.func147 rfl rfl rfl <| SQ <| RG <| BX [_, _, _, _, _, _, _, _, _, _, _, _, _, _, _, _, _, _, _, _, _, _, _, _, _, _, _, _, _, _, _, _, _, _, _, _, _, _, _] rfl rfl rfl <| fun b1 => AS rfl rfl <| ND <| SQ <| RG <| FA rfl tyF_impl_Stream_0 rfl <| LD (i := 0) rfl tyP_int rfl rfl rfl <| rw_loadX _ rfl tyP_int rfl (fun w hs => hq.ld0 hs rfl) <| EQ1 rfl rfl rfl <| AS rfl rfl <| ND <| ret_cv Try.func147 (res1 Try.func147 rfl (rv_tmp rfl)) <| ?_
  rfl

theorem slices_IndexFunc_Stream {w : World} {v : Value} {l : List Stream} (hv : RdS w 39 RdStream v l) (hb : l.length ≤ 1048576) {q : Addr} {id : Int} (hq : At w q [.int .i64 id]) : CV Try.prog 72 [v, .func (.func 147) #[] #[.pointer (some q)]] w (.int .i64 (findStream l id)) := by
  obtain ⟨A, c, rfl, hA⟩ := hv
  refine cv_of Try.func72 rfl rfl rfl <| SQ <| RG <| AS rfl rfl <| ND <| SQ <| SQ <| RG <| MV rfl rfl <| rw_len rfl tyE_S_impl_Stream rfl <| MV rfl rfl <| ND <| BK <| ?_
  refine gw_loopC (α := Nat) (fun z_ => z_ ≤ l.length ∧ findStream l id = findFrom id z_ (l.drop z_)) (fun z_ => l.length - z_) (fun e z_ => (8, .int .i64 (z_ : Int)) :: e) 0 [(0, _), (1, _), (7, _)] (Sub.consE rfl rfl (Sub.cons (i := 0) rfl (Sub.cons (i := 1) rfl (Sub.cons (i := 7) rfl (Sub.nil _))))) ?_ ?_
  · exact ⟨Nat.zero_le _, rfl⟩
  · rintro i hI1 ih1
    try dsimp only
    obtain ⟨hle, hI⟩ := hI1
    refine SQ <| RG <| rw_lss rfl rfl rfl <| ND <| SQ <| ?_
    refine gw_cond rfl (fun h1 => ?_) (fun h1 => ?_)
    · have hi2 := lt_of_dec h1
      obtain ⟨x3, hx3⟩ := get_of_lt hi2
      have hd3 := drop_cons hx3
      refine SK <| SQ <| BK <| SQ <| RG <| MV rfl rfl <| AS rfl rfl <| ND <| SQ <| RG <| MV rfl rfl <| MV rfl rfl <| MV rfl rfl <| ?_
      obtain ⟨cse4_, hRe4_, hq4⟩ := hA.get hx3
      obtain ⟨ve4_0, ve4_1, ve4_2, ve4_3, ve4_4, rfl, ke4_0, ke4_1, ke4_2, ke4_3, ke4_4⟩ := hRe4_
      obtain ⟨Ae4_0, ce4_0, rfl, hAe4_0⟩ := ke4_0
      obtain ⟨Ae4_1, ce4_1, rfl, hAe4_1⟩ := ke4_1
      obtain ⟨Ae4_2, ce4_2, rfl, hAe4_2⟩ := ke4_2
      obtain ⟨Ae4_3, ce4_3, rfl, hAe4_3⟩ := ke4_3
      obtain ⟨Ae4_4, ce4_4, rfl, hAe4_4⟩ := ke4_4
      refine rw_indexAddr (i) rfl tyE_S_impl_Stream rfl rfl rfl (hA.some hi2) hi2 <| rw_loadX_s [_, _, _, _, _, _, _, _, _, _, _, _, _, _, _, _, _, _, _, _, _, _, _, _, _, _, _, _, _, _, _, _, _, _, _, _, _, _, _] rfl tyS_impl_Stream rfl rfl (fun w hs => hq4.lds0 (n := 39) hs rfl) <| rw_cvF rfl rfl fun_impl_FindStream_1 rfl (fun w hs => impl_FindStream_1 ⟨_, _, _, _, _, rfl, (hAe4_0.s Pl.keeps hs), (hAe4_1.s Pl.keeps hs), (hAe4_2.s Pl.keeps hs), (hAe4_3.s Pl.keeps hs), (hAe4_4.s Pl.keeps hs)⟩ (hq.sat hs)) <| ND <| ?_
      refine gw_cond rfl (fun h2 => ?_) (fun h2 => ?_)
      · refine SQ <| RG <| MV rfl rfl <| AS rfl rfl <| ND <| ret_cv Try.func72 (res1 Try.func72 rfl (rv_tmp rfl)) <| ?_
        rw [hI, hd3]; simp [findFrom, h2]
      · refine SK <| IB <| RG <| rw_add rfl rfl rfl <| MV rfl rfl <| ND <| ?_
        refine gw_sub (Sub.consE (i := 8) rfl (int_succ (by omega)) (Sub.cons (i := 0) rfl (Sub.cons (i := 1) rfl (Sub.cons (i := 7) rfl (Sub.nil _))))) (ih1 (i + 1) ?_ ?_)
        · exact ⟨by omega, by rw [hI, hd3]; simp [findFrom, h2]⟩
        · show l.length - (i + 1) < l.length - i; omega
    · have hn5 := nil_of_dec h1
      refine EX rfl <| SQ <| RG <| AS rfl rfl <| ND <| ret_cv Try.func72 (res1 Try.func72 rfl (rv_tmp rfl)) <| ?_
      rw [hI, hn5]; rfl

theorem impl_FindStream {w : World} {v : Value} {l : List Stream} (hv : RdS w 39 RdStream v l) (hb : l.length ≤ 1048576) (id : Int) : CV Try.prog 70 [v, .int .i64 id] w (.int .i64 (findStream l id)) := by
  obtain ⟨A, c, rfl, hA⟩ := hv
  refine cv_of Try.func70 rfl rfl rfl <| SQ <| RG <| BX [_] rfl rfl rfl <| fun b1 => AS rfl rfl <| ND <| SQ <| RG <| MV rfl rfl <| rw_makeFunc rfl rfl <| CV1 rfl fun_slices_IndexFunc_S_impl_Stream_impl_Stream rfl (fun w hs => slices_IndexFunc_Stream (hA.s RdStream.keeps hs) hb (Ck.In.at0 (c := ⟨b1, _, [_]⟩) (hs.at_ _ (List.mem_append_left _ (List.mem_of_getElem? (i := 0) rfl))))) <| AS rfl rfl <| ND <| ret_cv Try.func70 (res1 Try.func70 rfl (rv_tmp rfl)) <| ?_
  rfl

theorem impl_copyRing {w : World} {cs : List Value} {x : Ring} (hv : RdRing w cs x) (hb : x.le 1048576) : CN Try.prog 163 [.agg cs.toArray] w (OwV OwRing x) := by
  obtain ⟨v0, rfl, k0⟩ := hv
  obtain ⟨A0, c0, rfl, hA0⟩ := k0
  have hb0 : x.cells.length ≤ 1048576 := hb
  refine cn_of Try.func163 rfl rfl rfl <| SQ <| RG <| BX [_, _, _, _] rfl rfl rfl <| fun b1 => AL rfl tyZ_impl_Ring <| fun b2 => ND <| SQ <| RG <| rw_slice0 rfl tyM_S_int (PlO intC) <| fun v1 how1 => FA rfl tyF_impl_Ring_3 rfl <| LD (i := 1) rfl tyP_S_int rfl rfl rfl <| rw_appendP rfl tyM_S_int eInt (fun _ => rfl) rfl rfl how1 (fun w hs => hA0.sat Pl.keeps hs) (.refl _) (by first | omega | (simp; omega)) <| fun v2 ch2 how2 => ?_
  obtain ⟨R3, rc3, rfl, hR3, hrd3⟩ := (OwA.s (l := x.cells) how2).shape eInt
  refine FA rfl tyF_impl_Ring_3 rfl <| ST (i := 1) [_] [_, _, _, _] tyP_S_int.sz rfl rfl rfl rfl rfl rfl rfl rfl <| ND <| SQ <| RG <| LS (i := 1) [_, _, _, _] rfl tyS_impl_Ring rfl rfl rfl rfl <| ST (i := 0) [_, _, _, _] [_, _, _, _] tyS_impl_Ring.sz rfl rfl rfl rfl rfl rfl rfl rfl <| ND <| ?_
  refine ret_cnP (ch := ch2) (G := ch2 ++ ([])) (F' := []) Try.func163 (res1 Try.func163 rfl (rv_s (i := 0) [_, _, _, _] tyS_impl_Ring rfl rfl rfl rfl)) ?_ ?_ ?_
  · exact ⟨_, rfl, _, _, rfl, (OwA.s (l := x.cells) how2), rfl⟩
  · exact ((List.Perm.refl _).trans ((List.Perm.refl _).append_left _))
  · simp only []

theorem impl_copyRanges {w : World} {v : Value} {l : List Range} (hv : RdS w 2 (Pl Range.cells) v l) (hb : l.length ≤ 4194304) : CN Try.prog 164 [v] w (fun v ch => OwA 156 2 (PlO Range.cells) v l ch) := by
  obtain ⟨A, c, rfl, hA⟩ := hv
  refine cn_of Try.func164 rfl rfl rfl <| SQ <| RG <| AS rfl rfl <| ND <| SQ <| RG <| rw_slice0 rfl tyM_S_impl_Range (PlO Range.cells) <| fun v1 how1 => MV rfl rfl <| rw_appendP rfl tyM_S_impl_Range eRange (fun _ => rfl) rfl rfl how1 (fun w hs => hA.sat Pl.keeps hs) (.refl _) (by first | omega | (simp; omega)) <| fun v2 ch2 how2 => AS rfl rfl <| ND <| ?_
  refine ret_cn ch2 Try.func164 (res1 Try.func164 rfl (rv_tmp rfl)) ?_ ?_
  · exact how2
  · simp

set_option maxHeartbeats 4000000 in
theorem impl_copySender {w : World} {cs : List Value} {x : Sender} (hv : RdSender w cs x) (hb : x.le 1048576) : CN Try.prog 101 [.agg cs.toArray] w (OwV OwSender x) := by
  obtain ⟨v0, v1, v2, v3, rfl, k0, k1, k2, k3⟩ := hv
  obtain ⟨A0, c0, rfl, hA0⟩ := k0
  obtain ⟨A1, c1, rfl, hA1⟩ := k1
  obtain ⟨A2, c2, rfl, hA2⟩ := k2
  obtain ⟨A3, c3, rfl, hA3⟩ := k3
  obtain ⟨hb0, hb1, hb2, hb3⟩ := hb
  refine cn_of Try.func101 rfl rfl rfl <| SQ <| RG <| BX [_, _, _, _, _, _, _, _, _, _, _, _] rfl rfl rfl <| fun b1 => AL rfl tyZ_impl_Sender <| fun b2 => ND <| SQ <| RG <| FA rfl tyF_impl_Sender_1 rfl <| LS (i := 1) [_, _, _, _] rfl tyS_impl_Ring rfl rfl rfl rfl <| CN1 rfl fun_impl_copyRing rfl (fun w hs => impl_copyRing ⟨_, rfl, (hA0.s Pl.keeps hs)⟩ (show _ ≤ _ from hb0)) <| fun vv1 ch1 how1 => ?_
  obtain ⟨cs1, rfl, v1_0, c1_0, rfl, h1_0, rfl⟩ := how1
  obtain ⟨R1_0, b1_0, rfl, hR1_0, hrd1_0⟩ := h1_0.shape eInt
  refine FA rfl tyF_impl_Sender_1 rfl <| rw_storeN (i := 1) [_, _, _, _] [_, _, _, _, _, _, _, _, _, _, _, _] [_, _] tyS_impl_Ring.sz rfl rfl rfl rfl rfl rfl rfl rfl rfl <| ND <| SQ <| gw_draw' [(0, .det), (1, .det), (3, .det), (4, .det), (6, .det), (7, .det), (2, .add), (9, .det), (5, .add), (8, .add)] [10, 11, 12, 13, 14] mixed rfl (free_det (free_det (free_det (free_det (free_det (free_det (free_add (free_det (free_add (free_add free_nil)))))))))) (ts := [_, _, _, _, _]) rfl <| DT rfl rfl (fun K hk => FA rfl tyF_impl_Sender_2 rfl hk) <| DT rfl rfl (fun K hk => LD (i := 1) rfl tyP_S_impl_Range rfl rfl rfl hk) <| ?_
  refine DT rfl rfl (fun K hk => FA rfl tyF_impl_Sender_3 rfl hk) <| DT rfl rfl (fun K hk => LD (i := 1) rfl tyP_S_impl_Range rfl rfl rfl hk) <| DT rfl rfl (fun K hk => FA rfl tyF_impl_Sender_4 rfl hk) <| DT rfl rfl (fun K hk => LD (i := 1) rfl tyP_S_impl_Range rfl rfl rfl hk) <| DA rfl rfl (fun K hk => CN1 rfl fun_impl_copyRanges rfl (fun w hs => impl_copyRanges (hA1.s Pl.keeps hs) (by omega)) hk) <| fun v2 ch2 how2 => ?_
  obtain ⟨R3, rc3, rfl, hR3, hrd3⟩ := (OwA.s (l := x.pending) how2).shape eRange
  refine DT rfl rfl (fun K hk => FA rfl tyF_impl_Sender_2 rfl hk) <| DA rfl rfl (fun K hk => CN1 rfl fun_impl_copyRanges rfl (fun w hs => impl_copyRanges (hA2.s Pl.keeps hs) (by omega)) hk) <| fun v4 ch4 how4 => ?_
  obtain ⟨R5, rc5, rfl, hR5, hrd5⟩ := (OwA.s (l := x.flight) how4).shape eRange
  refine DA rfl rfl (fun K hk => CN1 rfl fun_impl_copyRanges rfl (fun w hs => impl_copyRanges (hA3.s Pl.keeps hs) (by omega)) hk) <| fun v6 ch6 how6 => ?_
  obtain ⟨R7, rc7, rfl, hR7, hrd7⟩ := (OwA.s (l := x.acked) how6).shape eRange
  refine dw_nil <| rw_storeN (i := 1) [_] [_, _, _, _, _, _, _, _, _, _, _, _] [_, _] tyP_S_impl_Range.sz rfl rfl rfl rfl rfl rfl rfl rfl rfl <| FA rfl tyF_impl_Sender_3 rfl <| rw_storeN (i := 1) [_] [_, _, _, _, _, _, _, _, _, _, _, _] [_, _] tyP_S_impl_Range.sz rfl rfl rfl rfl rfl rfl rfl rfl rfl <| FA rfl tyF_impl_Sender_4 rfl <| rw_storeN (i := 1) [_] [_, _, _, _, _, _, _, _, _, _, _, _] [_, _] tyP_S_impl_Range.sz rfl rfl rfl rfl rfl rfl rfl rfl rfl <| ND <| SQ <| RG <| LS (i := 1) [_, _, _, _, _, _, _, _, _, _, _, _] rfl tyS_impl_Sender rfl rfl rfl rfl <| ?_
  refine rw_storeN (i := 0) [_, _, _, _, _, _, _, _, _, _, _, _] [_, _, _, _, _, _, _, _, _, _, _, _] [_, _] tyS_impl_Sender.sz rfl rfl rfl rfl rfl rfl rfl rfl rfl <| ND <| ?_
  refine ret_cnP (ch := ch1 ++ (ch2 ++ (ch4 ++ (ch6)))) (G := ch1 ++ (ch2 ++ (ch4 ++ (ch6 ++ ([]))))) (F' := []) Try.func101 (res1 Try.func101 rfl (rv_s (i := 0) [_, _, _, _, _, _, _, _, _, _, _, _] tyS_impl_Sender rfl rfl rfl rfl)) ?_ ?_ ?_
  · exact ⟨_, rfl, _, _, _, _, _, _, _, _, rfl, h1_0, (OwA.s (l := x.pending) how2), (OwA.s (l := x.flight) how4), (OwA.s (l := x.acked) how6), rfl⟩
  · exact (((((((((((List.Perm.refl _)).append_left _).trans (pullc _ _ _))).append_left _).trans (pullc _ _ _))).append_left _).trans (pullc _ _ _)).trans (((((((((List.Perm.refl _)).append_left _).trans (pullc _ _ _))).append_left _).trans (pullc _ _ _)).trans ((((((List.Perm.refl _)).append_left _).trans (pullc _ _ _)).trans (((List.Perm.refl _).trans ((List.Perm.refl _).append_left _)).append_left _)).append_left _)).append_left _))
  · simp only [List.append_assoc]

theorem impl_copyBuffer {w : World} {cs : List Value} {x : Buffer} (hv : RdBuffer w cs x) (hb : x.le 1048576) : CN Try.prog 182 [.agg cs.toArray] w (OwV OwBuffer x) := by
  obtain ⟨v0, rfl, k0⟩ := hv
  obtain ⟨A0, c0, rfl, hA0⟩ := k0
  obtain ⟨hb0, hb1⟩ := hb
  refine cn_of Try.func182 rfl rfl rfl <| SQ <| RG <| BX [_, _] rfl rfl rfl <| fun b1 => AL rfl tyZ_impl_Buffer <| fun b2 => ND <| SQ <| gw_draw' [(0, .det), (1, .det), (3, .det), (4, .det), (2, .add), (5, .add)] [6, 7] mixed rfl (free_det (free_det (free_det (free_det (free_add (free_add free_nil)))))) (ts := [_, _]) rfl <| DT rfl rfl (fun K hk => FA rfl tyF_impl_Buffer_0 rfl hk) <| DT rfl rfl (fun K hk => LD (i := 1) rfl tyP_int rfl rfl rfl hk) <| DT rfl rfl (fun K hk => FA rfl tyF_impl_Buffer_1 rfl hk) <| DT rfl rfl (fun K hk => LD (i := 1) rfl tyP_S_impl_Chunk rfl rfl rfl hk) <| ?_
  refine DA rfl rfl (fun K hk => rw_slice0D rfl tyM_S_impl_Chunk (PlO Chunk.cells) hk) <| fun v1 ch1 how1 => ?_
  obtain ⟨how1, rfl⟩ := how1
  refine DA rfl rfl (fun K hk => rw_appendP rfl tyM_S_impl_Chunk eChunk (fun _ => rfl) rfl rfl how1 (fun w hs => hA0.sat Pl.keeps hs) (.refl _) (by first | omega | (simp; omega)) hk) <| fun v2 ch2 how2 => ?_
  obtain ⟨R3, rc3, rfl, hR3, hrd3⟩ := (OwA.s (l := x.chunks) how2).shape eChunk
  refine dw_nil <| rw_build [_, _] rfl tyB_impl_Buffer tyZ_impl_Buffer rfl rfl <| ST (i := 0) [_, _] [_, _] tyS_impl_Buffer.sz rfl rfl rfl rfl rfl rfl rfl rfl <| ND <| ?_
  refine ret_cnP (ch := ch2) (G := ch2 ++ ([])) (F' := []) Try.func182 (res1 Try.func182 rfl (rv_s (i := 0) [_, _] tyS_impl_Buffer rfl rfl rfl rfl)) ?_ ?_ ?_
  · exact ⟨_, rfl, _, _, rfl, (OwA.s (l := x.chunks) how2), rfl⟩
  · exact ((List.Perm.refl _).trans ((List.Perm.refl _).append_left _))
  · simp only []

theorem impl_copyReceiver {w : World} {cs : List Value} {x : Receiver} (hv : RdReceiver w cs x) (hb : x.le 1048576) : CN Try.prog 118 [.agg cs.toArray] w (OwV OwReceiver x) := by
  obtain ⟨v0, rfl, k0⟩ := hv
  obtain ⟨A0, c0, rfl, hA0⟩ := k0
  obtain ⟨hb0, hb1⟩ := hb
  refine cn_of Try.func118 rfl rfl rfl <| SQ <| RG <| BX [_, _, _, _, _, _] rfl rfl rfl <| fun b1 => AL rfl tyZ_impl_Receiver <| fun b2 => ND <| SQ <| RG <| FA rfl tyF_impl_Receiver_1 rfl <| LS (i := 1) [_, _] rfl tyS_impl_Buffer rfl rfl rfl rfl <| CN1 rfl fun_impl_copyBuffer rfl (fun w hs => impl_copyBuffer ⟨_, rfl, (hA0.s Pl.keeps hs)⟩ ⟨hb0, hb1⟩) <| fun vv1 ch1 how1 => ?_
  obtain ⟨cs1, rfl, v1_0, c1_0, rfl, h1_0, rfl⟩ := how1
  obtain ⟨R1_0, b1_0, rfl, hR1_0, hrd1_0⟩ := h1_0.shape eChunk
  refine FA rfl tyF_impl_Receiver_1 rfl <| ST (i := 1) [_, _] [_, _, _, _, _, _] tyS_impl_Buffer.sz rfl rfl rfl rfl rfl rfl rfl rfl <| ND <| SQ <| RG <| LS (i := 1) [_, _, _, _, _, _] rfl tyS_impl_Receiver rfl rfl rfl rfl <| ST (i := 0) [_, _, _, _, _, _] [_, _, _, _, _, _] tyS_impl_Receiver.sz rfl rfl rfl rfl rfl rfl rfl rfl <| ND <| ?_
  refine ret_cnP (ch := ch1) (G := ch1 ++ ([])) (F' := []) Try.func118 (res1 Try.func118 rfl (rv_s (i := 0) [_, _, _, _, _, _] tyS_impl_Receiver rfl rfl rfl rfl)) ?_ ?_ ?_
  · exact ⟨_, rfl, _, _, rfl, h1_0, rfl⟩
  · exact ((List.Perm.refl _).trans ((List.Perm.refl _).append_left _))
  · simp only []

set_option maxHeartbeats 4000000 in
theorem impl_copyStream {w : World} {cs : List Value} {x : Stream} (hv : RdStream w cs x) (hb : x.le 1048576) : CN Try.prog 71 [.agg cs.toArray] w (OwV OwStream x) := by
  obtain ⟨v0, v1, v2, v3, v4, rfl, k0, k1, k2, k3, k4⟩ := hv
  obtain ⟨A0, c0, rfl, hA0⟩ := k0
  obtain ⟨A1, c1, rfl, hA1⟩ := k1
  obtain ⟨A2, c2, rfl, hA2⟩ := k2
  obtain ⟨A3, c3, rfl, hA3⟩ := k3
  obtain ⟨A4, c4, rfl, hA4⟩ := k4
  obtain ⟨hb0, hb1, hb2, hb3, hb4, hb5⟩ := hb
  refine cn_of Try.func71 rfl rfl rfl <| SQ <| RG <| BX [_, _, _, _, _, _, _, _, _, _, _, _, _, _, _, _, _, _, _, _, _, _, _, _, _, _, _, _, _, _, _, _, _, _, _, _, _, _, _] rfl rfl rfl <| fun b1 => AL rfl tyZ_impl_Stream <| fun b2 => ND <| SQ <| gw_draw' [(0, .det), (1, .det), (3, .det), (4, .det), (2, .add), (6, .det), (5, .add)] [7, 8, 9] mixed rfl (free_det (free_det (free_det (free_det (free_add (free_det (free_add free_nil))))))) (ts := [_, _, _]) rfl <| DT rfl rfl (fun K hk => FA rfl tyF_impl_Stream_1 rfl hk) <| DT rfl rfl (fun K hk => LS (i := 1) [_, _, _, _, _, _, _, _, _, _, _, _] rfl tyS_impl_Sender rfl rfl rfl rfl hk) <| ?_
  refine DT rfl rfl (fun K hk => FA rfl tyF_impl_Stream_3 rfl hk) <| DT rfl rfl (fun K hk => LS (i := 1) [_, _, _, _, _, _] rfl tyS_impl_Receiver rfl rfl rfl rfl hk) <| DA rfl rfl (fun K hk => CN1 rfl fun_impl_copySender rfl (fun w hs => impl_copySender ⟨_, _, _, _, rfl, (hA0.s Pl.keeps hs), (hA1.s Pl.keeps hs), (hA2.s Pl.keeps hs), (hA3.s Pl.keeps hs)⟩ ⟨hb0, hb1, hb2, hb3⟩) hk) <| fun vv1 ch1 how1 => ?_
  obtain ⟨cs1, rfl, v1_0, v1_1, v1_2, v1_3, c1_0, c1_1, c1_2, c1_3, rfl, h1_0, h1_1, h1_2, h1_3, rfl⟩ := how1
  refine dw_F (F' := c1_0 ++ (c1_1 ++ (c1_2 ++ (c1_3 ++ ([]))))) (by simp only [List.append_assoc]) <| ?_
  obtain ⟨R1_0, b1_0, rfl, hR1_0, hrd1_0⟩ := h1_0.shape eInt
  obtain ⟨R1_1, b1_1, rfl, hR1_1, hrd1_1⟩ := h1_1.shape eRange
  obtain ⟨R1_2, b1_2, rfl, hR1_2, hrd1_2⟩ := h1_2.shape eRange
  obtain ⟨R1_3, b1_3, rfl, hR1_3, hrd1_3⟩ := h1_3.shape eRange
  refine DT rfl rfl (fun K hk => FA rfl tyF_impl_Stream_1 rfl hk) <| DA rfl rfl (fun K hk => CN1 rfl fun_impl_copyReceiver rfl (fun w hs => impl_copyReceiver ⟨_, rfl, (hA4.s Pl.keeps hs)⟩ ⟨hb4, hb5⟩) hk) <| fun vv2 ch2 how2 => ?_
  obtain ⟨cs2, rfl, v2_0, c2_0, rfl, h2_0, rfl⟩ := how2
  obtain ⟨R2_0, b2_0, rfl, hR2_0, hrd2_0⟩ := h2_0.shape eChunk
  refine dw_nil <| rw_storeN (i := 1) [_, _, _, _, _, _, _, _, _, _, _, _] [_, _, _, _, _, _, _, _, _, _, _, _, _, _, _, _, _, _, _, _, _, _, _, _, _, _, _, _, _, _, _, _, _, _, _, _, _, _, _] [_, _] tyS_impl_Sender.sz rfl rfl rfl rfl rfl rfl rfl rfl rfl <| FA rfl tyF_impl_Stream_3 rfl <| rw_storeN (i := 1) [_, _, _, _, _, _] [_, _, _, _, _, _, _, _, _, _, _, _, _, _, _, _, _, _, _, _, _, _, _, _, _, _, _, _, _, _, _, _, _, _, _, _, _, _, _] [_, _] tyS_impl_Receiver.sz rfl rfl rfl rfl rfl rfl rfl rfl rfl <| ND <| SQ <| RG <| LS (i := 1) [_, _, _, _, _, _, _, _, _, _, _, _, _, _, _, _, _, _, _, _, _, _, _, _, _, _, _, _, _, _, _, _, _, _, _, _, _, _, _] rfl tyS_impl_Stream rfl rfl rfl rfl <| ?_
  refine rw_storeN (i := 0) [_, _, _, _, _, _, _, _, _, _, _, _, _, _, _, _, _, _, _, _, _, _, _, _, _, _, _, _, _, _, _, _, _, _, _, _, _, _, _] [_, _, _, _, _, _, _, _, _, _, _, _, _, _, _, _, _, _, _, _, _, _, _, _, _, _, _, _, _, _, _, _, _, _, _, _, _, _, _] [_, _] tyS_impl_Stream.sz rfl rfl rfl rfl rfl rfl rfl rfl rfl <| ND <| ?_
  refine ret_cnP (ch := c1_0 ++ (c1_1 ++ (c1_2 ++ (c1_3 ++ (ch2))))) (G := c1_0 ++ (c1_1 ++ (c1_2 ++ (c1_3 ++ (ch2 ++ ([])))))) (F' := []) Try.func71 (res1 Try.func71 rfl (rv_s (i := 0) [_, _, _, _, _, _, _, _, _, _, _, _, _, _, _, _, _, _, _, _, _, _, _, _, _, _, _, _, _, _, _, _, _, _, _, _, _, _, _] tyS_impl_Stream rfl rfl rfl rfl)) ?_ ?_ ?_
  · exact ⟨_, rfl, _, _, _, _, _, _, _, _, _, _, rfl, h1_0, h1_1, h1_2, h1_3, h2_0, rfl⟩
  · exact (((((List.Perm.refl _)).append_left _).trans (pullc _ _ _)).trans ((((((List.Perm.refl _)).append_left _).trans (pullc _ _ _)).trans ((((((List.Perm.refl _)).append_left _).trans (pullc _ _ _)).trans ((((((List.Perm.refl _)).append_left _).trans (pullc _ _ _)).trans (((List.Perm.refl _).trans ((List.Perm.refl _).append_left _)).append_left _)).append_left _)).append_left _)).append_left _))
  · simp only [List.append_assoc]

set_option maxHeartbeats 2000000 in
theorem impl_StreamOf_T {w : World} {cs : List Value} {x : Conn} (hv : RdConn w cs x) (hb : x.le 1048576) (id : Int) {n : Nat} {s : Stream} (hf : findStream x.streams id = (n : Int)) (hs_ : x.streams[n]? = some s) : CN Try.prog 27 [.agg cs.toArray, .int .i64 id] w (fun v ch => ∃ cs', v = .tuple #[.agg cs'.toArray, .bool true] ∧ OwStream cs' s ch) := by
  obtain ⟨v0, v1, rfl, k0, k1⟩ := hv
  obtain ⟨A0, c0, rfl, hA0⟩ := k0
  obtain ⟨A1, c1, rfl, hA1⟩ := k1
  obtain ⟨hb0, hb1, hb2, hb3⟩ := hb
  refine cn_of Try.func27 rfl rfl rfl <| SQ <| RG <| BX [_, _, _, _, _, _, _, _, _, _, _, _, _, _, _, _, _, _, _, _, _, _, _, _, _, _, _, _, _, _, _, _, _, _, _, _, _, _, _, _, _, _, _, _, _, _, _, _, _, _] rfl rfl rfl <| fun b1 => AL rfl tyZ_impl_Stream <| fun b2 => AS rfl rfl <| ND <| SQ <| RG <| FA rfl tyF_impl_Conn_3 rfl <| LD (i := 1) rfl tyP_S_impl_Stream rfl rfl rfl <| MV rfl rfl <| CV1 rfl fun_impl_FindStream rfl (fun w hs => impl_FindStream (hA0.s RdStream.keeps hs) hb0 _) <| AS rfl rfl <| ND <| ?_
  refine SQ <| SQ <| RG <| MV rfl rfl <| rw_lss rfl rfl rfl <| ND <| CF rfl (find_pos hf) <| SK <| SQ <| RG <| FA rfl tyF_impl_Conn_3 rfl <| LD (i := 1) rfl tyP_S_impl_Stream rfl rfl rfl <| MV rfl rfl <| ?_
  obtain ⟨hbs0, hbs1, hbs2, hbs3, hbs4, hbs5⟩ := hb1 s (List.mem_of_getElem? hs_)
  obtain ⟨cse1_, hRe1_, hq1⟩ := hA0.get hs_
  obtain ⟨ve1_0, ve1_1, ve1_2, ve1_3, ve1_4, rfl, ke1_0, ke1_1, ke1_2, ke1_3, ke1_4⟩ := hRe1_
  obtain ⟨Ae1_0, ce1_0, rfl, hAe1_0⟩ := ke1_0
  obtain ⟨Ae1_1, ce1_1, rfl, hAe1_1⟩ := ke1_1
  obtain ⟨Ae1_2, ce1_2, rfl, hAe1_2⟩ := ke1_2
  obtain ⟨Ae1_3, ce1_3, rfl, hAe1_3⟩ := ke1_3
  obtain ⟨Ae1_4, ce1_4, rfl, hAe1_4⟩ := ke1_4
  refine rw_indexAddr (n) rfl tyE_S_impl_Stream rfl rfl hf (hA0.some (List.getElem?_eq_some_iff.1 hs_).1) (List.getElem?_eq_some_iff.1 hs_).1 <| rw_loadX_s [_, _, _, _, _, _, _, _, _, _, _, _, _, _, _, _, _, _, _, _, _, _, _, _, _, _, _, _, _, _, _, _, _, _, _, _, _, _, _] rfl tyS_impl_Stream rfl rfl (fun w hs => hq1.lds0 (n := 39) hs rfl) <| CN1 rfl fun_impl_copyStream rfl (fun w hs => impl_copyStream ⟨_, _, _, _, _, rfl, (hAe1_0.s Pl.keeps hs), (hAe1_1.s Pl.keeps hs), (hAe1_2.s Pl.keeps hs), (hAe1_3.s Pl.keeps hs), (hAe1_4.s Pl.keeps hs)⟩ ⟨hbs0, hbs1, hbs2, hbs3, hbs4, hbs5⟩) <| fun vv2 ch2 how2 => ?_
  obtain ⟨cs2, rfl, v2_0, v2_1, v2_2, v2_3, v2_4, c2_0, c2_1, c2_2, c2_3, c2_4, rfl, h2_0, h2_1, h2_2, h2_3, h2_4, rfl⟩ := how2
  refine rw_F (F' := c2_0 ++ (c2_1 ++ (c2_2 ++ (c2_3 ++ (c2_4 ++ ([])))))) (by simp only [List.append_assoc]) <| ?_
  obtain ⟨R2_0, b2_0, rfl, hR2_0, hrd2_0⟩ := h2_0.shape eInt
  obtain ⟨R2_1, b2_1, rfl, hR2_1, hrd2_1⟩ := h2_1.shape eRange
  obtain ⟨R2_2, b2_2, rfl, hR2_2, hrd2_2⟩ := h2_2.shape eRange
  obtain ⟨R2_3, b2_3, rfl, hR2_3, hrd2_3⟩ := h2_3.shape eRange
  obtain ⟨R2_4, b2_4, rfl, hR2_4, hrd2_4⟩ := h2_4.shape eChunk
  refine rw_storeN (i := 0) [_, _, _, _, _, _, _, _, _, _, _, _, _, _, _, _, _, _, _, _, _, _, _, _, _, _, _, _, _, _, _, _, _, _, _, _, _, _, _] [_, _, _, _, _, _, _, _, _, _, _, _, _, _, _, _, _, _, _, _, _, _, _, _, _, _, _, _, _, _, _, _, _, _, _, _, _, _, _] [_, _] tyS_impl_Stream.sz rfl rfl rfl rfl rfl rfl rfl rfl rfl <| AS rfl rfl <| ND <| ?_
  refine gw_FP ((List.Perm.refl _).trans (((List.Perm.refl _).trans (((List.Perm.refl _).trans (((List.Perm.refl _).trans (((List.Perm.refl _).trans ((List.Perm.refl _).append_left _)).append_left _)).append_left _)).append_left _)).append_left _)) (gw_F (F' := (c2_0 ++ (c2_1 ++ (c2_2 ++ (c2_3 ++ (c2_4))))) ++ ([])) (by simp only [List.append_assoc]) ?_)
  refine ret_cn (c2_0 ++ (c2_1 ++ (c2_2 ++ (c2_3 ++ (c2_4))))) Try.func27 (res2 Try.func27 rfl (rv_s (i := 0) [_, _, _, _, _, _, _, _, _, _, _, _, _, _, _, _, _, _, _, _, _, _, _, _, _, _, _, _, _, _, _, _, _, _, _, _, _, _, _] tyS_impl_Stream rfl rfl rfl rfl) (rv_tmp rfl)) ?_ ?_
  · exact ⟨_, rfl, _, _, _, _, _, _, _, _, _, _, rfl, h2_0, h2_1, h2_2, h2_3, h2_4, rfl⟩
  · exact (List.sublist_append_left _ _).trans (List.sublist_append_right _ _)

theorem impl_StreamOf_F {w : World} {cs : List Value} {x : Conn} (hv : RdConn w cs x) (hb : x.le 1048576) (id : Int) (hf : findStream x.streams id = -1) : CV Try.prog 27 [.agg cs.toArray, .int .i64 id] w (.tuple #[.agg (Stream.row zeroStream (.slice none 0 0) (.slice none 0 0) (.slice none 0 0) (.slice none 0 0) (.slice none 0 0)).toArray, .bool false]) := by
  obtain ⟨v0, v1, rfl, k0, k1⟩ := hv
  obtain ⟨A0, c0, rfl, hA0⟩ := k0
  obtain ⟨A1, c1, rfl, hA1⟩ := k1
  obtain ⟨hb0, hb1, hb2, hb3⟩ := hb
  refine cv_of Try.func27 rfl rfl rfl <| SQ <| RG <| BX [_, _, _, _, _, _, _, _, _, _, _, _, _, _, _, _, _, _, _, _, _, _, _, _, _, _, _, _, _, _, _, _, _, _, _, _, _, _, _, _, _, _, _, _, _, _, _, _, _, _] rfl rfl rfl <| fun b1 => AL rfl tyZ_impl_Stream <| fun b2 => AS rfl rfl <| ND <| SQ <| RG <| FA rfl tyF_impl_Conn_3 rfl <| LD (i := 1) rfl tyP_S_impl_Stream rfl rfl rfl <| MV rfl rfl <| CV1 rfl fun_impl_FindStream rfl (fun w hs => impl_FindStream (hA0.s RdStream.keeps hs) hb0 _) <| AS rfl rfl <| ND <| ?_
  refine SQ <| SQ <| RG <| MV rfl rfl <| rw_lss rfl rfl rfl <| ND <| CT rfl (find_neg hf) <| SQ <| RG <| rw_build [_, _, _, _, _, _, _, _, _, _, _, _, _, _, _, _, _, _, _, _, _, _, _, _, _, _, _, _, _, _, _, _, _, _, _, _, _, _, _] rfl tyB_impl_Stream tyZ_impl_Stream rfl rfl <| rw_storeN (i := 0) [_, _, _, _, _, _, _, _, _, _, _, _, _, _, _, _, _, _, _, _, _, _, _, _, _, _, _, _, _, _, _, _, _, _, _, _, _, _, _] [_, _, _, _, _, _, _, _, _, _, _, _, _, _, _, _, _, _, _, _, _, _, _, _, _, _, _, _, _, _, _, _, _, _, _, _, _, _, _] [_, _] tyS_impl_Stream.sz rfl rfl rfl rfl rfl rfl rfl rfl rfl <| ?_
  refine AS rfl rfl <| ND <| ret_cv Try.func27 (res2 Try.func27 rfl (rv_s (i := 0) [_, _, _, _, _, _, _, _, _, _, _, _, _, _, _, _, _, _, _, _, _, _, _, _, _, _, _, _, _, _, _, _, _, _, _, _, _, _, _] tyS_impl_Stream rfl rfl rfl rfl) (rv_tmp rfl)) <| ?_
  rfl

theorem spec_FindStream {w : World} {v : Value} {l : List Stream} (hv : RdS w 39 RdStream v l) (hb : l.length ≤ 1048576) (id : Int) : CV Try.prog 67 [v, .int .i64 id] w (.int .i64 (findStream l id)) := by
  obtain ⟨A, c, rfl, hA⟩ := hv
  refine cv_of Try.func67 rfl rfl rfl <| SQ <| RG <| AS rfl rfl <| ND <| SQ <| SQ <| RG <| AS rfl rfl <| ND <| BK <| ?_
  refine gw_loopC (α := Nat) (fun z_ => z_ ≤ l.length ∧ findStream l id = findFrom id z_ (l.drop z_)) (fun z_ => l.length - z_) (fun e z_ => (5, .int .i64 (z_ : Int)) :: e) 0 [(0, _), (1, _)] (Sub.consE rfl rfl (Sub.cons (i := 0) rfl (Sub.cons (i := 1) rfl (Sub.nil _)))) ?_ ?_
  · exact ⟨Nat.zero_le _, rfl⟩
  · rintro i hI1 ih1
    try dsimp only
    obtain ⟨hle, hI⟩ := hI1
    refine SQ <| SQ <| RG <| MV rfl rfl <| MV rfl rfl <| rw_len rfl tyE_S_impl_Stream rfl <| rw_lss rfl rfl rfl <| ND <| ?_
    refine gw_cond rfl (fun h1 => ?_) (fun h1 => ?_)
    · have hi2 := lt_of_dec h1
      obtain ⟨x3, hx3⟩ := get_of_lt hi2
      have hd3 := drop_cons hx3
      refine SK <| SQ <| BK <| SQ <| RG <| MV rfl rfl <| MV rfl rfl <| ?_
      obtain ⟨cse4_, hRe4_, hq4⟩ := hA.get hx3
      obtain ⟨ve4_0, ve4_1, ve4_2, ve4_3, ve4_4, rfl, ke4_0, ke4_1, ke4_2, ke4_3, ke4_4⟩ := hRe4_
      obtain ⟨Ae4_0, ce4_0, rfl, hAe4_0⟩ := ke4_0
      obtain ⟨Ae4_1, ce4_1, rfl, hAe4_1⟩ := ke4_1
      obtain ⟨Ae4_2, ce4_2, rfl, hAe4_2⟩ := ke4_2
      obtain ⟨Ae4_3, ce4_3, rfl, hAe4_3⟩ := ke4_3
      obtain ⟨Ae4_4, ce4_4, rfl, hAe4_4⟩ := ke4_4
      refine rw_indexAddr (i) rfl tyE_S_impl_Stream rfl rfl rfl (hA.some hi2) hi2 <| FX rfl tyF_impl_Stream_0 rfl <| rw_loadX _ rfl tyP_int rfl (fun w hs => hq4.ld hs rfl) <| MV rfl rfl <| EQ1 rfl rfl rfl <| ND <| ?_
      refine gw_cond rfl (fun h2 => ?_) (fun h2 => ?_)
      · refine SQ <| RG <| MV rfl rfl <| AS rfl rfl <| ND <| ret_cv Try.func67 (res1 Try.func67 rfl (rv_tmp rfl)) <| ?_
        rw [hI, hd3]; simp [findFrom, h2]
      · refine SK <| IB <| RG <| MV rfl rfl <| rw_add rfl rfl rfl <| AS rfl rfl <| ND <| ?_
        refine gw_sub (Sub.consE (i := 5) rfl (int_succ (by omega)) (Sub.cons (i := 0) rfl (Sub.cons (i := 1) rfl (Sub.nil _)))) (ih1 (i + 1) ?_ ?_)
        · exact ⟨by omega, by rw [hI, hd3]; simp [findFrom, h2]⟩
        · show l.length - (i + 1) < l.length - i; omega
    · have hn5 := nil_of_dec h1
      refine EX rfl <| SQ <| RG <| AS rfl rfl <| ND <| ret_cv Try.func67 (res1 Try.func67 rfl (rv_tmp rfl)) <| ?_
      rw [hI, hn5]; rfl

theorem spec_l8Copy {w : World} {cs : List Value} {x : Ring} (hv : RdRing w cs x) (hb : x.le 1048576) : CN Try.prog 169 [.agg cs.toArray] w (OwV OwRing x) := by
  obtain ⟨v0, rfl, k0⟩ := hv
  obtain ⟨A0, c0, rfl, hA0⟩ := k0
  have hb0 : x.cells.length ≤ 1048576 := hb
  refine cn_of Try.func169 rfl rfl rfl <| SQ <| RG <| BX [_, _, _, _] rfl rfl rfl <| fun b1 => AL rfl tyZ_impl_Ring <| fun b2 => ND <| SQ <| gw_draw' [(0, .det), (1, .det), (2, .det), (3, .det), (4, .det), (5, .det), (7, .det), (8, .det), (6, .add), (9, .add)] [10, 11] mixed rfl (free_det (free_det (free_det (free_det (free_det (free_det (free_det (free_det (free_add (free_add free_nil)))))))))) (ts := [_, _]) rfl <| DT rfl rfl (fun K hk => FA rfl tyF_impl_Ring_0 rfl hk) <| DT rfl rfl (fun K hk => LD (i := 1) rfl tyP_int rfl rfl rfl hk) <| DT rfl rfl (fun K hk => FA rfl tyF_impl_Ring_1 rfl hk) <| ?_
  refine DT rfl rfl (fun K hk => LD (i := 1) rfl tyP_int rfl rfl rfl hk) <| DT rfl rfl (fun K hk => FA rfl tyF_impl_Ring_2 rfl hk) <| DT rfl rfl (fun K hk => LD (i := 1) rfl tyP_int rfl rfl rfl hk) <| DT rfl rfl (fun K hk => FA rfl tyF_impl_Ring_3 rfl hk) <| DT rfl rfl (fun K hk => LD (i := 1) rfl tyP_S_int rfl rfl rfl hk) <| DA rfl rfl (fun K hk => rw_slice0D rfl tyM_S_int (PlO intC) hk) <| fun v1 ch1 how1 => ?_
  obtain ⟨how1, rfl⟩ := how1
  refine DA rfl rfl (fun K hk => rw_appendP rfl tyM_S_int eInt (fun _ => rfl) rfl rfl how1 (fun w hs => hA0.sat Pl.keeps hs) (.refl _) (by first | omega | (simp; omega)) hk) <| fun v2 ch2 how2 => ?_
  obtain ⟨R3, rc3, rfl, hR3, hrd3⟩ := (OwA.s (l := x.cells) how2).shape eInt
  refine dw_nil <| rw_build [_, _, _, _] rfl tyB_impl_Ring tyZ_impl_Ring rfl rfl <| ST (i := 0) [_, _, _, _] [_, _, _, _] tyS_impl_Ring.sz rfl rfl rfl rfl rfl rfl rfl rfl <| ND <| ?_
  refine ret_cnP (ch := ch2) (G := ch2 ++ ([])) (F' := []) Try.func169 (res1 Try.func169 rfl (rv_s (i := 0) [_, _, _, _] tyS_impl_Ring rfl rfl rfl rfl)) ?_ ?_ ?_
  · exact ⟨_, rfl, _, _, rfl, (OwA.s (l := x.cells) how2), rfl⟩
  · exact ((List.Perm.refl _).trans ((List.Perm.refl _).append_left _))
  · simp only []

theorem spec_l3Copy {w : World} {v : Value} {l : List Range} (hv : RdS w 2 (Pl Range.cells) v l) (hb : l.length ≤ 4194304) : CN Try.prog 170 [v] w (fun v ch => OwA 156 2 (PlO Range.cells) v l ch) := by
  obtain ⟨A, c, rfl, hA⟩ := hv
  refine cn_of Try.func170 rfl rfl rfl <| SQ <| RG <| AS rfl rfl <| ND <| SQ <| RG <| rw_slice0 rfl tyM_S_impl_Range (PlO Range.cells) <| fun v1 how1 => MV rfl rfl <| rw_appendP rfl tyM_S_impl_Range eRange (fun _ => rfl) rfl rfl how1 (fun w hs => hA.sat Pl.keeps hs) (.refl _) (by first | omega | (simp; omega)) <| fun v2 ch2 how2 => AS rfl rfl <| ND <| ?_
  refine ret_cn ch2 Try.func170 (res1 Try.func170 rfl (rv_tmp rfl)) ?_ ?_
  · exact how2
  · simp

set_option maxHeartbeats 4000000 in
theorem spec_l9Copy {w : World} {cs : List Value} {x : Sender} (hv : RdSender w cs x) (hb : x.le 1048576) : CN Try.prog 106 [.agg cs.toArray] w (OwV OwSender x) := by
  obtain ⟨v0, v1, v2, v3, rfl, k0, k1, k2, k3⟩ := hv
  obtain ⟨A0, c0, rfl, hA0⟩ := k0
  obtain ⟨A1, c1, rfl, hA1⟩ := k1
  obtain ⟨A2, c2, rfl, hA2⟩ := k2
  obtain ⟨A3, c3, rfl, hA3⟩ := k3
  obtain ⟨hb0, hb1, hb2, hb3⟩ := hb
  refine cn_of Try.func106 rfl rfl rfl <| SQ <| RG <| BX [_, _, _, _, _, _, _, _, _, _, _, _] rfl rfl rfl <| fun b1 => AL rfl tyZ_impl_Sender <| fun b2 => ND <| SQ <| gw_draw' [(0, .det), (1, .det), (2, .det), (3, .det), (5, .det), (6, .det), (8, .det), (9, .det), (11, .det), (12, .det), (14, .det), (15, .det), (16, .det), (17, .det), (18, .det), (19, .det), (20, .det), (21, .det), (4, .add), (7, .add), (10, .add), (13, .add)] [22, 23] mixed rfl (free_det (free_det (free_det (free_det (free_det (free_det (free_det (free_det (free_det (free_det (free_det (free_det (free_det (free_det (free_det (free_det (free_det (free_det (free_add (free_add (free_add (free_add free_nil)))))))))))))))))))))) (ts := [_, _]) rfl <| ?_
  refine DT rfl rfl (fun K hk => FA rfl tyF_impl_Sender_0 rfl hk) <| DT rfl rfl (fun K hk => LD (i := 1) rfl tyP_int rfl rfl rfl hk) <| DT rfl rfl (fun K hk => FA rfl tyF_impl_Sender_1 rfl hk) <| DT rfl rfl (fun K hk => LS (i := 1) [_, _, _, _] rfl tyS_impl_Ring rfl rfl rfl rfl hk) <| DT rfl rfl (fun K hk => FA rfl tyF_impl_Sender_2 rfl hk) <| DT rfl rfl (fun K hk => LD (i := 1) rfl tyP_S_impl_Range rfl rfl rfl hk) <| DT rfl rfl (fun K hk => FA rfl tyF_impl_Sender_3 rfl hk) <| DT rfl rfl (fun K hk => LD (i := 1) rfl tyP_S_impl_Range rfl rfl rfl hk) <| ?_
  refine DT rfl rfl (fun K hk => FA rfl tyF_impl_Sender_4 rfl hk) <| DT rfl rfl (fun K hk => LD (i := 1) rfl tyP_S_impl_Range rfl rfl rfl hk) <| DT rfl rfl (fun K hk => FA rfl tyF_impl_Sender_5 rfl hk) <| DT rfl rfl (fun K hk => LD (i := 1) rfl tyP_int rfl rfl rfl hk) <| DT rfl rfl (fun K hk => FA rfl tyF_impl_Sender_6 rfl hk) <| DT rfl rfl (fun K hk => LD (i := 1) rfl tyP_int rfl rfl rfl hk) <| DT rfl rfl (fun K hk => FA rfl tyF_impl_Sender_7 rfl hk) <| DT rfl rfl (fun K hk => LD (i := 1) rfl tyP_int rfl rfl rfl hk) <| ?_
  refine DT rfl rfl (fun K hk => FA rfl tyF_impl_Sender_8 rfl hk) <| DT rfl rfl (fun K hk => LD (i := 1) rfl tyP_int rfl rfl rfl hk) <| DA rfl rfl (fun K hk => CN1 rfl fun_spec_l8Copy rfl (fun w hs => spec_l8Copy ⟨_, rfl, (hA0.s Pl.keeps hs)⟩ (show _ ≤ _ from hb0)) hk) <| fun vv1 ch1 how1 => ?_
  obtain ⟨cs1, rfl, v1_0, c1_0, rfl, h1_0, rfl⟩ := how1
  obtain ⟨R1_0, b1_0, rfl, hR1_0, hrd1_0⟩ := h1_0.shape eInt
  refine DA rfl rfl (fun K hk => CN1 rfl fun_spec_l3Copy rfl (fun w hs => spec_l3Copy (hA1.s Pl.keeps hs) (by omega)) hk) <| fun v2 ch2 how2 => ?_
  obtain ⟨R3, rc3, rfl, hR3, hrd3⟩ := (OwA.s (l := x.pending) how2).shape eRange
  refine DA rfl rfl (fun K hk => CN1 rfl fun_spec_l3Copy rfl (fun w hs => spec_l3Copy (hA2.s Pl.keeps hs) (by omega)) hk) <| fun v4 ch4 how4 => ?_
  obtain ⟨R5, rc5, rfl, hR5, hrd5⟩ := (OwA.s (l := x.flight) how4).shape eRange
  refine DA rfl rfl (fun K hk => CN1 rfl fun_spec_l3Copy rfl (fun w hs => spec_l3Copy (hA3.s Pl.keeps hs) (by omega)) hk) <| fun v6 ch6 how6 => ?_
  obtain ⟨R7, rc7, rfl, hR7, hrd7⟩ := (OwA.s (l := x.acked) how6).shape eRange
  refine dw_nil <| rw_build [_, _, _, _, _, _, _, _, _, _, _, _] rfl tyB_impl_Sender tyZ_impl_Sender rfl rfl <| rw_storeN (i := 0) [_, _, _, _, _, _, _, _, _, _, _, _] [_, _, _, _, _, _, _, _, _, _, _, _] [_, _] tyS_impl_Sender.sz rfl rfl rfl rfl rfl rfl rfl rfl rfl <| ND <| ?_
  refine ret_cnP (ch := ch1 ++ (ch2 ++ (ch4 ++ (ch6)))) (G := ch1 ++ (ch2 ++ (ch4 ++ (ch6 ++ ([]))))) (F' := []) Try.func106 (res1 Try.func106 rfl (rv_s (i := 0) [_, _, _, _, _, _, _, _, _, _, _, _] tyS_impl_Sender rfl rfl rfl rfl)) ?_ ?_ ?_
  · exact ⟨_, rfl, _, _, _, _, _, _, _, _, rfl, h1_0, (OwA.s (l := x.pending) how2), (OwA.s (l := x.flight) how4), (OwA.s (l := x.acked) how6), rfl⟩
  · exact (((((((((((List.Perm.refl _)).append_left _).trans (pullc _ _ _))).append_left _).trans (pullc _ _ _))).append_left _).trans (pullc _ _ _)).trans (((((((((List.Perm.refl _)).append_left _).trans (pullc _ _ _))).append_left _).trans (pullc _ _ _)).trans ((((((List.Perm.refl _)).append_left _).trans (pullc _ _ _)).trans (((List.Perm.refl _).trans ((List.Perm.refl _).append_left _)).append_left _)).append_left _)).append_left _))
  · simp only [List.append_assoc]

theorem spec_l6Copy {w : World} {cs : List Value} {x : Buffer} (hv : RdBuffer w cs x) (hb : x.le 1048576) : CN Try.prog 204 [.agg cs.toArray] w (OwV OwBuffer x) := by
  obtain ⟨v0, rfl, k0⟩ := hv
  obtain ⟨A0, c0, rfl, hA0⟩ := k0
  obtain ⟨hb0, hb1⟩ := hb
  refine cn_of Try.func204 rfl rfl rfl <| SQ <| RG <| BX [_, _] rfl rfl rfl <| fun b1 => AL rfl tyZ_impl_Buffer <| fun b2 => ND <| SQ <| gw_draw' [(0, .det), (1, .det), (3, .det), (4, .det), (2, .add), (5, .add)] [6, 7] mixed rfl (free_det (free_det (free_det (free_det (free_add (free_add free_nil)))))) (ts := [_, _]) rfl <| DT rfl rfl (fun K hk => FA rfl tyF_impl_Buffer_0 rfl hk) <| DT rfl rfl (fun K hk => LD (i := 1) rfl tyP_int rfl rfl rfl hk) <| DT rfl rfl (fun K hk => FA rfl tyF_impl_Buffer_1 rfl hk) <| DT rfl rfl (fun K hk => LD (i := 1) rfl tyP_S_impl_Chunk rfl rfl rfl hk) <| ?_
  refine DA rfl rfl (fun K hk => rw_slice0D rfl tyM_S_impl_Chunk (PlO Chunk.cells) hk) <| fun v1 ch1 how1 => ?_
  obtain ⟨how1, rfl⟩ := how1
  refine DA rfl rfl (fun K hk => rw_appendP rfl tyM_S_impl_Chunk eChunk (fun _ => rfl) rfl rfl how1 (fun w hs => hA0.sat Pl.keeps hs) (.refl _) (by first | omega | (simp; omega)) hk) <| fun v2 ch2 how2 => ?_
  obtain ⟨R3, rc3, rfl, hR3, hrd3⟩ := (OwA.s (l := x.chunks) how2).shape eChunk
  refine dw_nil <| rw_build [_, _] rfl tyB_impl_Buffer tyZ_impl_Buffer rfl rfl <| ST (i := 0) [_, _] [_, _] tyS_impl_Buffer.sz rfl rfl rfl rfl rfl rfl rfl rfl <| ND <| ?_
  refine ret_cnP (ch := ch2) (G := ch2 ++ ([])) (F' := []) Try.func204 (res1 Try.func204 rfl (rv_s (i := 0) [_, _] tyS_impl_Buffer rfl rfl rfl rfl)) ?_ ?_ ?_
  · exact ⟨_, rfl, _, _, rfl, (OwA.s (l := x.chunks) how2), rfl⟩
  · exact ((List.Perm.refl _).trans ((List.Perm.refl _).append_left _))
  · simp only []

theorem spec_l7Copy {w : World} {cs : List Value} {x : Receiver} (hv : RdReceiver w cs x) (hb : x.le 1048576) : CN Try.prog 146 [.agg cs.toArray] w (OwV OwReceiver x) := by
  obtain ⟨v0, rfl, k0⟩ := hv
  obtain ⟨A0, c0, rfl, hA0⟩ := k0
  obtain ⟨hb0, hb1⟩ := hb
  refine cn_of Try.func146 rfl rfl rfl <| SQ <| RG <| BX [_, _, _, _, _, _] rfl rfl rfl <| fun b1 => AL rfl tyZ_impl_Receiver <| fun b2 => ND <| SQ <| gw_draw' [(0, .det), (1, .det), (2, .det), (3, .det), (5, .det), (6, .det), (7, .det), (8, .det), (9, .det), (10, .det), (4, .add)] [11, 12] mixed rfl (free_det (free_det (free_det (free_det (free_det (free_det (free_det (free_det (free_det (free_det (free_add free_nil))))))))))) (ts := [_, _]) rfl <| DT rfl rfl (fun K hk => FA rfl tyF_impl_Receiver_0 rfl hk) <| DT rfl rfl (fun K hk => LD (i := 1) rfl tyP_int rfl rfl rfl hk) <| ?_
  refine DT rfl rfl (fun K hk => FA rfl tyF_impl_Receiver_1 rfl hk) <| DT rfl rfl (fun K hk => LS (i := 1) [_, _] rfl tyS_impl_Buffer rfl rfl rfl rfl hk) <| DT rfl rfl (fun K hk => FA rfl tyF_impl_Receiver_2 rfl hk) <| DT rfl rfl (fun K hk => LD (i := 1) rfl tyP_int rfl rfl rfl hk) <| DT rfl rfl (fun K hk => FA rfl tyF_impl_Receiver_3 rfl hk) <| DT rfl rfl (fun K hk => LD (i := 1) rfl tyP_int rfl rfl rfl hk) <| DT rfl rfl (fun K hk => FA rfl tyF_impl_Receiver_4 rfl hk) <| DT rfl rfl (fun K hk => LD (i := 1) rfl tyP_int rfl rfl rfl hk) <| ?_
  refine DA rfl rfl (fun K hk => CN1 rfl fun_spec_l6Copy rfl (fun w hs => spec_l6Copy ⟨_, rfl, (hA0.s Pl.keeps hs)⟩ ⟨hb0, hb1⟩) hk) <| fun vv1 ch1 how1 => ?_
  obtain ⟨cs1, rfl, v1_0, c1_0, rfl, h1_0, rfl⟩ := how1
  obtain ⟨R1_0, b1_0, rfl, hR1_0, hrd1_0⟩ := h1_0.shape eChunk
  refine dw_nil <| rw_build [_, _, _, _, _, _] rfl tyB_impl_Receiver tyZ_impl_Receiver rfl rfl <| ST (i := 0) [_, _, _, _, _, _] [_, _, _, _, _, _] tyS_impl_Receiver.sz rfl rfl rfl rfl rfl rfl rfl rfl <| ND <| ?_
  refine ret_cnP (ch := ch1) (G := ch1 ++ ([])) (F' := []) Try.func146 (res1 Try.func146 rfl (rv_s (i := 0) [_, _, _, _, _, _] tyS_impl_Receiver rfl rfl rfl rfl)) ?_ ?_ ?_
  · exact ⟨_, rfl, _, _, rfl, h1_0, rfl⟩
  · exact ((List.Perm.refl _).trans ((List.Perm.refl _).append_left _))
  · simp only []

set_option maxHeartbeats 4000000 in
theorem spec_l15Copy {w : World} {cs : List Value} {x : Stream} (hv : RdStream w cs x) (hb : x.le 1048576) : CN Try.prog 68 [.agg cs.toArray] w (OwV OwStream x) := by
  obtain ⟨v0, v1, v2, v3, v4, rfl, k0, k1, k2, k3, k4⟩ := hv
  obtain ⟨A0, c0, rfl, hA0⟩ := k0
  obtain ⟨A1, c1, rfl, hA1⟩ := k1
  obtain ⟨A2, c2, rfl, hA2⟩ := k2
  obtain ⟨A3, c3, rfl, hA3⟩ := k3
  obtain ⟨A4, c4, rfl, hA4⟩ := k4
  obtain ⟨hb0, hb1, hb2, hb3, hb4, hb5⟩ := hb
  refine cn_of Try.func68 rfl rfl rfl <| SQ <| RG <| BX [_, _, _, _, _, _, _, _, _, _, _, _, _, _, _, _, _, _, _, _, _, _, _, _, _, _, _, _, _, _, _, _, _, _, _, _, _, _, _] rfl rfl rfl <| fun b1 => AL rfl tyZ_impl_Stream <| fun b2 => ND <| SQ <| RG <| LS (i := 1) [_, _, _, _, _, _, _, _, _, _, _, _, _, _, _, _, _, _, _, _, _, _, _, _, _, _, _, _, _, _, _, _, _, _, _, _, _, _, _] rfl tyS_impl_Stream rfl rfl rfl rfl <| AL rfl tyZ_impl_Stream <| fun b3 => rw_storeN (i := 0) [_, _, _, _, _, _, _, _, _, _, _, _, _, _, _, _, _, _, _, _, _, _, _, _, _, _, _, _, _, _, _, _, _, _, _, _, _, _, _] [_, _, _, _, _, _, _, _, _, _, _, _, _, _, _, _, _, _, _, _, _, _, _, _, _, _, _, _, _, _, _, _, _, _, _, _, _, _, _] [_, _, _] tyS_impl_Stream.sz rfl rfl rfl rfl rfl rfl rfl rfl rfl <| ?_
  refine ND <| SQ <| RG <| FA rfl tyF_impl_Stream_1 rfl <| LS (i := 2) [_, _, _, _, _, _, _, _, _, _, _, _] rfl tyS_impl_Sender rfl rfl rfl rfl <| CN1 rfl fun_spec_l9Copy rfl (fun w hs => spec_l9Copy ⟨_, _, _, _, rfl, (hA0.s Pl.keeps hs), (hA1.s Pl.keeps hs), (hA2.s Pl.keeps hs), (hA3.s Pl.keeps hs)⟩ ⟨hb0, hb1, hb2, hb3⟩) <| fun vv1 ch1 how1 => ?_
  obtain ⟨cs1, rfl, v1_0, v1_1, v1_2, v1_3, c1_0, c1_1, c1_2, c1_3, rfl, h1_0, h1_1, h1_2, h1_3, rfl⟩ := how1
  refine rw_F (F' := c1_0 ++ (c1_1 ++ (c1_2 ++ (c1_3 ++ ([]))))) (by simp only [List.append_assoc]) <| ?_
  obtain ⟨R1_0, b1_0, rfl, hR1_0, hrd1_0⟩ := h1_0.shape eInt
  obtain ⟨R1_1, b1_1, rfl, hR1_1, hrd1_1⟩ := h1_1.shape eRange
  obtain ⟨R1_2, b1_2, rfl, hR1_2, hrd1_2⟩ := h1_2.shape eRange
  obtain ⟨R1_3, b1_3, rfl, hR1_3, hrd1_3⟩ := h1_3.shape eRange
  refine FA rfl tyF_impl_Stream_1 rfl <| rw_storeN (i := 0) [_, _, _, _, _, _, _, _, _, _, _, _] [_, _, _, _, _, _, _, _, _, _, _, _, _, _, _, _, _, _, _, _, _, _, _, _, _, _, _, _, _, _, _, _, _, _, _, _, _, _, _] [_, _, _] tyS_impl_Sender.sz rfl rfl rfl rfl rfl rfl rfl rfl rfl <| ND <| SQ <| RG <| FA rfl tyF_impl_Stream_3 rfl <| LS (i := 2) [_, _, _, _, _, _] rfl tyS_impl_Receiver rfl rfl rfl rfl <| CN1 rfl fun_spec_l7Copy rfl (fun w hs => spec_l7Copy ⟨_, rfl, (hA4.s Pl.keeps hs)⟩ ⟨hb4, hb5⟩) <| fun vv2 ch2 how2 => ?_
  obtain ⟨cs2, rfl, v2_0, c2_0, rfl, h2_0, rfl⟩ := how2
  obtain ⟨R2_0, b2_0, rfl, hR2_0, hrd2_0⟩ := h2_0.shape eChunk
  refine FA rfl tyF_impl_Stream_3 rfl <| rw_storeN (i := 0) [_, _, _, _, _, _] [_, _, _, _, _, _, _, _, _, _, _, _, _, _, _, _, _, _, _, _, _, _, _, _, _, _, _, _, _, _, _, _, _, _, _, _, _, _, _] [_, _, _] tyS_impl_Receiver.sz rfl rfl rfl rfl rfl rfl rfl rfl rfl <| ND <| SQ <| RG <| LS (i := 0) [_, _, _, _, _, _, _, _, _, _, _, _, _, _, _, _, _, _, _, _, _, _, _, _, _, _, _, _, _, _, _, _, _, _, _, _, _, _, _] rfl tyS_impl_Stream rfl rfl rfl rfl <| rw_storeN (i := 1) [_, _, _, _, _, _, _, _, _, _, _, _, _, _, _, _, _, _, _, _, _, _, _, _, _, _, _, _, _, _, _, _, _, _, _, _, _, _, _] [_, _, _, _, _, _, _, _, _, _, _, _, _, _, _, _, _, _, _, _, _, _, _, _, _, _, _, _, _, _, _, _, _, _, _, _, _, _, _] [_, _, _] tyS_impl_Stream.sz rfl rfl rfl rfl rfl rfl rfl rfl rfl <| ?_
  refine ND <| ?_
  refine ret_cnP (ch := c1_0 ++ (c1_1 ++ (c1_2 ++ (c1_3 ++ (ch2))))) (G := c1_0 ++ (c1_1 ++ (c1_2 ++ (c1_3 ++ (ch2 ++ ([])))))) (F' := []) Try.func68 (res1 Try.func68 rfl (rv_s (i := 1) [_, _, _, _, _, _, _, _, _, _, _, _, _, _, _, _, _, _, _, _, _, _, _, _, _, _, _, _, _, _, _, _, _, _, _, _, _, _, _] tyS_impl_Stream rfl rfl rfl rfl)) ?_ ?_ ?_
  · exact ⟨_, rfl, _, _, _, _, _, _, _, _, _, _, rfl, h1_0, h1_1, h1_2, h1_3, h2_0, rfl⟩
  · exact (((((List.Perm.refl _)).append_left _).trans (pullc _ _ _)).trans ((((((List.Perm.refl _)).append_left _).trans (pullc _ _ _)).trans ((((((List.Perm.refl _)).append_left _).trans (pullc _ _ _)).trans ((((((List.Perm.refl _)).append_left _).trans (pullc _ _ _)).trans (((List.Perm.refl _).trans ((List.Perm.refl _).append_left _)).append_left _)).append_left _)).append_left _)).append_left _))
  · simp only [List.append_assoc]

set_option maxHeartbeats 2000000 in
theorem spec_StreamOf_T {w : World} {cs : List Value} {x : Conn} (hv : RdConn w cs x) (hb : x.le 1048576) (id : Int) {n : Nat} {s : Stream} (hf : findStream x.streams id = (n : Int)) (hs_ : x.streams[n]? = some s) : CN Try.prog 25 [.agg cs.toArray, .int .i64 id] w (fun v ch => ∃ cs', v = .tuple #[.agg cs'.toArray, .bool true] ∧ OwStream cs' s ch) := by
  obtain ⟨v0, v1, rfl, k0, k1⟩ := hv
  obtain ⟨A0, c0, rfl, hA0⟩ := k0
  obtain ⟨A1, c1, rfl, hA1⟩ := k1
  obtain ⟨hb0, hb1, hb2, hb3⟩ := hb
  refine cn_of Try.func25 rfl rfl rfl <| SQ <| RG <| BX [_, _, _, _, _, _, _, _, _, _, _, _, _, _, _, _, _, _, _, _, _, _, _, _, _, _, _, _, _, _, _, _, _, _, _, _, _, _, _, _, _, _, _, _, _, _, _, _, _, _] rfl rfl rfl <| fun b1 => AL rfl tyZ_impl_Stream <| fun b2 => AS rfl rfl <| ND <| SQ <| RG <| FA rfl tyF_impl_Conn_3 rfl <| LD (i := 1) rfl tyP_S_impl_Stream rfl rfl rfl <| MV rfl rfl <| CV1 rfl fun_spec_FindStream rfl (fun w hs => spec_FindStream (hA0.s RdStream.keeps hs) hb0 _) <| AS rfl rfl <| ND <| ?_
  refine SQ <| SQ <| RG <| MV rfl rfl <| rw_lss rfl rfl rfl <| ND <| CF rfl (find_pos hf) <| SK <| SQ <| RG <| FA rfl tyF_impl_Conn_3 rfl <| LD (i := 1) rfl tyP_S_impl_Stream rfl rfl rfl <| MV rfl rfl <| ?_
  obtain ⟨hbs0, hbs1, hbs2, hbs3, hbs4, hbs5⟩ := hb1 s (List.mem_of_getElem? hs_)
  obtain ⟨cse1_, hRe1_, hq1⟩ := hA0.get hs_
  obtain ⟨ve1_0, ve1_1, ve1_2, ve1_3, ve1_4, rfl, ke1_0, ke1_1, ke1_2, ke1_3, ke1_4⟩ := hRe1_
  obtain ⟨Ae1_0, ce1_0, rfl, hAe1_0⟩ := ke1_0
  obtain ⟨Ae1_1, ce1_1, rfl, hAe1_1⟩ := ke1_1
  obtain ⟨Ae1_2, ce1_2, rfl, hAe1_2⟩ := ke1_2
  obtain ⟨Ae1_3, ce1_3, rfl, hAe1_3⟩ := ke1_3
  obtain ⟨Ae1_4, ce1_4, rfl, hAe1_4⟩ := ke1_4
  refine rw_indexAddr (n) rfl tyE_S_impl_Stream rfl rfl hf (hA0.some (List.getElem?_eq_some_iff.1 hs_).1) (List.getElem?_eq_some_iff.1 hs_).1 <| rw_loadX_s [_, _, _, _, _, _, _, _, _, _, _, _, _, _, _, _, _, _, _, _, _, _, _, _, _, _, _, _, _, _, _, _, _, _, _, _, _, _, _] rfl tyS_impl_Stream rfl rfl (fun w hs => hq1.lds0 (n := 39) hs rfl) <| CN1 rfl fun_spec_l15Copy rfl (fun w hs => spec_l15Copy ⟨_, _, _, _, _, rfl, (hAe1_0.s Pl.keeps hs), (hAe1_1.s Pl.keeps hs), (hAe1_2.s Pl.keeps hs), (hAe1_3.s Pl.keeps hs), (hAe1_4.s Pl.keeps hs)⟩ ⟨hbs0, hbs1, hbs2, hbs3, hbs4, hbs5⟩) <| fun vv2 ch2 how2 => ?_
  obtain ⟨cs2, rfl, v2_0, v2_1, v2_2, v2_3, v2_4, c2_0, c2_1, c2_2, c2_3, c2_4, rfl, h2_0, h2_1, h2_2, h2_3, h2_4, rfl⟩ := how2
  refine rw_F (F' := c2_0 ++ (c2_1 ++ (c2_2 ++ (c2_3 ++ (c2_4 ++ ([])))))) (by simp only [List.append_assoc]) <| ?_
  obtain ⟨R2_0, b2_0, rfl, hR2_0, hrd2_0⟩ := h2_0.shape eInt
  obtain ⟨R2_1, b2_1, rfl, hR2_1, hrd2_1⟩ := h2_1.shape eRange
  obtain ⟨R2_2, b2_2, rfl, hR2_2, hrd2_2⟩ := h2_2.shape eRange
  obtain ⟨R2_3, b2_3, rfl, hR2_3, hrd2_3⟩ := h2_3.shape eRange
  obtain ⟨R2_4, b2_4, rfl, hR2_4, hrd2_4⟩ := h2_4.shape eChunk
  refine rw_storeN (i := 0) [_, _, _, _, _, _, _, _, _, _, _, _, _, _, _, _, _, _, _, _, _, _, _, _, _, _, _, _, _, _, _, _, _, _, _, _, _, _, _] [_, _, _, _, _, _, _, _, _, _, _, _, _, _, _, _, _, _, _, _, _, _, _, _, _, _, _, _, _, _, _, _, _, _, _, _, _, _, _] [_, _] tyS_impl_Stream.sz rfl rfl rfl rfl rfl rfl rfl rfl rfl <| AS rfl rfl <| ND <| ?_
  refine gw_FP ((List.Perm.refl _).trans (((List.Perm.refl _).trans (((List.Perm.refl _).trans (((List.Perm.refl _).trans (((List.Perm.refl _).trans ((List.Perm.refl _).append_left _)).append_left _)).append_left _)).append_left _)).append_left _)) (gw_F (F' := (c2_0 ++ (c2_1 ++ (c2_2 ++ (c2_3 ++ (c2_4))))) ++ ([])) (by simp only [List.append_assoc]) ?_)
  refine ret_cn (c2_0 ++ (c2_1 ++ (c2_2 ++ (c2_3 ++ (c2_4))))) Try.func25 (res2 Try.func25 rfl (rv_s (i := 0) [_, _, _, _, _, _, _, _, _, _, _, _, _, _, _, _, _, _, _, _, _, _, _, _, _, _, _, _, _, _, _, _, _, _, _, _, _, _, _] tyS_impl_Stream rfl rfl rfl rfl) (rv_tmp rfl)) ?_ ?_
  · exact ⟨_, rfl, _, _, _, _, _, _, _, _, _, _, rfl, h2_0, h2_1, h2_2, h2_3, h2_4, rfl⟩
  · exact (List.sublist_append_left _ _).trans (List.sublist_append_right _ _)

theorem spec_StreamOf_F {w : World} {cs : List Value} {x : Conn} (hv : RdConn w cs x) (hb : x.le 1048576) (id : Int) (hf : findStream x.streams id = -1) : CV Try.prog 25 [.agg cs.toArray, .int .i64 id] w (.tuple #[.agg (Stream.row zeroStream (.slice none 0 0) (.slice none 0 0) (.slice none 0 0) (.slice none 0 0) (.slice none 0 0)).toArray, .bool false]) := by
  obtain ⟨v0, v1, rfl, k0, k1⟩ := hv
  obtain ⟨A0, c0, rfl, hA0⟩ := k0
  obtain ⟨A1, c1, rfl, hA1⟩ := k1
  obtain ⟨hb0, hb1, hb2, hb3⟩ := hb
  refine cv_of Try.func25 rfl rfl rfl <| SQ <| RG <| BX [_, _, _, _, _, _, _, _, _, _, _, _, _, _, _, _, _, _, _, _, _, _, _, _, _, _, _, _, _, _, _, _, _, _, _, _, _, _, _, _, _, _, _, _, _, _, _, _, _, _] rfl rfl rfl <| fun b1 => AL rfl tyZ_impl_Stream <| fun b2 => AS rfl rfl <| ND <| SQ <| RG <| FA rfl tyF_impl_Conn_3 rfl <| LD (i := 1) rfl tyP_S_impl_Stream rfl rfl rfl <| MV rfl rfl <| CV1 rfl fun_spec_FindStream rfl (fun w hs => spec_FindStream (hA0.s RdStream.keeps hs) hb0 _) <| AS rfl rfl <| ND <| ?_
  refine SQ <| SQ <| RG <| MV rfl rfl <| rw_lss rfl rfl rfl <| ND <| CT rfl (find_neg hf) <| SQ <| RG <| rw_build [_, _, _, _, _, _, _, _, _, _, _, _, _, _, _, _, _, _, _, _, _, _, _, _, _, _, _, _, _, _, _, _, _, _, _, _, _, _, _] rfl tyB_impl_Stream tyZ_impl_Stream rfl rfl <| rw_storeN (i := 0) [_, _, _, _, _, _, _, _, _, _, _, _, _, _, _, _, _, _, _, _, _, _, _, _, _, _, _, _, _, _, _, _, _, _, _, _, _, _, _] [_, _, _, _, _, _, _, _, _, _, _, _, _, _, _, _, _, _, _, _, _, _, _, _, _, _, _, _, _, _, _, _, _, _, _, _, _, _, _] [_, _] tyS_impl_Stream.sz rfl rfl rfl rfl rfl rfl rfl rfl rfl <| ?_
  refine AS rfl rfl <| ND <| ret_cv Try.func25 (res2 Try.func25 rfl (rv_s (i := 0) [_, _, _, _, _, _, _, _, _, _, _, _, _, _, _, _, _, _, _, _, _, _, _, _, _, _, _, _, _, _, _, _, _, _, _, _, _, _, _] tyS_impl_Stream rfl rfl rfl rfl) (rv_tmp rfl)) <| ?_
  rfl

set_option maxHeartbeats 2000000 in
theorem impl_copyStreams {w : World} {v : Value} {l : List Stream} (hv : RdS w 39 RdStream v l) (hb : l.length ≤ 1048576) (hall : ∀ x ∈ l, x.le 1048576) : CN Try.prog 69 [v] w (fun v ch => OwS 56 39 OwStream v l ch) := by
  obtain ⟨A, c, rfl, hA⟩ := hv
  refine cn_of Try.func69 rfl rfl rfl <| SQ <| RG <| AS rfl rfl <| ND <| SQ <| RG <| rw_slice0 rfl tyM_S_impl_Stream OwStream <| fun v1 how1 => AS rfl rfl <| ND <| SQ <| SQ <| RG <| MV rfl rfl <| rw_len rfl tyE_S_impl_Stream rfl <| MV rfl rfl <| ND <| BK <| ?_
  refine gw_loopX (α := Nat × Value × List Ck) (fun z_ => z_.1 ≤ l.length ∧ OwA 56 39 OwStream z_.2.1 (l.take z_.1) z_.2.2) (fun z_ => l.length - z_.1) (fun e z_ => (9, .int .i64 (z_.1 : Int)) :: (3, z_.2.1) :: e) (fun B _ => B) (fun F z_ => z_.2.2 ++ ([])) (0, v1, []) [(2, _), (7, _), (8, _)] (Sub.consE rfl rfl (Sub.consE rfl rfl (Sub.cons (i := 2) rfl (Sub.cons (i := 7) rfl (Sub.cons (i := 8) rfl (Sub.nil _)))))) rfl rfl ?_ ?_
  · exact ⟨Nat.zero_le _, how1⟩
  · rintro ⟨i, v, ch⟩ hI2 ih2
    dsimp only at hI2
    dsimp only
    obtain ⟨hle, hO⟩ := hI2
    refine SQ <| RG <| rw_lss rfl rfl rfl <| ND <| SQ <| ?_
    refine gw_cond rfl (fun h1 => ?_) (fun h1 => ?_)
    · have hi3 := lt_of_dec h1
      obtain ⟨x4, hx4⟩ := get_of_lt hi3
      have hd4 := drop_cons hx4
      refine SK <| SQ <| BK <| SQ <| RG <| ?_
      obtain ⟨cse5_, hRe5_, hq5⟩ := hA.get hx4
      obtain ⟨ve5_0, ve5_1, ve5_2, ve5_3, ve5_4, rfl, ke5_0, ke5_1, ke5_2, ke5_3, ke5_4⟩ := hRe5_
      obtain ⟨Ae5_0, ce5_0, rfl, hAe5_0⟩ := ke5_0
      obtain ⟨Ae5_1, ce5_1, rfl, hAe5_1⟩ := ke5_1
      obtain ⟨Ae5_2, ce5_2, rfl, hAe5_2⟩ := ke5_2
      obtain ⟨Ae5_3, ce5_3, rfl, hAe5_3⟩ := ke5_3
      obtain ⟨Ae5_4, ce5_4, rfl, hAe5_4⟩ := ke5_4
      obtain ⟨hbe5_0, hbe5_1, hbe5_2, hbe5_3, hbe5_4, hbe5_5⟩ := hall x4 (List.mem_of_getElem? hx4)
      refine rw_indexAddr (i) rfl tyE_S_impl_Stream rfl rfl rfl (hA.some hi3) hi3 <| rw_loadX_s [_, _, _, _, _, _, _, _, _, _, _, _, _, _, _, _, _, _, _, _, _, _, _, _, _, _, _, _, _, _, _, _, _, _, _, _, _, _, _] rfl tyS_impl_Stream rfl rfl (fun w hs => hq5.lds0 (n := 39) hs rfl) <| AL rfl tyZ_impl_Stream <| fun b1 => rw_storeN (i := 0) [_, _, _, _, _, _, _, _, _, _, _, _, _, _, _, _, _, _, _, _, _, _, _, _, _, _, _, _, _, _, _, _, _, _, _, _, _, _, _] [_, _, _, _, _, _, _, _, _, _, _, _, _, _, _, _, _, _, _, _, _, _, _, _, _, _, _, _, _, _, _, _, _, _, _, _, _, _, _] [_] tyS_impl_Stream.sz rfl rfl rfl rfl rfl rfl rfl rfl rfl <| ?_
      refine ND <| RG <| MV rfl rfl <| LS (i := 0) [_, _, _, _, _, _, _, _, _, _, _, _, _, _, _, _, _, _, _, _, _, _, _, _, _, _, _, _, _, _, _, _, _, _, _, _, _, _, _] rfl tyS_impl_Stream rfl rfl rfl rfl <| CN1 rfl fun_impl_copyStream rfl (fun w hs => impl_copyStream ⟨_, _, _, _, _, rfl, (hAe5_0.s Pl.keeps hs), (hAe5_1.s Pl.keeps hs), (hAe5_2.s Pl.keeps hs), (hAe5_3.s Pl.keeps hs), (hAe5_4.s Pl.keeps hs)⟩ ⟨hbe5_0, hbe5_1, hbe5_2, hbe5_3, hbe5_4, hbe5_5⟩) <| fun vv6 ch6 how6 => ?_
      obtain ⟨cs6, rfl, v6_0, v6_1, v6_2, v6_3, v6_4, c6_0, c6_1, c6_2, c6_3, c6_4, rfl, h6_0, h6_1, h6_2, h6_3, h6_4, rfl⟩ := how6
      refine rw_F (F' := c6_0 ++ (c6_1 ++ (c6_2 ++ (c6_3 ++ (c6_4 ++ (ch ++ ([]))))))) (by simp only [List.append_assoc]) <| ?_
      obtain ⟨R6_0, b6_0, rfl, hR6_0, hrd6_0⟩ := h6_0.shape eInt
      obtain ⟨R6_1, b6_1, rfl, hR6_1, hrd6_1⟩ := h6_1.shape eRange
      obtain ⟨R6_2, b6_2, rfl, hR6_2, hrd6_2⟩ := h6_2.shape eRange
      obtain ⟨R6_3, b6_3, rfl, hR6_3, hrd6_3⟩ := h6_3.shape eRange
      obtain ⟨R6_4, b6_4, rfl, hR6_4, hrd6_4⟩ := h6_4.shape eChunk
      refine rw_slice (xs := [(0, _)]) [_, _, _, _, _, _, _, _, _, _, _, _, _, _, _, _, _, _, _, _, _, _, _, _, _, _, _, _, _, _, _, _, _, _, _, _, _, _, _] rfl tyM_S_impl_Stream rfl rfl rfl rfl <| fun b2 => ?_
      have hpm8 : (c6_0 ++ (c6_1 ++ (c6_2 ++ (c6_3 ++ (c6_4 ++ (ch ++ ([]))))))).Perm (ch ++ ((c6_0 ++ (c6_1 ++ (c6_2 ++ (c6_3 ++ (c6_4))))) ++ ([]))) := by
        refine List.Perm.trans ((((((((((((((((((List.Perm.refl _)).append_left _).trans (pullc _ _ _))).append_left _).trans (pullc _ _ _))).append_left _).trans (pullc _ _ _))).append_left _).trans (pullc _ _ _))).append_left _).trans (pullc _ _ _)).trans (((List.Perm.refl _).trans (((List.Perm.refl _).trans (((List.Perm.refl _).trans (((List.Perm.refl _).trans (((List.Perm.refl _).trans ((List.Perm.refl _).append_left _)).append_left _)).append_left _)).append_left _)).append_left _)).append_left _)) : (c6_0 ++ (c6_1 ++ (c6_2 ++ (c6_3 ++ (c6_4 ++ (ch ++ ([]))))))).Perm (ch ++ (c6_0 ++ (c6_1 ++ (c6_2 ++ (c6_3 ++ (c6_4 ++ ([])))))))) (List.Perm.of_eq ?_)
        simp only [List.append_assoc]
      refine rw_append1 (i := 0) (a := x4) (ch2 := c6_0 ++ (c6_1 ++ (c6_2 ++ (c6_3 ++ (c6_4))))) (F2 := []) rfl tyM_S_impl_Stream eStream rfl rfl rfl hO ⟨_, _, _, _, _, _, _, _, _, _, rfl, h6_0, h6_1, h6_2, h6_3, h6_4, rfl⟩ hpm8 (by simp only [List.length_take]; omega) <| fun v7 ch7 how7 => AS rfl rfl <| ND <| IB <| RG <| rw_add rfl rfl rfl <| MV rfl rfl <| ND <| gw_dropN 2 <| ?_
      refine gw_sub (Sub.consE (i := 9) rfl (int_succ (by omega)) (Sub.consE (i := 3) rfl rfl (Sub.cons (i := 2) rfl (Sub.cons (i := 7) rfl (Sub.cons (i := 8) rfl (Sub.nil _)))))) (ih2 (i + 1, v7, ch7) ?_ ?_)
      · exact ⟨by omega, by rw [take_snoc hx4]; exact how7⟩
      · show l.length - (i + 1) < l.length - i; omega
    · have hn9 := nil_of_dec h1
      refine EX rfl <| SQ <| RG <| MV rfl rfl <| AS rfl rfl <| ND <| ?_
      refine ret_cn ch Try.func69 (res1 Try.func69 rfl (rv_tmp rfl)) ?_ ?_
      · rw [take_all hn9] at hO; exact OwA.s hO
      · simp

set_option maxHeartbeats 2000000 in
theorem impl_copyPackets {w : World} {v : Value} {l : List Packet} (hv : RdS w 2 RdPacket v l) (hb : l.length ≤ 1048576) (hall : ∀ x ∈ l, x.le 1048576) : CN Try.prog 160 [v] w (fun v ch => OwS 195 2 OwPacket v l ch) := by
  obtain ⟨A, c, rfl, hA⟩ := hv
  refine cn_of Try.func160 rfl rfl rfl <| SQ <| RG <| AS rfl rfl <| ND <| SQ <| RG <| rw_slice0 rfl tyM_S_impl_Packet OwPacket <| fun v1 how1 => AS rfl rfl <| ND <| SQ <| SQ <| RG <| MV rfl rfl <| rw_len rfl tyE_S_impl_Packet rfl <| MV rfl rfl <| ND <| BK <| ?_
  refine gw_loopX (α := Nat × Value × List Ck) (fun z_ => z_.1 ≤ l.length ∧ OwA 195 2 OwPacket z_.2.1 (l.take z_.1) z_.2.2) (fun z_ => l.length - z_.1) (fun e z_ => (9, .int .i64 (z_.1 : Int)) :: (3, z_.2.1) :: e) (fun B _ => B) (fun F z_ => z_.2.2 ++ ([])) (0, v1, []) [(2, _), (7, _), (8, _)] (Sub.consE rfl rfl (Sub.consE rfl rfl (Sub.cons (i := 2) rfl (Sub.cons (i := 7) rfl (Sub.cons (i := 8) rfl (Sub.nil _)))))) rfl rfl ?_ ?_
  · exact ⟨Nat.zero_le _, how1⟩
  · rintro ⟨i, v, ch⟩ hI2 ih2
    dsimp only at hI2
    dsimp only
    obtain ⟨hle, hO⟩ := hI2
    refine SQ <| RG <| rw_lss rfl rfl rfl <| ND <| SQ <| ?_
    refine gw_cond rfl (fun h1 => ?_) (fun h1 => ?_)
    · have hi3 := lt_of_dec h1
      obtain ⟨x4, hx4⟩ := get_of_lt hi3
      have hd4 := drop_cons hx4
      refine SK <| SQ <| BK <| SQ <| RG <| ?_
      obtain ⟨cse5_, hRe5_, hq5⟩ := hA.get hx4
      obtain ⟨ve5_0, rfl, ke5_0⟩ := hRe5_
      obtain ⟨Ae5_0, ce5_0, rfl, hAe5_0⟩ := ke5_0
      obtain ⟨hbe5_0, hbe5_1⟩ := hall x4 (List.mem_of_getElem? hx4)
      refine rw_indexAddr (i) rfl tyE_S_impl_Packet rfl rfl rfl (hA.some hi3) hi3 <| rw_loadX_s [_, _] rfl tyS_impl_Packet rfl rfl (fun w hs => hq5.lds0 (n := 2) hs rfl) <| AL rfl tyZ_impl_Packet <| fun b1 => ST (i := 0) [_, _] [_, _] tyS_impl_Packet.sz rfl rfl rfl rfl rfl rfl rfl rfl <| ND <| gw_draw' [(0, .det), (1, .det), (2, .det), (4, .det), (5, .det), (3, .add), (6, .add), (7, .det), (8, .add)] [9, 10] mixed rfl (free_det (free_det (free_det (free_det (free_det (free_add (free_add (free_det (free_add free_nil))))))))) (ts := [_, _]) rfl <| DT rfl rfl (fun K hk => MV rfl rfl hk) <| ?_
      refine DT rfl rfl (fun K hk => FA rfl tyF_impl_Packet_0 rfl hk) <| DT rfl rfl (fun K hk => LD (i := 0) rfl tyP_int rfl rfl rfl hk) <| DT rfl rfl (fun K hk => FA rfl tyF_impl_Packet_1 rfl hk) <| DT rfl rfl (fun K hk => LD (i := 0) rfl tyP_S_impl_Frame rfl rfl rfl hk) <| DA rfl rfl (fun K hk => rw_slice0D rfl tyM_S_impl_Frame (PlO Frame'.cells) hk) <| fun v6 ch6 how6 => ?_
      obtain ⟨how6, rfl⟩ := how6
      refine DA rfl rfl (fun K hk => rw_appendP rfl tyM_S_impl_Frame eFrame (fun _ => rfl) rfl rfl how6 (fun w hs => hAe5_0.sat Pl.keeps hs) (.refl _) (by first | omega | (simp; omega)) hk) <| fun v7 ch7 how7 => ?_
      obtain ⟨R8, rc8, rfl, hR8, hrd8⟩ := (OwA.s (l := x4.frames) how7).shape eFrame
      refine DT rfl rfl (fun K hk => rw_build [_, _] rfl tyB_impl_Packet tyZ_impl_Packet rfl rfl hk) <| DA rfl rfl (fun K hk => rw_slice1F (xs := [(0, _)]) [_, _] rfl tyM_S_impl_Packet rfl rfl rfl hk) <| fun v9 ch9 how9 => ?_
      obtain ⟨bl9, rfl, hch9⟩ := how9
      refine dw_nil <| ?_
      have hpm11 : (ch9 ++ (ch7 ++ (ch ++ ([])))).Perm (ch ++ ((ch7) ++ (ch9 ++ ([])))) := by
        refine List.Perm.trans (((((((((List.Perm.refl _)).append_left _).trans (pullc _ _ _))).append_left _).trans (pullc _ _ _)).trans ((((((List.Perm.refl _)).append_left _).trans (pullc _ _ _)).trans ((List.Perm.refl _).append_left _)).append_left _)) : (ch9 ++ (ch7 ++ (ch ++ ([])))).Perm (ch ++ (ch7 ++ (ch9 ++ ([]))))) (List.Perm.of_eq ?_)
        simp only []
      refine rw_append1F (a := x4) (ch2 := ch7) (F2 := ch9 ++ ([])) rfl tyM_S_impl_Packet ePacket rfl rfl (mem_ch hch9 (fun c hc => List.mem_append_left _ hc)) hO ⟨_, _, rfl, (OwA.s (l := x4.frames) how7), rfl⟩ hpm11 (by simp only [List.length_take]; omega) <| fun v10 ch10 how10 => AS rfl rfl <| ND <| IB <| RG <| rw_add rfl rfl rfl <| MV rfl rfl <| ND <| ?_
      refine gw_dropF (F' := ch10 ++ ([])) (List.Sublist.append_left (List.nil_sublist _) _) <| gw_dropN 1 <| ?_
      refine gw_sub (Sub.consE (i := 9) rfl (int_succ (by omega)) (Sub.consE (i := 3) rfl rfl (Sub.cons (i := 2) rfl (Sub.cons (i := 7) rfl (Sub.cons (i := 8) rfl (Sub.nil _)))))) (ih2 (i + 1, v10, ch10) ?_ ?_)
      · exact ⟨by omega, by rw [take_snoc hx4]; exact how10⟩
      · show l.length - (i + 1) < l.length - i; omega
    · have hn12 := nil_of_dec h1
      refine EX rfl <| SQ <| RG <| MV rfl rfl <| AS rfl rfl <| ND <| ?_
      refine ret_cn ch Try.func160 (res1 Try.func160 rfl (rv_tmp rfl)) ?_ ?_
      · rw [take_all hn12] at hO; exact OwA.s hO
      · simp

set_option maxHeartbeats 4000000 in
theorem impl_copyConn {w : World} {cs : List Value} {x : Conn} (hv : RdConn w cs x) (hb : x.le 1048576) : CN Try.prog 97 [.agg cs.toArray] w (OwV OwConn x) := by
  obtain ⟨v0, v1, rfl, k0, k1⟩ := hv
  obtain ⟨A0, c0, rfl, hA0⟩ := k0
  obtain ⟨A1, c1, rfl, hA1⟩ := k1
  obtain ⟨hb0, hb1, hb2, hb3⟩ := hb
  refine cn_of Try.func97 rfl rfl rfl <| SQ <| RG <| BX [_, _, _, _, _, _, _, _, _, _, _, _, _, _, _, _, _, _, _, _, _, _, _, _, _, _, _, _, _, _, _, _, _, _, _, _, _, _, _, _, _, _, _, _, _, _, _, _, _, _] rfl rfl rfl <| fun b1 => AL rfl tyZ_impl_Conn <| fun b2 => ND <| SQ <| gw_draw' [(0, .det), (1, .det), (3, .det), (4, .det), (2, .add), (6, .det), (5, .add)] [7, 8, 9] mixed rfl (free_det (free_det (free_det (free_det (free_add (free_det (free_add free_nil))))))) (ts := [_, _, _]) rfl <| DT rfl rfl (fun K hk => FA rfl tyF_impl_Conn_3 rfl hk) <| DT rfl rfl (fun K hk => LD (i := 1) rfl tyP_S_impl_Stream rfl rfl rfl hk) <| ?_
  refine DT rfl rfl (fun K hk => FA rfl tyF_impl_Conn_15 rfl hk) <| DT rfl rfl (fun K hk => LD (i := 1) rfl tyP_S_impl_Packet rfl rfl rfl hk) <| DA rfl rfl (fun K hk => CN1 rfl fun_impl_copyStreams rfl (fun w hs => impl_copyStreams (hA0.s RdStream.keeps hs) hb0 hb1) hk) <| fun v1 ch1 how1 => ?_
  obtain ⟨R1, rc1, rfl, hR1, hrd1⟩ := how1.shape eStream
  refine DT rfl rfl (fun K hk => FA rfl tyF_impl_Conn_3 rfl hk) <| DA rfl rfl (fun K hk => CN1 rfl fun_impl_copyPackets rfl (fun w hs => impl_copyPackets (hA1.s RdPacket.keeps hs) hb2 hb3) hk) <| fun v2 ch2 how2 => ?_
  obtain ⟨R2, rc2, rfl, hR2, hrd2⟩ := how2.shape ePacket
  refine dw_nil <| rw_storeN (i := 1) [_] [_, _, _, _, _, _, _, _, _, _, _, _, _, _, _, _, _, _, _, _, _, _, _, _, _, _, _, _, _, _, _, _, _, _, _, _, _, _, _, _, _, _, _, _, _, _, _, _, _, _] [_, _] tyP_S_impl_Stream.sz rfl rfl rfl rfl rfl rfl rfl rfl rfl <| FA rfl tyF_impl_Conn_15 rfl <| rw_storeN (i := 1) [_] [_, _, _, _, _, _, _, _, _, _, _, _, _, _, _, _, _, _, _, _, _, _, _, _, _, _, _, _, _, _, _, _, _, _, _, _, _, _, _, _, _, _, _, _, _, _, _, _, _, _] [_, _] tyP_S_impl_Packet.sz rfl rfl rfl rfl rfl rfl rfl rfl rfl <| ND <| SQ <| RG <| LS (i := 1) [_, _, _, _, _, _, _, _, _, _, _, _, _, _, _, _, _, _, _, _, _, _, _, _, _, _, _, _, _, _, _, _, _, _, _, _, _, _, _, _, _, _, _, _, _, _, _, _, _, _] rfl tyS_impl_Conn rfl rfl rfl rfl <| ?_
  refine rw_storeN (i := 0) [_, _, _, _, _, _, _, _, _, _, _, _, _, _, _, _, _, _, _, _, _, _, _, _, _, _, _, _, _, _, _, _, _, _, _, _, _, _, _, _, _, _, _, _, _, _, _, _, _, _] [_, _, _, _, _, _, _, _, _, _, _, _, _, _, _, _, _, _, _, _, _, _, _, _, _, _, _, _, _, _, _, _, _, _, _, _, _, _, _, _, _, _, _, _, _, _, _, _, _, _] [_, _] tyS_impl_Conn.sz rfl rfl rfl rfl rfl rfl rfl rfl rfl <| ND <| ?_
  refine ret_cnP (ch := ch1 ++ (ch2)) (G := ch1 ++ (ch2 ++ ([]))) (F' := []) Try.func97 (res1 Try.func97 rfl (rv_s (i := 0) [_, _, _, _, _, _, _, _, _, _, _, _, _, _, _, _, _, _, _, _, _, _, _, _, _, _, _, _, _, _, _, _, _, _, _, _, _, _, _, _, _, _, _, _, _, _, _, _, _, _] tyS_impl_Conn rfl rfl rfl rfl)) ?_ ?_ ?_
  · exact ⟨_, rfl, _, _, _, _, rfl, how1, how2, rfl⟩
  · exact (((((List.Perm.refl _)).append_left _).trans (pullc _ _ _)).trans (((List.Perm.refl _).trans ((List.Perm.refl _).append_left _)).append_left _))
  · simp only [List.append_assoc]

set_option maxHeartbeats 2000000 in
theorem spec_l17Packets {w : World} {v : Value} {l : List Packet} (hv : RdS w 2 RdPacket v l) (hb : l.length ≤ 1048576) (hall : ∀ x ∈ l, x.le 1048576) : CN Try.prog 159 [v] w (fun v ch => OwS 195 2 OwPacket v l ch) := by
  obtain ⟨A, c, rfl, hA⟩ := hv
  refine cn_of Try.func159 rfl rfl rfl <| SQ <| RG <| AS rfl rfl <| ND <| SQ <| RG <| rw_slice0 rfl tyM_S_impl_Packet OwPacket <| fun v1 how1 => AS rfl rfl <| ND <| SQ <| SQ <| RG <| AS rfl rfl <| ND <| BK <| ?_
  refine gw_loopX (α := Nat × Value × List Ck) (fun z_ => z_.1 ≤ l.length ∧ OwA 195 2 OwPacket z_.2.1 (l.take z_.1) z_.2.2) (fun z_ => l.length - z_.1) (fun e z_ => (4, .int .i64 (z_.1 : Int)) :: (3, z_.2.1) :: e) (fun B _ => B) (fun F z_ => z_.2.2 ++ ([])) (0, v1, []) [(0, _), (2, _)] (Sub.consE rfl rfl (Sub.consE rfl rfl (Sub.cons (i := 0) rfl (Sub.cons (i := 2) rfl (Sub.nil _))))) rfl rfl ?_ ?_
  · exact ⟨Nat.zero_le _, how1⟩
  · rintro ⟨i, v, ch⟩ hI2 ih2
    dsimp only at hI2
    dsimp only
    obtain ⟨hle, hO⟩ := hI2
    refine SQ <| SQ <| RG <| MV rfl rfl <| MV rfl rfl <| rw_len rfl tyE_S_impl_Packet rfl <| rw_lss rfl rfl rfl <| ND <| ?_
    refine gw_cond rfl (fun h1 => ?_) (fun h1 => ?_)
    · have hi3 := lt_of_dec h1
      obtain ⟨x4, hx4⟩ := get_of_lt hi3
      have hd4 := drop_cons hx4
      refine SK <| SQ <| BK <| gw_draw' [(0, .det), (1, .det), (2, .det), (3, .det), (4, .det), (5, .det), (7, .det), (8, .det), (9, .det), (10, .det), (11, .det), (6, .add), (12, .add), (13, .det), (14, .add)] [15, 16] mixed rfl (free_det (free_det (free_det (free_det (free_det (free_det (free_det (free_det (free_det (free_det (free_det (free_add (free_add (free_det (free_add free_nil))))))))))))))) (ts := [_, _]) rfl <| DT rfl rfl (fun K hk => MV rfl rfl hk) <| DT rfl rfl (fun K hk => MV rfl rfl hk) <| DT rfl rfl (fun K hk => MV rfl rfl hk) <| ?_
      obtain ⟨cse5_, hRe5_, hq5⟩ := hA.get hx4
      obtain ⟨ve5_0, rfl, ke5_0⟩ := hRe5_
      obtain ⟨Ae5_0, ce5_0, rfl, hAe5_0⟩ := ke5_0
      obtain ⟨hbe5_0, hbe5_1⟩ := hall x4 (List.mem_of_getElem? hx4)
      refine DT rfl rfl (fun K hk => rw_indexAddr (i) rfl tyE_S_impl_Packet rfl rfl rfl (hA.some hi3) hi3 hk) <| DT rfl rfl (fun K hk => FX rfl tyF_impl_Packet_0 rfl hk) <| DT rfl rfl (fun K hk => rw_loadX _ rfl tyP_int rfl (fun w hs => hq5.ld hs rfl) hk) <| DT rfl rfl (fun K hk => MV rfl rfl hk) <| DT rfl rfl (fun K hk => MV rfl rfl hk) <| DT rfl rfl (fun K hk => rw_indexAddr (i) rfl tyE_S_impl_Packet rfl rfl rfl (hA.some hi3) hi3 hk) <| DT rfl rfl (fun K hk => FX rfl tyF_impl_Packet_1 rfl hk) <| DT rfl rfl (fun K hk => rw_loadX _ rfl tyP_S_impl_Frame rfl (fun w hs => hq5.ld hs rfl) hk) <| ?_
      refine DA rfl rfl (fun K hk => rw_slice0D rfl tyM_S_impl_Frame (PlO Frame'.cells) hk) <| fun v6 ch6 how6 => ?_
      obtain ⟨how6, rfl⟩ := how6
      refine DA rfl rfl (fun K hk => rw_appendP rfl tyM_S_impl_Frame eFrame (fun _ => rfl) rfl rfl how6 (fun w hs => hAe5_0.sat Pl.keeps hs) (.refl _) (by first | omega | (simp; omega)) hk) <| fun v7 ch7 how7 => ?_
      obtain ⟨R8, rc8, rfl, hR8, hrd8⟩ := (OwA.s (l := x4.frames) how7).shape eFrame
      refine DT rfl rfl (fun K hk => rw_build [_, _] rfl tyB_impl_Packet tyZ_impl_Packet rfl rfl hk) <| DA rfl rfl (fun K hk => rw_slice1F (xs := [(0, _)]) [_, _] rfl tyM_S_impl_Packet rfl rfl rfl hk) <| fun v9 ch9 how9 => ?_
      obtain ⟨bl9, rfl, hch9⟩ := how9
      refine dw_nil <| ?_
      have hpm11 : (ch9 ++ (ch7 ++ (ch ++ ([])))).Perm (ch ++ ((ch7) ++ (ch9 ++ ([])))) := by
        refine List.Perm.trans (((((((((List.Perm.refl _)).append_left _).trans (pullc _ _ _))).append_left _).trans (pullc _ _ _)).trans ((((((List.Perm.refl _)).append_left _).trans (pullc _ _ _)).trans ((List.Perm.refl _).append_left _)).append_left _)) : (ch9 ++ (ch7 ++ (ch ++ ([])))).Perm (ch ++ (ch7 ++ (ch9 ++ ([]))))) (List.Perm.of_eq ?_)
        simp only []
      refine rw_append1F (a := x4) (ch2 := ch7) (F2 := ch9 ++ ([])) rfl tyM_S_impl_Packet ePacket rfl rfl (mem_ch hch9 (fun c hc => List.mem_append_left _ hc)) hO ⟨_, _, rfl, (OwA.s (l := x4.frames) how7), rfl⟩ hpm11 (by simp only [List.length_take]; omega) <| fun v10 ch10 how10 => AS rfl rfl <| ND <| IB <| RG <| MV rfl rfl <| rw_add rfl rfl rfl <| AS rfl rfl <| ND <| ?_
      refine gw_dropF (F' := ch10 ++ ([])) (List.Sublist.append_left (List.nil_sublist _) _) <| ?_
      refine gw_sub (Sub.consE (i := 4) rfl (int_succ (by omega)) (Sub.consE (i := 3) rfl rfl (Sub.cons (i := 0) rfl (Sub.cons (i := 2) rfl (Sub.nil _))))) (ih2 (i + 1, v10, ch10) ?_ ?_)
      · exact ⟨by omega, by rw [take_snoc hx4]; exact how10⟩
      · show l.length - (i + 1) < l.length - i; omega
    · have hn12 := nil_of_dec h1
      refine EX rfl <| SQ <| RG <| MV rfl rfl <| AS rfl rfl <| ND <| ?_
      refine ret_cn ch Try.func159 (res1 Try.func159 rfl (rv_tmp rfl)) ?_ ?_
      · rw [take_all hn12] at hO; exact OwA.s hO
      · simp

theorem laws_szIntS {w : World} {v : Value} {l : List Int} (hv : RdS w 1 (Pl intC) v l) (n : Int) : CV Try.prog 191 [v, .int .i64 n] w (.int .i64 (szLen l n)) := by
  obtain ⟨A, c, rfl, hA⟩ := hv
  refine cv_of Try.func191 rfl rfl rfl <| SQ <| RG <| AS rfl rfl <| ND <| SQ <| RG <| MV rfl rfl <| MV rfl rfl <| rw_len rfl tyE_S_int rfl <| rw_sub rfl rfl rfl <| AS rfl rfl <| ND <| SQ <| SQ <| RG <| MV rfl rfl <| rw_lss rfl rfl rfl <| ND <| ?_
  refine gw_cond rfl (fun h1 => ?_) (fun h1 => ?_)
  · refine SQ <| RG <| AS rfl rfl <| ND <| ret_cv Try.func191 (res1 Try.func191 rfl (rv_tmp rfl)) <| ?_
    simp only [szLen, h1] <;> rfl
  · refine SK <| SQ <| RG <| MV rfl rfl <| AS rfl rfl <| ND <| ret_cv Try.func191 (res1 Try.func191 rfl (rv_tmp rfl)) <| ?_
    simp only [szLen, h1] <;> rfl

theorem laws_szRing {w : World} {cs : List Value} {x : Ring} (hv : RdRing w cs x) (n : Int) (hb : x.le 9223372036854775807) (h0 : 0 ≤ n) (hn : n ≤ 1048576) : CV Try.prog 125 [.agg cs.toArray, .int .i64 n] w (.int .i64 (szRing x n)) := by
  obtain ⟨v0, rfl, k0⟩ := hv
  obtain ⟨A0, c0, rfl, hA0⟩ := k0
  have hb0 : x.cells.length ≤ 9223372036854775807 := hb
  refine cv_of Try.func125 rfl rfl rfl <| SQ <| RG <| BX [_, _, _, _] rfl rfl rfl <| fun b1 => AS rfl rfl <| ND <| SQ <| RG <| FA rfl tyF_laws_Ring_3 rfl <| LD (i := 0) rfl tyP_S_int rfl rfl rfl <| MV rfl rfl <| CV1 rfl fun_laws_szIntS rfl (fun w hs => laws_szIntS (hA0.s Pl.keeps hs) _) <| AS rfl rfl <| ND <| SQ <| SQ <| RG <| MV rfl rfl <| rw_lss rfl rfl rfl <| ND <| ?_
  refine gw_cond rfl (fun h1 => ?_) (fun h1 => ?_)
  · refine SQ <| RG <| AS rfl rfl <| ND <| ret_cv Try.func125 (res1 Try.func125 rfl (rv_tmp rfl)) <| ?_
    simp [szRing, id, thenSz, h1]
  · have hnn1 := nn_of h1
    obtain ⟨hle1, hz1_0⟩ := szLen_ok (by first | omega | assumption) (by omega) (by omega) hnn1
    refine SK <| SQ <| RG <| MV rfl rfl <| AS rfl rfl <| ND <| ret_cv Try.func125 (res1 Try.func125 rfl (rv_tmp rfl)) <| ?_
    simp [szRing, id, thenSz, h1]

theorem laws_szRangeS {w : World} {v : Value} {l : List Range} (hv : RdS w 2 (Pl Range.cells) v l) (n : Int) : CV Try.prog 126 [v, .int .i64 n] w (.int .i64 (szLen l n)) := by
  obtain ⟨A, c, rfl, hA⟩ := hv
  refine cv_of Try.func126 rfl rfl rfl <| SQ <| RG <| AS rfl rfl <| ND <| SQ <| RG <| MV rfl rfl <| MV rfl rfl <| rw_len rfl tyE_S_laws_Range rfl <| rw_sub rfl rfl rfl <| AS rfl rfl <| ND <| SQ <| SQ <| RG <| MV rfl rfl <| rw_lss rfl rfl rfl <| ND <| ?_
  refine gw_cond rfl (fun h1 => ?_) (fun h1 => ?_)
  · refine SQ <| RG <| AS rfl rfl <| ND <| ret_cv Try.func126 (res1 Try.func126 rfl (rv_tmp rfl)) <| ?_
    simp only [szLen, h1] <;> rfl
  · refine SK <| SQ <| RG <| MV rfl rfl <| AS rfl rfl <| ND <| ret_cv Try.func126 (res1 Try.func126 rfl (rv_tmp rfl)) <| ?_
    simp only [szLen, h1] <;> rfl

theorem laws_szSender {w : World} {cs : List Value} {x : Sender} (hv : RdSender w cs x) (n : Int) (hb : x.le 9223372036854775807) (h0 : 0 ≤ n) (hn : n ≤ 1048576) : CV Try.prog 48 [.agg cs.toArray, .int .i64 n] w (.int .i64 (szSender x n)) := by
  obtain ⟨v0, v1, v2, v3, rfl, k0, k1, k2, k3⟩ := hv
  obtain ⟨A0, c0, rfl, hA0⟩ := k0
  obtain ⟨A1, c1, rfl, hA1⟩ := k1
  obtain ⟨A2, c2, rfl, hA2⟩ := k2
  obtain ⟨A3, c3, rfl, hA3⟩ := k3
  obtain ⟨hb0, hb1, hb2, hb3⟩ := hb
  refine cv_of Try.func48 rfl rfl rfl <| SQ <| RG <| BX [_, _, _, _, _, _, _, _, _, _, _, _] rfl rfl rfl <| fun b1 => AS rfl rfl <| ND <| SQ <| RG <| FA rfl tyF_laws_Sender_1 rfl <| LS (i := 0) [_, _, _, _] rfl tyS_laws_Ring rfl rfl rfl rfl <| MV rfl rfl <| CV1 rfl fun_laws_szRing rfl (fun w hs => laws_szRing ⟨_, rfl, (hA0.s Pl.keeps hs)⟩ _ (show _ ≤ _ by first | omega | assumption) (by omega) (by omega)) <| AS rfl rfl <| ND <| SQ <| SQ <| RG <| MV rfl rfl <| rw_lss rfl rfl rfl <| ND <| ?_
  refine gw_cond rfl (fun h1 => ?_) (fun h1 => ?_)
  · refine SQ <| RG <| AS rfl rfl <| ND <| ret_cv Try.func48 (res1 Try.func48 rfl (rv_tmp rfl)) <| ?_
    simp [szSender, id, thenSz, h1]
  · have hnn1 := nn_of h1
    obtain ⟨hle1, hz1_0⟩ := szRing_ok (show _ ≤ _ by first | omega | assumption) (by omega) (by omega) hnn1
    replace hz1_0 : x.ring.cells.length ≤ 1048576 := hz1_0
    refine SK <| SQ <| RG <| FA rfl tyF_laws_Sender_2 rfl <| LD (i := 0) rfl tyP_S_laws_Range rfl rfl rfl <| MV rfl rfl <| CV1 rfl fun_laws_szRangeS rfl (fun w hs => laws_szRangeS (hA1.s Pl.keeps hs) _) <| AS rfl rfl <| ND <| SQ <| SQ <| RG <| MV rfl rfl <| rw_lss rfl rfl rfl <| ND <| ?_
    refine gw_cond rfl (fun h2 => ?_) (fun h2 => ?_)
    · refine SQ <| RG <| AS rfl rfl <| ND <| ret_cv Try.func48 (res1 Try.func48 rfl (rv_tmp rfl)) <| ?_
      simp [szSender, id, thenSz, h1, h2]
    · have hnn2 := nn_of h2
      obtain ⟨hle2, hz2_0⟩ := szLen_ok (by first | omega | assumption) (by omega) (by omega) hnn2
      refine SK <| SQ <| RG <| FA rfl tyF_laws_Sender_3 rfl <| LD (i := 0) rfl tyP_S_laws_Range rfl rfl rfl <| MV rfl rfl <| CV1 rfl fun_laws_szRangeS rfl (fun w hs => laws_szRangeS (hA2.s Pl.keeps hs) _) <| AS rfl rfl <| ND <| SQ <| SQ <| RG <| MV rfl rfl <| rw_lss rfl rfl rfl <| ND <| ?_
      refine gw_cond rfl (fun h3 => ?_) (fun h3 => ?_)
      · refine SQ <| RG <| AS rfl rfl <| ND <| ret_cv Try.func48 (res1 Try.func48 rfl (rv_tmp rfl)) <| ?_
        simp [szSender, id, thenSz, h1, h2, h3]
      · have hnn3 := nn_of h3
        obtain ⟨hle3, hz3_0⟩ := szLen_ok (by first | omega | assumption) (by omega) (by omega) hnn3
        refine SK <| SQ <| RG <| FA rfl tyF_laws_Sender_4 rfl <| LD (i := 0) rfl tyP_S_laws_Range rfl rfl rfl <| MV rfl rfl <| CV1 rfl fun_laws_szRangeS rfl (fun w hs => laws_szRangeS (hA3.s Pl.keeps hs) _) <| AS rfl rfl <| ND <| SQ <| SQ <| RG <| MV rfl rfl <| rw_lss rfl rfl rfl <| ND <| ?_
        refine gw_cond rfl (fun h4 => ?_) (fun h4 => ?_)
        · refine SQ <| RG <| AS rfl rfl <| ND <| ret_cv Try.func48 (res1 Try.func48 rfl (rv_tmp rfl)) <| ?_
          simp [szSender, id, thenSz, h1, h2, h3, h4]
        · have hnn4 := nn_of h4
          obtain ⟨hle4, hz4_0⟩ := szLen_ok (by first | omega | assumption) (by omega) (by omega) hnn4
          refine SK <| SQ <| RG <| MV rfl rfl <| AS rfl rfl <| ND <| ret_cv Try.func48 (res1 Try.func48 rfl (rv_tmp rfl)) <| ?_
          simp [szSender, id, thenSz, h1, h2, h3, h4]

theorem laws_szChunk (p : Chunk) (n : Int) (w : World) : CV Try.prog 213 [.agg p.cells.toArray, .int .i64 n] w (.int .i64 (szStr p.data n)) := by
  refine cv_of Try.func213 rfl rfl rfl <| SQ <| RG <| BX [_, _] rfl rfl rfl <| fun b1 => AS rfl rfl <| ND <| SQ <| RG <| MV rfl rfl <| FA rfl tyF_laws_Chunk_1 rfl <| LD (i := 0) rfl tyP_string rfl rfl rfl <| rw_lenS rfl (by kernel_rfl) rfl <| rw_sub rfl rfl rfl <| AS rfl rfl <| ND <| SQ <| SQ <| RG <| MV rfl rfl <| rw_lss rfl rfl rfl <| ND <| ?_
  refine gw_cond rfl (fun h1 => ?_) (fun h1 => ?_)
  · refine SQ <| RG <| AS rfl rfl <| ND <| ret_cv Try.func213 (res1 Try.func213 rfl (rv_tmp rfl)) <| ?_
    simp only [szStr, h1] <;> rfl
  · refine SK <| SQ <| RG <| MV rfl rfl <| AS rfl rfl <| ND <| ret_cv Try.func213 (res1 Try.func213 rfl (rv_tmp rfl)) <| ?_
    simp only [szStr, h1] <;> rfl

theorem laws_szChunkS {w : World} {v : Value} {l : List Chunk} (hv : RdS w 2 (Pl Chunk.cells) v l) (n : Int) (hb : l.length ≤ 9223372036854775807) (hp : ∀ y ∈ l, y.data.size ≤ 9223372036854775807) (h0 : 0 ≤ n) (hn : n ≤ 1048576) : CV Try.prog 192 [v, .int .i64 n] w (.int .i64 (szChunks l n)) := by
  obtain ⟨A, c, rfl, hA⟩ := hv
  refine cv_of Try.func192 rfl rfl rfl <| SQ <| RG <| AS rfl rfl <| ND <| SQ <| RG <| MV rfl rfl <| MV rfl rfl <| rw_len rfl tyE_S_laws_Chunk rfl <| rw_sub rfl rfl rfl <| AS rfl rfl <| ND <| SQ <| SQ <| RG <| MV rfl rfl <| rw_lss rfl rfl rfl <| ND <| ?_
  refine gw_cond rfl (fun h1 => ?_) (fun h1 => ?_)
  · refine SQ <| RG <| AS rfl rfl <| ND <| ret_cv Try.func192 (res1 Try.func192 rfl (rv_tmp rfl)) <| ?_
    exact congrArg _ (sz_neg h1 _).symm
  · refine SK <| SQ <| SQ <| RG <| AS rfl rfl <| ND <| BK <| ?_
    refine gw_loopC (α := Nat × Int) (fun z_ => z_.1 ≤ l.length ∧ (0 ≤ z_.2 ∧ z_.2 ≤ 1048576) ∧ szChunks l n = szAll (fun c a => szStr c.data a) (l.drop z_.1) z_.2) (fun z_ => l.length - z_.1) (fun e z_ => (5, .int .i64 (z_.1 : Int)) :: (1, .int .i64 z_.2) :: e) (0, w64 (n - l.length)) [(0, _)] (Sub.consE rfl rfl (Sub.consE rfl rfl (Sub.cons (i := 0) rfl (Sub.nil _)))) ?_ ?_
    · exact ⟨Nat.zero_le _, (sz_start hb h0 hn h1).1, (sz_start hb h0 hn h1).2 _⟩
    · rintro ⟨i, a⟩ hI1 ih1
      dsimp only at hI1
      dsimp only
      have hbn := (sz_start hb h0 hn h1).1
      obtain ⟨hle, ha, hI⟩ := hI1
      refine SQ <| SQ <| RG <| MV rfl rfl <| MV rfl rfl <| rw_len rfl tyE_S_laws_Chunk rfl <| rw_lss rfl rfl rfl <| ND <| ?_
      refine gw_cond rfl (fun h2 => ?_) (fun h2 => ?_)
      · have hi2 := lt_of_dec h2
        obtain ⟨x3, hx3⟩ := get_of_lt hi2
        have hd3 := drop_cons hx3
        refine SK <| SQ <| BK <| SQ <| RG <| MV rfl rfl <| MV rfl rfl <| ?_
        have hq4 := hA.plain hx3
        have ha4 := hp x3 (List.mem_of_getElem? hx3)
        refine rw_indexAddr (i) rfl tyE_S_laws_Chunk rfl rfl rfl (hA.some hi2) hi2 <| rw_loadX_s [_, _] rfl tyS_laws_Chunk rfl rfl (fun w hs => hq4.lds0 (n := 2) hs rfl) <| MV rfl rfl <| CV1 rfl fun_laws_szChunk rfl (fun w hs => laws_szChunk _ _ w) <| AS rfl rfl <| ND <| SQ <| RG <| MV rfl rfl <| rw_lss rfl rfl rfl <| ND <| ?_
        refine gw_cond rfl (fun h3 => ?_) (fun h3 => ?_)
        · refine SQ <| RG <| AS rfl rfl <| ND <| ret_cv Try.func192 (res1 Try.func192 rfl (rv_tmp rfl)) <| ?_
          rw [hI, hd3]; simp [szAll, thenSz, h3]
        · have hnn5 := nn_of h3
          obtain ⟨hle5, hz5_0⟩ := szStr_ok (by first | omega | assumption) (by omega) (by omega) hnn5
          refine SK <| IB <| RG <| MV rfl rfl <| rw_add rfl rfl rfl <| AS rfl rfl <| ND <| ?_
          refine gw_sub (Sub.consE (i := 5) rfl (int_succ (by omega)) (Sub.consE (i := 1) rfl rfl (Sub.cons (i := 0) rfl (Sub.nil _)))) (ih1 (i + 1, szStr x3.data a) ?_ ?_)
          · exact ⟨by omega, ⟨nn_of h3, by omega⟩, by rw [hI, hd3]; simp [szAll, thenSz, h3]⟩
          · show l.length - (i + 1) < l.length - i; omega
      · have hn6 := nil_of_dec h2
        refine EX rfl <| SQ <| RG <| MV rfl rfl <| AS rfl rfl <| ND <| ret_cv Try.func192 (res1 Try.func192 rfl (rv_tmp rfl)) <| ?_
        rw [hI, hn6]; rfl

theorem laws_szBuffer {w : World} {cs : List Value} {x : Buffer} (hv : RdBuffer w cs x) (n : Int) (hb : x.le 9223372036854775807) (h0 : 0 ≤ n) (hn : n ≤ 1048576) : CV Try.prog 127 [.agg cs.toArray, .int .i64 n] w (.int .i64 (szBuffer x n)) := by
  obtain ⟨v0, rfl, k0⟩ := hv
  obtain ⟨A0, c0, rfl, hA0⟩ := k0
  obtain ⟨hb0, hb1⟩ := hb
  refine cv_of Try.func127 rfl rfl rfl <| SQ <| RG <| BX [_, _] rfl rfl rfl <| fun b1 => AS rfl rfl <| ND <| SQ <| RG <| FA rfl tyF_laws_Buffer_1 rfl <| LD (i := 0) rfl tyP_S_laws_Chunk rfl rfl rfl <| MV rfl rfl <| CV1 rfl fun_laws_szChunkS rfl (fun w hs => laws_szChunkS (hA0.s Pl.keeps hs) _ (by first | omega | assumption) (by first | omega | assumption) (by omega) (by omega)) <| AS rfl rfl <| ND <| SQ <| SQ <| RG <| MV rfl rfl <| rw_lss rfl rfl rfl <| ND <| ?_
  refine gw_cond rfl (fun h1 => ?_) (fun h1 => ?_)
  · refine SQ <| RG <| AS rfl rfl <| ND <| ret_cv Try.func127 (res1 Try.func127 rfl (rv_tmp rfl)) <| ?_
    simp [szBuffer, id, thenSz, h1]
  · have hnn1 := nn_of h1
    obtain ⟨hle1, hz1_0, hz1_1⟩ := szChunks_ok (by first | omega | assumption) (by first | omega | assumption) (by omega) (by omega) hnn1
    refine SK <| SQ <| RG <| MV rfl rfl <| AS rfl rfl <| ND <| ret_cv Try.func127 (res1 Try.func127 rfl (rv_tmp rfl)) <| ?_
    simp [szBuffer, id, thenSz, h1]

theorem laws_szReceiver {w : World} {cs : List Value} {x : Receiver} (hv : RdReceiver w cs x) (n : Int) (hb : x.le 9223372036854775807) (h0 : 0 ≤ n) (hn : n ≤ 1048576) : CV Try.prog 49 [.agg cs.toArray, .int .i64 n] w (.int .i64 (szReceiver x n)) := by
  obtain ⟨v0, rfl, k0⟩ := hv
  obtain ⟨A0, c0, rfl, hA0⟩ := k0
  obtain ⟨hb0, hb1⟩ := hb
  refine cv_of Try.func49 rfl rfl rfl <| SQ <| RG <| BX [_, _, _, _, _, _] rfl rfl rfl <| fun b1 => AS rfl rfl <| ND <| SQ <| RG <| FA rfl tyF_laws_Receiver_1 rfl <| LS (i := 0) [_, _] rfl tyS_laws_Buffer rfl rfl rfl rfl <| MV rfl rfl <| CV1 rfl fun_laws_szBuffer rfl (fun w hs => laws_szBuffer ⟨_, rfl, (hA0.s Pl.keeps hs)⟩ _ ⟨by first | omega | assumption, by first | omega | assumption⟩ (by omega) (by omega)) <| AS rfl rfl <| ND <| SQ <| SQ <| RG <| MV rfl rfl <| rw_lss rfl rfl rfl <| ND <| ?_
  refine gw_cond rfl (fun h1 => ?_) (fun h1 => ?_)
  · refine SQ <| RG <| AS rfl rfl <| ND <| ret_cv Try.func49 (res1 Try.func49 rfl (rv_tmp rfl)) <| ?_
    simp [szReceiver, id, thenSz, h1]
  · have hnn1 := nn_of h1
    obtain ⟨hle1, hz1_0, hz1_1⟩ := szBuffer_ok ⟨by first | omega | assumption, by first | omega | assumption⟩ (by omega) (by omega) hnn1
    refine SK <| SQ <| RG <| MV rfl rfl <| AS rfl rfl <| ND <| ret_cv Try.func49 (res1 Try.func49 rfl (rv_tmp rfl)) <| ?_
    simp [szReceiver, id, thenSz, h1]

theorem laws_szStream {w : World} {cs : List Value} {x : Stream} (hv : RdStream w cs x) (n : Int) (hb : x.le 9223372036854775807) (h0 : 0 ≤ n) (hn : n ≤ 1048576) : CV Try.prog 9 [.agg cs.toArray, .int .i64 n] w (.int .i64 (szStream x n)) := by
  obtain ⟨v0, v1, v2, v3, v4, rfl, k0, k1, k2, k3, k4⟩ := hv
  obtain ⟨A0, c0, rfl, hA0⟩ := k0
  obtain ⟨A1, c1, rfl, hA1⟩ := k1
  obtain ⟨A2, c2, rfl, hA2⟩ := k2
  obtain ⟨A3, c3, rfl, hA3⟩ := k3
  obtain ⟨A4, c4, rfl, hA4⟩ := k4
  obtain ⟨hb0, hb1, hb2, hb3, hb4, hb5⟩ := hb
  refine cv_of Try.func9 rfl rfl rfl <| SQ <| RG <| BX [_, _, _, _, _, _, _, _, _, _, _, _, _, _, _, _, _, _, _, _, _, _, _, _, _, _, _, _, _, _, _, _, _, _, _, _, _, _, _] rfl rfl rfl <| fun b1 => AS rfl rfl <| ND <| SQ <| RG <| FA rfl tyF_laws_Stream_1 rfl <| LS (i := 0) [_, _, _, _, _, _, _, _, _, _, _, _] rfl tyS_laws_Sender rfl rfl rfl rfl <| MV rfl rfl <| CV1 rfl fun_laws_szSender rfl (fun w hs => laws_szSender ⟨_, _, _, _, rfl, (hA0.s Pl.keeps hs), (hA1.s Pl.keeps hs), (hA2.s Pl.keeps hs), (hA3.s Pl.keeps hs)⟩ _ ⟨by first | omega | assumption, by first | omega | assumption, by first | omega | assumption, by first | omega | assumption⟩ (by omega) (by omega)) <| ?_
  refine AS rfl rfl <| ND <| SQ <| SQ <| RG <| MV rfl rfl <| rw_lss rfl rfl rfl <| ND <| ?_
  refine gw_cond rfl (fun h1 => ?_) (fun h1 => ?_)
  · refine SQ <| RG <| AS rfl rfl <| ND <| ret_cv Try.func9 (res1 Try.func9 rfl (rv_tmp rfl)) <| ?_
    simp [szStream, id, thenSz, h1]
  · have hnn1 := nn_of h1
    obtain ⟨hle1, hz1_0, hz1_1, hz1_2, hz1_3⟩ := szSender_ok ⟨by first | omega | assumption, by first | omega | assumption, by first | omega | assumption, by first | omega | assumption⟩ (by omega) (by omega) hnn1
    refine SK <| SQ <| RG <| FA rfl tyF_laws_Stream_3 rfl <| LS (i := 0) [_, _, _, _, _, _] rfl tyS_laws_Receiver rfl rfl rfl rfl <| MV rfl rfl <| CV1 rfl fun_laws_szReceiver rfl (fun w hs => laws_szReceiver ⟨_, rfl, (hA4.s Pl.keeps hs)⟩ _ ⟨by first | omega | assumption, by first | omega | assumption⟩ (by omega) (by omega)) <| AS rfl rfl <| ND <| SQ <| SQ <| RG <| MV rfl rfl <| rw_lss rfl rfl rfl <| ND <| ?_
    refine gw_cond rfl (fun h2 => ?_) (fun h2 => ?_)
    · refine SQ <| RG <| AS rfl rfl <| ND <| ret_cv Try.func9 (res1 Try.func9 rfl (rv_tmp rfl)) <| ?_
      simp [szStream, id, thenSz, h1, h2]
    · have hnn2 := nn_of h2
      obtain ⟨hle2, hz2_0, hz2_1⟩ := szReceiver_ok ⟨by first | omega | assumption, by first | omega | assumption⟩ (by omega) (by omega) hnn2
      refine SK <| SQ <| RG <| MV rfl rfl <| AS rfl rfl <| ND <| ret_cv Try.func9 (res1 Try.func9 rfl (rv_tmp rfl)) <| ?_
      simp [szStream, id, thenSz, h1, h2]

theorem laws_szStreamS {w : World} {v : Value} {l : List Stream} (hv : RdS w 39 RdStream v l) (n : Int) (hb : l.length ≤ 9223372036854775807) (hp : ∀ y ∈ l, y.le 9223372036854775807) (h0 : 0 ≤ n) (hn : n ≤ 1048576) : CV Try.prog 14 [v, .int .i64 n] w (.int .i64 (szStreams l n)) := by
  obtain ⟨A, c, rfl, hA⟩ := hv
  refine cv_of Try.func14 rfl rfl rfl <| SQ <| RG <| AS rfl rfl <| ND <| SQ <| RG <| MV rfl rfl <| MV rfl rfl <| rw_len rfl tyE_S_laws_Stream rfl <| rw_sub rfl rfl rfl <| AS rfl rfl <| ND <| SQ <| SQ <| RG <| MV rfl rfl <| rw_lss rfl rfl rfl <| ND <| ?_
  refine gw_cond rfl (fun h1 => ?_) (fun h1 => ?_)
  · refine SQ <| RG <| AS rfl rfl <| ND <| ret_cv Try.func14 (res1 Try.func14 rfl (rv_tmp rfl)) <| ?_
    exact congrArg _ (sz_neg h1 _).symm
  · refine SK <| SQ <| SQ <| RG <| AS rfl rfl <| ND <| BK <| ?_
    refine gw_loopC (α := Nat × Int) (fun z_ => z_.1 ≤ l.length ∧ (0 ≤ z_.2 ∧ z_.2 ≤ 1048576) ∧ szStreams l n = szAll (szStream) (l.drop z_.1) z_.2) (fun z_ => l.length - z_.1) (fun e z_ => (5, .int .i64 (z_.1 : Int)) :: (1, .int .i64 z_.2) :: e) (0, w64 (n - l.length)) [(0, _)] (Sub.consE rfl rfl (Sub.consE rfl rfl (Sub.cons (i := 0) rfl (Sub.nil _)))) ?_ ?_
    · exact ⟨Nat.zero_le _, (sz_start hb h0 hn h1).1, (sz_start hb h0 hn h1).2 _⟩
    · rintro ⟨i, a⟩ hI1 ih1
      dsimp only at hI1
      dsimp only
      have hbn := (sz_start hb h0 hn h1).1
      obtain ⟨hle, ha, hI⟩ := hI1
      refine SQ <| SQ <| RG <| MV rfl rfl <| MV rfl rfl <| rw_len rfl tyE_S_laws_Stream rfl <| rw_lss rfl rfl rfl <| ND <| ?_
      refine gw_cond rfl (fun h2 => ?_) (fun h2 => ?_)
      · have hi2 := lt_of_dec h2
        obtain ⟨x3, hx3⟩ := get_of_lt hi2
        have hd3 := drop_cons hx3
        refine SK <| SQ <| BK <| SQ <| RG <| MV rfl rfl <| MV rfl rfl <| ?_
        obtain ⟨cse4_, hRe4_, hq4⟩ := hA.get hx3
        obtain ⟨ve4_0, ve4_1, ve4_2, ve4_3, ve4_4, rfl, ke4_0, ke4_1, ke4_2, ke4_3, ke4_4⟩ := hRe4_
        obtain ⟨Ae4_0, ce4_0, rfl, hAe4_0⟩ := ke4_0
        obtain ⟨Ae4_1, ce4_1, rfl, hAe4_1⟩ := ke4_1
        obtain ⟨Ae4_2, ce4_2, rfl, hAe4_2⟩ := ke4_2
        obtain ⟨Ae4_3, ce4_3, rfl, hAe4_3⟩ := ke4_3
        obtain ⟨Ae4_4, ce4_4, rfl, hAe4_4⟩ := ke4_4
        obtain ⟨hbe4_0, hbe4_1, hbe4_2, hbe4_3, hbe4_4, hbe4_5⟩ := hp x3 (List.mem_of_getElem? hx3)
        refine rw_indexAddr (i) rfl tyE_S_laws_Stream rfl rfl rfl (hA.some hi2) hi2 <| rw_loadX_s [_, _, _, _, _, _, _, _, _, _, _, _, _, _, _, _, _, _, _, _, _, _, _, _, _, _, _, _, _, _, _, _, _, _, _, _, _, _, _] rfl tyS_laws_Stream rfl rfl (fun w hs => hq4.lds0 (n := 39) hs rfl) <| MV rfl rfl <| CV1 rfl fun_laws_szStream rfl (fun w hs => laws_szStream ⟨_, _, _, _, _, rfl, (hAe4_0.s Pl.keeps hs), (hAe4_1.s Pl.keeps hs), (hAe4_2.s Pl.keeps hs), (hAe4_3.s Pl.keeps hs), (hAe4_4.s Pl.keeps hs)⟩ _ ⟨by first | omega | assumption, by first | omega | assumption, by first | omega | assumption, by first | omega | assumption, by first | omega | assumption, by first | omega | assumption⟩ (by omega) (by omega)) <| ?_
        refine AS rfl rfl <| ND <| SQ <| RG <| MV rfl rfl <| rw_lss rfl rfl rfl <| ND <| ?_
        refine gw_cond rfl (fun h3 => ?_) (fun h3 => ?_)
        · refine SQ <| RG <| AS rfl rfl <| ND <| ret_cv Try.func14 (res1 Try.func14 rfl (rv_tmp rfl)) <| ?_
          rw [hI, hd3]; simp [szAll, thenSz, h3]
        · have hnn5 := nn_of h3
          obtain ⟨hle5, hz5_0, hz5_1, hz5_2, hz5_3, hz5_4, hz5_5⟩ := szStream_ok ⟨by first | omega | assumption, by first | omega | assumption, by first | omega | assumption, by first | omega | assumption, by first | omega | assumption, by first | omega | assumption⟩ (by omega) (by omega) hnn5
          refine SK <| IB <| RG <| MV rfl rfl <| rw_add rfl rfl rfl <| AS rfl rfl <| ND <| ?_
          refine gw_sub (Sub.consE (i := 5) rfl (int_succ (by omega)) (Sub.consE (i := 1) rfl rfl (Sub.cons (i := 0) rfl (Sub.nil _)))) (ih1 (i + 1, szStream x3 a) ?_ ?_)
          · exact ⟨by omega, ⟨nn_of h3, by omega⟩, by rw [hI, hd3]; simp [szAll, thenSz, h3]⟩
          · show l.length - (i + 1) < l.length - i; omega
      · have hn6 := nil_of_dec h2
        refine EX rfl <| SQ <| RG <| MV rfl rfl <| AS rfl rfl <| ND <| ret_cv Try.func14 (res1 Try.func14 rfl (rv_tmp rfl)) <| ?_
        rw [hI, hn6]; rfl

theorem laws_szFrame (p : Frame') (n : Int) (w : World) : CV Try.prog 218 [.agg p.cells.toArray, .int .i64 n] w (.int .i64 (szStr p.data n)) := by
  refine cv_of Try.func218 rfl rfl rfl <| SQ <| RG <| BX [_, _, _, _, _, _, _, _, _] rfl rfl rfl <| fun b1 => AS rfl rfl <| ND <| SQ <| RG <| MV rfl rfl <| FA rfl tyF_laws_Frame_3 rfl <| LD (i := 0) rfl tyP_string rfl rfl rfl <| rw_lenS rfl (by kernel_rfl) rfl <| rw_sub rfl rfl rfl <| AS rfl rfl <| ND <| SQ <| SQ <| RG <| MV rfl rfl <| rw_lss rfl rfl rfl <| ND <| ?_
  refine gw_cond rfl (fun h1 => ?_) (fun h1 => ?_)
  · refine SQ <| RG <| AS rfl rfl <| ND <| ret_cv Try.func218 (res1 Try.func218 rfl (rv_tmp rfl)) <| ?_
    simp only [szStr, h1] <;> rfl
  · refine SK <| SQ <| RG <| MV rfl rfl <| AS rfl rfl <| ND <| ret_cv Try.func218 (res1 Try.func218 rfl (rv_tmp rfl)) <| ?_
    simp only [szStr, h1] <;> rfl

theorem laws_szFrameS {w : World} {v : Value} {l : List Frame'} (hv : RdS w 9 (Pl Frame'.cells) v l) (n : Int) (hb : l.length ≤ 9223372036854775807) (hp : ∀ y ∈ l, y.data.size ≤ 9223372036854775807) (h0 : 0 ≤ n) (hn : n ≤ 1048576) : CV Try.prog 206 [v, .int .i64 n] w (.int .i64 (szFrames l n)) := by
  obtain ⟨A, c, rfl, hA⟩ := hv
  refine cv_of Try.func206 rfl rfl rfl <| SQ <| RG <| AS rfl rfl <| ND <| SQ <| RG <| MV rfl rfl <| MV rfl rfl <| rw_len rfl tyE_S_laws_Frame rfl <| rw_sub rfl rfl rfl <| AS rfl rfl <| ND <| SQ <| SQ <| RG <| MV rfl rfl <| rw_lss rfl rfl rfl <| ND <| ?_
  refine gw_cond rfl (fun h1 => ?_) (fun h1 => ?_)
  · refine SQ <| RG <| AS rfl rfl <| ND <| ret_cv Try.func206 (res1 Try.func206 rfl (rv_tmp rfl)) <| ?_
    exact congrArg _ (sz_neg h1 _).symm
  · refine SK <| SQ <| SQ <| RG <| AS rfl rfl <| ND <| BK <| ?_
    refine gw_loopC (α := Nat × Int) (fun z_ => z_.1 ≤ l.length ∧ (0 ≤ z_.2 ∧ z_.2 ≤ 1048576) ∧ szFrames l n = szAll (fun c a => szStr c.data a) (l.drop z_.1) z_.2) (fun z_ => l.length - z_.1) (fun e z_ => (5, .int .i64 (z_.1 : Int)) :: (1, .int .i64 z_.2) :: e) (0, w64 (n - l.length)) [(0, _)] (Sub.consE rfl rfl (Sub.consE rfl rfl (Sub.cons (i := 0) rfl (Sub.nil _)))) ?_ ?_
    · exact ⟨Nat.zero_le _, (sz_start hb h0 hn h1).1, (sz_start hb h0 hn h1).2 _⟩
    · rintro ⟨i, a⟩ hI1 ih1
      dsimp only at hI1
      dsimp only
      have hbn := (sz_start hb h0 hn h1).1
      obtain ⟨hle, ha, hI⟩ := hI1
      refine SQ <| SQ <| RG <| MV rfl rfl <| MV rfl rfl <| rw_len rfl tyE_S_laws_Frame rfl <| rw_lss rfl rfl rfl <| ND <| ?_
      refine gw_cond rfl (fun h2 => ?_) (fun h2 => ?_)
      · have hi2 := lt_of_dec h2
        obtain ⟨x3, hx3⟩ := get_of_lt hi2
        have hd3 := drop_cons hx3
        refine SK <| SQ <| BK <| SQ <| RG <| MV rfl rfl <| MV rfl rfl <| ?_
        have hq4 := hA.plain hx3
        have ha4 := hp x3 (List.mem_of_getElem? hx3)
        refine rw_indexAddr (i) rfl tyE_S_laws_Frame rfl rfl rfl (hA.some hi2) hi2 <| rw_loadX_s [_, _, _, _, _, _, _, _, _] rfl tyS_laws_Frame rfl rfl (fun w hs => hq4.lds0 (n := 9) hs rfl) <| MV rfl rfl <| CV1 rfl fun_laws_szFrame rfl (fun w hs => laws_szFrame _ _ w) <| AS rfl rfl <| ND <| SQ <| RG <| MV rfl rfl <| rw_lss rfl rfl rfl <| ND <| ?_
        refine gw_cond rfl (fun h3 => ?_) (fun h3 => ?_)
        · refine SQ <| RG <| AS rfl rfl <| ND <| ret_cv Try.func206 (res1 Try.func206 rfl (rv_tmp rfl)) <| ?_
          rw [hI, hd3]; simp [szAll, thenSz, h3]
        · have hnn5 := nn_of h3
          obtain ⟨hle5, hz5_0⟩ := szStr_ok (by first | omega | assumption) (by omega) (by omega) hnn5
          refine SK <| IB <| RG <| MV rfl rfl <| rw_add rfl rfl rfl <| AS rfl rfl <| ND <| ?_
          refine gw_sub (Sub.consE (i := 5) rfl (int_succ (by omega)) (Sub.consE (i := 1) rfl rfl (Sub.cons (i := 0) rfl (Sub.nil _)))) (ih1 (i + 1, szStr x3.data a) ?_ ?_)
          · exact ⟨by omega, ⟨nn_of h3, by omega⟩, by rw [hI, hd3]; simp [szAll, thenSz, h3]⟩
          · show l.length - (i + 1) < l.length - i; omega
      · have hn6 := nil_of_dec h2
        refine EX rfl <| SQ <| RG <| MV rfl rfl <| AS rfl rfl <| ND <| ret_cv Try.func206 (res1 Try.func206 rfl (rv_tmp rfl)) <| ?_
        rw [hI, hn6]; rfl

theorem laws_szPacket {w : World} {cs : List Value} {x : Packet} (hv : RdPacket w cs x) (n : Int) (hb : x.le 9223372036854775807) (h0 : 0 ≤ n) (hn : n ≤ 1048576) : CV Try.prog 153 [.agg cs.toArray, .int .i64 n] w (.int .i64 (szPacket x n)) := by
  obtain ⟨v0, rfl, k0⟩ := hv
  obtain ⟨A0, c0, rfl, hA0⟩ := k0
  obtain ⟨hb0, hb1⟩ := hb
  refine cv_of Try.func153 rfl rfl rfl <| SQ <| RG <| BX [_, _] rfl rfl rfl <| fun b1 => AS rfl rfl <| ND <| SQ <| RG <| FA rfl tyF_laws_Packet_1 rfl <| LD (i := 0) rfl tyP_S_laws_Frame rfl rfl rfl <| MV rfl rfl <| CV1 rfl fun_laws_szFrameS rfl (fun w hs => laws_szFrameS (hA0.s Pl.keeps hs) _ (by first | omega | assumption) (by first | omega | assumption) (by omega) (by omega)) <| AS rfl rfl <| ND <| SQ <| SQ <| RG <| MV rfl rfl <| rw_lss rfl rfl rfl <| ND <| ?_
  refine gw_cond rfl (fun h1 => ?_) (fun h1 => ?_)
  · refine SQ <| RG <| AS rfl rfl <| ND <| ret_cv Try.func153 (res1 Try.func153 rfl (rv_tmp rfl)) <| ?_
    simp [szPacket, id, thenSz, h1]
  · have hnn1 := nn_of h1
    obtain ⟨hle1, hz1_0, hz1_1⟩ := szFrames_ok (by first | omega | assumption) (by first | omega | assumption) (by omega) (by omega) hnn1
    refine SK <| SQ <| RG <| MV rfl rfl <| AS rfl rfl <| ND <| ret_cv Try.func153 (res1 Try.func153 rfl (rv_tmp rfl)) <| ?_
    simp [szPacket, id, thenSz, h1]

theorem laws_szPacketS {w : World} {v : Value} {l : List Packet} (hv : RdS w 2 RdPacket v l) (n : Int) (hb : l.length ≤ 9223372036854775807) (hp : ∀ y ∈ l, y.le 9223372036854775807) (h0 : 0 ≤ n) (hn : n ≤ 1048576) : CV Try.prog 83 [v, .int .i64 n] w (.int .i64 (szPackets l n)) := by
  obtain ⟨A, c, rfl, hA⟩ := hv
  refine cv_of Try.func83 rfl rfl rfl <| SQ <| RG <| AS rfl rfl <| ND <| SQ <| RG <| MV rfl rfl <| MV rfl rfl <| rw_len rfl tyE_S_laws_Packet rfl <| rw_sub rfl rfl rfl <| AS rfl rfl <| ND <| SQ <| SQ <| RG <| MV rfl rfl <| rw_lss rfl rfl rfl <| ND <| ?_
  refine gw_cond rfl (fun h1 => ?_) (fun h1 => ?_)
  · refine SQ <| RG <| AS rfl rfl <| ND <| ret_cv Try.func83 (res1 Try.func83 rfl (rv_tmp rfl)) <| ?_
    exact congrArg _ (sz_neg h1 _).symm
  · refine SK <| SQ <| SQ <| RG <| AS rfl rfl <| ND <| BK <| ?_
    refine gw_loopC (α := Nat × Int) (fun z_ => z_.1 ≤ l.length ∧ (0 ≤ z_.2 ∧ z_.2 ≤ 1048576) ∧ szPackets l n = szAll (szPacket) (l.drop z_.1) z_.2) (fun z_ => l.length - z_.1) (fun e z_ => (5, .int .i64 (z_.1 : Int)) :: (1, .int .i64 z_.2) :: e) (0, w64 (n - l.length)) [(0, _)] (Sub.consE rfl rfl (Sub.consE rfl rfl (Sub.cons (i := 0) rfl (Sub.nil _)))) ?_ ?_
    · exact ⟨Nat.zero_le _, (sz_start hb h0 hn h1).1, (sz_start hb h0 hn h1).2 _⟩
    · rintro ⟨i, a⟩ hI1 ih1
      dsimp only at hI1
      dsimp only
      have hbn := (sz_start hb h0 hn h1).1
      obtain ⟨hle, ha, hI⟩ := hI1
      refine SQ <| SQ <| RG <| MV rfl rfl <| MV rfl rfl <| rw_len rfl tyE_S_laws_Packet rfl <| rw_lss rfl rfl rfl <| ND <| ?_
      refine gw_cond rfl (fun h2 => ?_) (fun h2 => ?_)
      · have hi2 := lt_of_dec h2
        obtain ⟨x3, hx3⟩ := get_of_lt hi2
        have hd3 := drop_cons hx3
        refine SK <| SQ <| BK <| SQ <| RG <| MV rfl rfl <| MV rfl rfl <| ?_
        obtain ⟨cse4_, hRe4_, hq4⟩ := hA.get hx3
        obtain ⟨ve4_0, rfl, ke4_0⟩ := hRe4_
        obtain ⟨Ae4_0, ce4_0, rfl, hAe4_0⟩ := ke4_0
        obtain ⟨hbe4_0, hbe4_1⟩ := hp x3 (List.mem_of_getElem? hx3)
        refine rw_indexAddr (i) rfl tyE_S_laws_Packet rfl rfl rfl (hA.some hi2) hi2 <| rw_loadX_s [_, _] rfl tyS_laws_Packet rfl rfl (fun w hs => hq4.lds0 (n := 2) hs rfl) <| MV rfl rfl <| CV1 rfl fun_laws_szPacket rfl (fun w hs => laws_szPacket ⟨_, rfl, (hAe4_0.s Pl.keeps hs)⟩ _ ⟨by first | omega | assumption, by first | omega | assumption⟩ (by omega) (by omega)) <| AS rfl rfl <| ND <| SQ <| RG <| MV rfl rfl <| rw_lss rfl rfl rfl <| ND <| ?_
        refine gw_cond rfl (fun h3 => ?_) (fun h3 => ?_)
        · refine SQ <| RG <| AS rfl rfl <| ND <| ret_cv Try.func83 (res1 Try.func83 rfl (rv_tmp rfl)) <| ?_
          rw [hI, hd3]; simp [szAll, thenSz, h3]
        · have hnn5 := nn_of h3
          obtain ⟨hle5, hz5_0, hz5_1⟩ := szPacket_ok ⟨by first | omega | assumption, by first | omega | assumption⟩ (by omega) (by omega) hnn5
          refine SK <| IB <| RG <| MV rfl rfl <| rw_add rfl rfl rfl <| AS rfl rfl <| ND <| ?_
          refine gw_sub (Sub.consE (i := 5) rfl (int_succ (by omega)) (Sub.consE (i := 1) rfl rfl (Sub.cons (i := 0) rfl (Sub.nil _)))) (ih1 (i + 1, szPacket x3 a) ?_ ?_)
          · exact ⟨by omega, ⟨nn_of h3, by omega⟩, by rw [hI, hd3]; simp [szAll, thenSz, h3]⟩
          · show l.length - (i + 1) < l.length - i; omega
      · have hn6 := nil_of_dec h2
        refine EX rfl <| SQ <| RG <| MV rfl rfl <| AS rfl rfl <| ND <| ret_cv Try.func83 (res1 Try.func83 rfl (rv_tmp rfl)) <| ?_
        rw [hI, hn6]; rfl

theorem laws_szConn {w : World} {cs : List Value} {x : Conn} (hv : RdConn w cs x) (n : Int) (hb : x.le 9223372036854775807) (h0 : 0 ≤ n) (hn : n ≤ 1048576) : CV Try.prog 24 [.agg cs.toArray, .int .i64 n] w (.int .i64 (szConn x n)) := by
  obtain ⟨v0, v1, rfl, k0, k1⟩ := hv
  obtain ⟨A0, c0, rfl, hA0⟩ := k0
  obtain ⟨A1, c1, rfl, hA1⟩ := k1
  obtain ⟨hb0, hb1, hb2, hb3⟩ := hb
  refine cv_of Try.func24 rfl rfl rfl <| SQ <| RG <| BX [_, _, _, _, _, _, _, _, _, _, _, _, _, _, _, _, _, _, _, _, _, _, _, _, _, _, _, _, _, _, _, _, _, _, _, _, _, _, _, _, _, _, _, _, _, _, _, _, _, _] rfl rfl rfl <| fun b1 => AS rfl rfl <| ND <| SQ <| RG <| FA rfl tyF_laws_Conn_3 rfl <| LD (i := 0) rfl tyP_S_laws_Stream rfl rfl rfl <| MV rfl rfl <| CV1 rfl fun_laws_szStreamS rfl (fun w hs => laws_szStreamS (hA0.s RdStream.keeps hs) _ (by first | omega | assumption) (by first | omega | assumption) (by omega) (by omega)) <| ?_
  refine AS rfl rfl <| ND <| SQ <| SQ <| RG <| MV rfl rfl <| rw_lss rfl rfl rfl <| ND <| ?_
  refine gw_cond rfl (fun h1 => ?_) (fun h1 => ?_)
  · refine SQ <| RG <| AS rfl rfl <| ND <| ret_cv Try.func24 (res1 Try.func24 rfl (rv_tmp rfl)) <| ?_
    simp [szConn, id, thenSz, h1]
  · have hnn1 := nn_of h1
    obtain ⟨hle1, hz1_0, hz1_1⟩ := szStreams_ok (by first | omega | assumption) (by first | omega | assumption) (by omega) (by omega) hnn1
    refine SK <| SQ <| RG <| FA rfl tyF_laws_Conn_15 rfl <| LD (i := 0) rfl tyP_S_laws_Packet rfl rfl rfl <| MV rfl rfl <| CV1 rfl fun_laws_szPacketS rfl (fun w hs => laws_szPacketS (hA1.s RdPacket.keeps hs) _ (by first | omega | assumption) (by first | omega | assumption) (by omega) (by omega)) <| AS rfl rfl <| ND <| SQ <| SQ <| RG <| MV rfl rfl <| rw_lss rfl rfl rfl <| ND <| ?_
    refine gw_cond rfl (fun h2 => ?_) (fun h2 => ?_)
    · refine SQ <| RG <| AS rfl rfl <| ND <| ret_cv Try.func24 (res1 Try.func24 rfl (rv_tmp rfl)) <| ?_
      simp [szConn, id, thenSz, h1, h2]
    · have hnn2 := nn_of h2
      obtain ⟨hle2, hz2_0, hz2_1⟩ := szPackets_ok (by first | omega | assumption) (by first | omega | assumption) (by omega) (by omega) hnn2
      refine SK <| SQ <| RG <| MV rfl rfl <| AS rfl rfl <| ND <| ret_cv Try.func24 (res1 Try.func24 rfl (rv_tmp rfl)) <| ?_
      simp [szConn, id, thenSz, h1, h2]

theorem laws_toConf (a : Conf) (w : World) : CV Try.prog 84 [.agg a.cells.toArray] w (.agg a.cells.toArray) := by
  refine cv_of Try.func84 rfl rfl rfl <| SQ <| RG <| BX [_, _, _, _, _, _, _, _] rfl rfl rfl <| fun b1 => AL rfl tyZ_impl_Conf <| fun b2 => ND <| SQ <| RG <| AL rfl tyZ_impl_Conf <| fun b3 => ND <| SQ <| RG <| FA rfl tyF_laws_Conf_0 rfl <| LD (i := 2) rfl tyP_int rfl rfl rfl <| FA rfl tyF_impl_Conf_0 rfl <| ST (i := 0) [_] [_, _, _, _, _, _, _, _] tyP_int.sz rfl rfl rfl rfl rfl rfl rfl rfl <| ND <| SQ <| RG <| FA rfl tyF_laws_Conf_1 rfl <| LD (i := 2) rfl tyP_int rfl rfl rfl <| FA rfl tyF_impl_Conf_1 rfl <| ?_
  refine ST (i := 0) [_] [_, _, _, _, _, _, _, _] tyP_int.sz rfl rfl rfl rfl rfl rfl rfl rfl <| ND <| SQ <| RG <| FA rfl tyF_laws_Conf_2 rfl <| LD (i := 2) rfl tyP_int rfl rfl rfl <| FA rfl tyF_impl_Conf_2 rfl <| ST (i := 0) [_] [_, _, _, _, _, _, _, _] tyP_int.sz rfl rfl rfl rfl rfl rfl rfl rfl <| ND <| SQ <| RG <| FA rfl tyF_laws_Conf_3 rfl <| LD (i := 2) rfl tyP_int rfl rfl rfl <| FA rfl tyF_impl_Conf_3 rfl <| ST (i := 0) [_] [_, _, _, _, _, _, _, _] tyP_int.sz rfl rfl rfl rfl rfl rfl rfl rfl <| ?_
  refine ND <| SQ <| RG <| FA rfl tyF_laws_Conf_4 rfl <| LD (i := 2) rfl tyP_int rfl rfl rfl <| FA rfl tyF_impl_Conf_4 rfl <| ST (i := 0) [_] [_, _, _, _, _, _, _, _] tyP_int.sz rfl rfl rfl rfl rfl rfl rfl rfl <| ND <| SQ <| RG <| FA rfl tyF_laws_Conf_5 rfl <| LD (i := 2) rfl tyP_int rfl rfl rfl <| FA rfl tyF_impl_Conf_5 rfl <| ST (i := 0) [_] [_, _, _, _, _, _, _, _] tyP_int.sz rfl rfl rfl rfl rfl rfl rfl rfl <| ND <| SQ <| RG <| FA rfl tyF_laws_Conf_6 rfl <| LD (i := 2) rfl tyP_int rfl rfl rfl <| ?_
  refine FA rfl tyF_impl_Conf_6 rfl <| ST (i := 0) [_] [_, _, _, _, _, _, _, _] tyP_int.sz rfl rfl rfl rfl rfl rfl rfl rfl <| ND <| SQ <| RG <| FA rfl tyF_laws_Conf_7 rfl <| LD (i := 2) rfl tyP_int rfl rfl rfl <| FA rfl tyF_impl_Conf_7 rfl <| ST (i := 0) [_] [_, _, _, _, _, _, _, _] tyP_int.sz rfl rfl rfl rfl rfl rfl rfl rfl <| ND <| SQ <| RG <| LS (i := 0) [_, _, _, _, _, _, _, _] rfl tyS_impl_Conf rfl rfl rfl rfl <| ST (i := 1) [_, _, _, _, _, _, _, _] [_, _, _, _, _, _, _, _] tyS_impl_Conf.sz rfl rfl rfl rfl rfl rfl rfl rfl <| ?_
  refine ND <| ret_cv Try.func84 (res1 Try.func84 rfl (rv_s (i := 1) [_, _, _, _, _, _, _, _] tyS_impl_Conf rfl rfl rfl rfl)) <| ?_
  rfl
end Go.Proofs.Ytildklpahfbnpaa
