/- Walks: copies, marks. -/
import Derived.Test.YtildklpahfbnpaaWY0
namespace Go.Proofs.Ytildklpahfbnpaa
open SL Go.RowKit
theorem laws_toIntS {w : World} {v : Value} {l : List Int} (hv : RdS w 1 (Pl intC) v l) (hb : l.length ≤ 1048576) : CN Try.prog 196 [v] w (fun v ch => OwS 3 1 (PlO intC) v l ch) := by
  obtain ⟨A, c, rfl, hA⟩ := hv
  refine cn_of Try.func196 rfl rfl rfl <| SQ <| RG <| AS rfl rfl <| ND <| SQ <| RG <| MV rfl rfl <| rw_len rfl tyE_S_int rfl <| rw_make rfl tyM_S_int rfl rfl (by omega) <| fun b1 => AS rfl rfl <| ND <| SQ <| SQ <| RG <| AS rfl rfl <| ND <| BK <| ?_
  refine gw_loopX (α := Nat × List Value × List Ck) (fun z_ => z_.1 ≤ l.length ∧ Ows (PlO intC) (l.take z_.1) z_.2.1 z_.2.2) (fun z_ => l.length - z_.1) (fun e z_ => (4, .int .i64 (z_.1 : Int)) :: e) (fun B z_ => B.set 0 ⟨b1, 3, z_.2.1 ++ (List.replicate (l.length - z_.1) [.int .i64 0]).flatten⟩) (fun F z_ => z_.2.2 ++ F) (0, [], []) [(0, _), (2, _), (3, _)] (Sub.consE rfl rfl (Sub.cons (i := 0) rfl (Sub.cons (i := 2) rfl (Sub.cons (i := 3) rfl (Sub.nil _))))) rfl rfl ?_ ?_
  · exact ⟨Nat.zero_le _, .nil⟩
  · rintro ⟨i, cs, chs⟩ hI1 ih1
    dsimp only at hI1
    dsimp only [List.set]
    obtain ⟨hle, hO⟩ := hI1
    refine SQ <| SQ <| RG <| MV rfl rfl <| MV rfl rfl <| rw_len rfl tyE_S_int rfl <| rw_lss rfl rfl rfl <| ND <| ?_
    refine gw_cond rfl (fun h1 => ?_) (fun h1 => ?_)
    · have hi2 := lt_of_dec h1
      obtain ⟨x3, hx3⟩ := get_of_lt hi2
      have hd3 := drop_cons hx3
      refine SK <| SQ <| BK <| RG <| MV rfl rfl <| MV rfl rfl <| MV rfl rfl <| MV rfl rfl <| ?_
      have hq4 := hA.plain hx3
      refine rw_indexAddr (i) rfl tyE_S_int rfl rfl rfl (hA.some hi2) hi2 <| rw_loadX _ rfl tyP_int rfl (fun w hs => hq4.ld0 hs rfl) <| rw_indexAddrO (i) rfl tyE_S_int rfl rfl rfl hi2 <| rw_storeMade (j := 0) [_] tyP_int.sz rfl rfl rfl rfl rfl rfl (by rw [hO.length eInt, List.length_take]; congr 1; omega) hi2 (eInt.one ⟨rfl, rfl⟩) <| ND <| IB <| RG <| MV rfl rfl <| rw_add rfl rfl rfl <| AS rfl rfl <| ND <| ?_
      refine gw_sub (Sub.consE (i := 4) rfl (int_succ (by omega)) (Sub.cons (i := 0) rfl (Sub.cons (i := 2) rfl (Sub.cons (i := 3) rfl (Sub.nil _))))) (ih1 (i + 1, cs ++ (intC x3), chs) ?_ ?_)
      · exact ⟨by omega, by simpa using ows_step hO hx3 (ch := []) ⟨rfl, rfl⟩⟩
      · show l.length - (i + 1) < l.length - i; omega
    · have hn5 := nil_of_dec h1
      refine EX rfl <| SQ <| RG <| MV rfl rfl <| AS rfl rfl <| ND <| ?_
      refine ret_cn (⟨b1, 3, cs ++ (List.replicate (l.length - i) [.int .i64 0]).flatten⟩ :: chs) Try.func196 (res1 Try.func196 rfl (rv_tmp rfl)) ?_ ?_
      · exact ows_made eInt hO hle hn5 (by omega)
      · simp

theorem laws_toRing {w : World} {cs : List Value} {x : Ring} (hv : RdRing w cs x) (hb : x.le 1048576) : CN Try.prog 134 [.agg cs.toArray] w (OwV OwRing x) := by
  obtain ⟨v0, rfl, k0⟩ := hv
  obtain ⟨A0, c0, rfl, hA0⟩ := k0
  have hb0 : x.cells.length ≤ 1048576 := hb
  refine cn_of Try.func134 rfl rfl rfl <| SQ <| RG <| BX [_, _, _, _] rfl rfl rfl <| fun b1 => AL rfl tyZ_impl_Ring <| fun b2 => ND <| SQ <| RG <| AL rfl tyZ_impl_Ring <| fun b3 => ND <| SQ <| RG <| FA rfl tyF_laws_Ring_0 rfl <| LD (i := 2) rfl tyP_int rfl rfl rfl <| FA rfl tyF_impl_Ring_0 rfl <| ST (i := 0) [_] [_, _, _, _] tyP_int.sz rfl rfl rfl rfl rfl rfl rfl rfl <| ND <| SQ <| RG <| FA rfl tyF_laws_Ring_1 rfl <| LD (i := 2) rfl tyP_int rfl rfl rfl <| FA rfl tyF_impl_Ring_1 rfl <| ?_
  refine ST (i := 0) [_] [_, _, _, _] tyP_int.sz rfl rfl rfl rfl rfl rfl rfl rfl <| ND <| SQ <| RG <| FA rfl tyF_laws_Ring_2 rfl <| LD (i := 2) rfl tyP_int rfl rfl rfl <| FA rfl tyF_impl_Ring_2 rfl <| ST (i := 0) [_] [_, _, _, _] tyP_int.sz rfl rfl rfl rfl rfl rfl rfl rfl <| ND <| SQ <| RG <| FA rfl tyF_laws_Ring_3 rfl <| LD (i := 2) rfl tyP_S_int rfl rfl rfl <| CN1 rfl fun_laws_toIntS rfl (fun w hs => laws_toIntS (hA0.s Pl.keeps hs) (by omega)) <| fun v1 ch1 how1 => ?_
  obtain ⟨R1, rc1, rfl, hR1, hrd1⟩ := how1.shape eInt
  refine FA rfl tyF_impl_Ring_3 rfl <| ST (i := 0) [_] [_, _, _, _] tyP_S_int.sz rfl rfl rfl rfl rfl rfl rfl rfl <| ND <| SQ <| RG <| LS (i := 0) [_, _, _, _] rfl tyS_impl_Ring rfl rfl rfl rfl <| ST (i := 1) [_, _, _, _] [_, _, _, _] tyS_impl_Ring.sz rfl rfl rfl rfl rfl rfl rfl rfl <| ND <| ?_
  refine ret_cnP (ch := ch1) (G := ch1 ++ ([])) (F' := []) Try.func134 (res1 Try.func134 rfl (rv_s (i := 1) [_, _, _, _] tyS_impl_Ring rfl rfl rfl rfl)) ?_ ?_ ?_
  · exact ⟨_, rfl, _, _, rfl, how1, rfl⟩
  · exact ((List.Perm.refl _).trans ((List.Perm.refl _).append_left _))
  · simp only []

theorem laws_toRange (a : Range) (w : World) : CV Try.prog 197 [.agg a.cells.toArray] w (.agg a.cells.toArray) := by
  refine cv_of Try.func197 rfl rfl rfl <| SQ <| RG <| BX [_, _] rfl rfl rfl <| fun b1 => AL rfl tyZ_impl_Range <| fun b2 => ND <| SQ <| RG <| AL rfl tyZ_impl_Range <| fun b3 => ND <| SQ <| RG <| FA rfl tyF_laws_Range_0 rfl <| LD (i := 2) rfl tyP_int rfl rfl rfl <| FA rfl tyF_impl_Range_0 rfl <| ST (i := 0) [_] [_, _] tyP_int.sz rfl rfl rfl rfl rfl rfl rfl rfl <| ND <| SQ <| RG <| FA rfl tyF_laws_Range_1 rfl <| LD (i := 2) rfl tyP_int rfl rfl rfl <| FA rfl tyF_impl_Range_1 rfl <| ?_
  refine ST (i := 0) [_] [_, _] tyP_int.sz rfl rfl rfl rfl rfl rfl rfl rfl <| ND <| SQ <| RG <| LS (i := 0) [_, _] rfl tyS_impl_Range rfl rfl rfl rfl <| ST (i := 1) [_, _] [_, _] tyS_impl_Range.sz rfl rfl rfl rfl rfl rfl rfl rfl <| ND <| ret_cv Try.func197 (res1 Try.func197 rfl (rv_s (i := 1) [_, _] tyS_impl_Range rfl rfl rfl rfl)) <| ?_
  rfl

theorem laws_toRangeS {w : World} {v : Value} {l : List Range} (hv : RdS w 2 (Pl Range.cells) v l) (hb : l.length ≤ 1048576) : CN Try.prog 135 [v] w (fun v ch => OwS 156 2 (PlO Range.cells) v l ch) := by
  obtain ⟨A, c, rfl, hA⟩ := hv
  refine cn_of Try.func135 rfl rfl rfl <| SQ <| RG <| AS rfl rfl <| ND <| SQ <| RG <| MV rfl rfl <| rw_len rfl tyE_S_laws_Range rfl <| rw_make rfl tyM_S_impl_Range rfl rfl (by omega) <| fun b1 => AS rfl rfl <| ND <| SQ <| SQ <| RG <| AS rfl rfl <| ND <| BK <| ?_
  refine gw_loopX (α := Nat × List Value × List Ck) (fun z_ => z_.1 ≤ l.length ∧ Ows (PlO Range.cells) (l.take z_.1) z_.2.1 z_.2.2) (fun z_ => l.length - z_.1) (fun e z_ => (4, .int .i64 (z_.1 : Int)) :: e) (fun B z_ => B.set 0 ⟨b1, 156, z_.2.1 ++ (List.replicate (l.length - z_.1) [.int .i64 0, .int .i64 0]).flatten⟩) (fun F z_ => z_.2.2 ++ F) (0, [], []) [(0, _), (2, _), (3, _)] (Sub.consE rfl rfl (Sub.cons (i := 0) rfl (Sub.cons (i := 2) rfl (Sub.cons (i := 3) rfl (Sub.nil _))))) rfl rfl ?_ ?_
  · exact ⟨Nat.zero_le _, .nil⟩
  · rintro ⟨i, cs, chs⟩ hI1 ih1
    dsimp only at hI1
    dsimp only [List.set]
    obtain ⟨hle, hO⟩ := hI1
    refine SQ <| SQ <| RG <| MV rfl rfl <| MV rfl rfl <| rw_len rfl tyE_S_laws_Range rfl <| rw_lss rfl rfl rfl <| ND <| ?_
    refine gw_cond rfl (fun h1 => ?_) (fun h1 => ?_)
    · have hi2 := lt_of_dec h1
      obtain ⟨x3, hx3⟩ := get_of_lt hi2
      have hd3 := drop_cons hx3
      refine SK <| SQ <| BK <| RG <| MV rfl rfl <| MV rfl rfl <| MV rfl rfl <| MV rfl rfl <| ?_
      have hq4 := hA.plain hx3
      refine rw_indexAddr (i) rfl tyE_S_laws_Range rfl rfl rfl (hA.some hi2) hi2 <| rw_loadX_s [_, _] rfl tyS_laws_Range rfl rfl (fun w hs => hq4.lds0 (n := 2) hs rfl) <| CV1 rfl fun_laws_toRange rfl (fun w hs => laws_toRange _ w) <| rw_indexAddrO (i) rfl tyE_S_impl_Range rfl rfl rfl hi2 <| rw_storeMade (j := 0) [_, _] tyS_impl_Range.sz rfl rfl rfl rfl rfl rfl (by rw [hO.length eRange, List.length_take]; congr 1; omega) hi2 (eRange.one ⟨rfl, rfl⟩) <| ND <| IB <| RG <| MV rfl rfl <| rw_add rfl rfl rfl <| AS rfl rfl <| ND <| ?_
      refine gw_sub (Sub.consE (i := 4) rfl (int_succ (by omega)) (Sub.cons (i := 0) rfl (Sub.cons (i := 2) rfl (Sub.cons (i := 3) rfl (Sub.nil _))))) (ih1 (i + 1, cs ++ (Range.cells x3), chs) ?_ ?_)
      · exact ⟨by omega, by simpa using ows_step hO hx3 (ch := []) ⟨rfl, rfl⟩⟩
      · show l.length - (i + 1) < l.length - i; omega
    · have hn5 := nil_of_dec h1
      refine EX rfl <| SQ <| RG <| MV rfl rfl <| AS rfl rfl <| ND <| ?_
      refine ret_cn (⟨b1, 156, cs ++ (List.replicate (l.length - i) [.int .i64 0, .int .i64 0]).flatten⟩ :: chs) Try.func135 (res1 Try.func135 rfl (rv_tmp rfl)) ?_ ?_
      · exact ows_made eRange hO hle hn5 (by omega)
      · simp

theorem laws_toSender {w : World} {cs : List Value} {x : Sender} (hv : RdSender w cs x) (hb : x.le 1048576) : CN Try.prog 53 [.agg cs.toArray] w (OwV OwSender x) := by
  obtain ⟨v0, v1, v2, v3, rfl, k0, k1, k2, k3⟩ := hv
  obtain ⟨A0, c0, rfl, hA0⟩ := k0
  obtain ⟨A1, c1, rfl, hA1⟩ := k1
  obtain ⟨A2, c2, rfl, hA2⟩ := k2
  obtain ⟨A3, c3, rfl, hA3⟩ := k3
  obtain ⟨hb0, hb1, hb2, hb3⟩ := hb
  refine cn_of Try.func53 rfl rfl rfl <| SQ <| RG <| BX [_, _, _, _, _, _, _, _, _, _, _, _] rfl rfl rfl <| fun b1 => AL rfl tyZ_impl_Sender <| fun b2 => ND <| SQ <| RG <| AL rfl tyZ_impl_Sender <| fun b3 => ND <| SQ <| RG <| FA rfl tyF_laws_Sender_0 rfl <| LD (i := 2) rfl tyP_int rfl rfl rfl <| FA rfl tyF_impl_Sender_0 rfl <| rw_storeN (i := 0) [_] [_, _, _, _, _, _, _, _, _, _, _, _] [_, _, _] tyP_int.sz rfl rfl rfl rfl rfl rfl rfl rfl rfl <| ND <| SQ <| RG <| FA rfl tyF_laws_Sender_1 rfl <| LS (i := 2) [_, _, _, _] rfl tyS_laws_Ring rfl rfl rfl rfl <| ?_
  refine CN1 rfl fun_laws_toRing rfl (fun w hs => laws_toRing ⟨_, rfl, (hA0.s Pl.keeps hs)⟩ (show _ ≤ _ from hb0)) <| fun vv1 ch1 how1 => ?_
  obtain ⟨cs1, rfl, v1_0, c1_0, rfl, h1_0, rfl⟩ := how1
  obtain ⟨R1_0, b1_0, rfl, hR1_0, hrd1_0⟩ := h1_0.shape eInt
  refine FA rfl tyF_impl_Sender_1 rfl <| rw_storeN (i := 0) [_, _, _, _] [_, _, _, _, _, _, _, _, _, _, _, _] [_, _, _] tyS_impl_Ring.sz rfl rfl rfl rfl rfl rfl rfl rfl rfl <| ND <| SQ <| RG <| FA rfl tyF_laws_Sender_2 rfl <| LD (i := 2) rfl tyP_S_laws_Range rfl rfl rfl <| CN1 rfl fun_laws_toRangeS rfl (fun w hs => laws_toRangeS (hA1.s Pl.keeps hs) (by omega)) <| fun v2 ch2 how2 => ?_
  obtain ⟨R2, rc2, rfl, hR2, hrd2⟩ := how2.shape eRange
  refine FA rfl tyF_impl_Sender_2 rfl <| rw_storeN (i := 0) [_] [_, _, _, _, _, _, _, _, _, _, _, _] [_, _, _] tyP_S_impl_Range.sz rfl rfl rfl rfl rfl rfl rfl rfl rfl <| ND <| SQ <| RG <| FA rfl tyF_laws_Sender_3 rfl <| LD (i := 2) rfl tyP_S_laws_Range rfl rfl rfl <| CN1 rfl fun_laws_toRangeS rfl (fun w hs => laws_toRangeS (hA2.s Pl.keeps hs) (by omega)) <| fun v3 ch3 how3 => ?_
  obtain ⟨R3, rc3, rfl, hR3, hrd3⟩ := how3.shape eRange
  refine FA rfl tyF_impl_Sender_3 rfl <| rw_storeN (i := 0) [_] [_, _, _, _, _, _, _, _, _, _, _, _] [_, _, _] tyP_S_impl_Range.sz rfl rfl rfl rfl rfl rfl rfl rfl rfl <| ND <| SQ <| RG <| FA rfl tyF_laws_Sender_4 rfl <| LD (i := 2) rfl tyP_S_laws_Range rfl rfl rfl <| CN1 rfl fun_laws_toRangeS rfl (fun w hs => laws_toRangeS (hA3.s Pl.keeps hs) (by omega)) <| fun v4 ch4 how4 => ?_
  obtain ⟨R4, rc4, rfl, hR4, hrd4⟩ := how4.shape eRange
  refine FA rfl tyF_impl_Sender_4 rfl <| rw_storeN (i := 0) [_] [_, _, _, _, _, _, _, _, _, _, _, _] [_, _, _] tyP_S_impl_Range.sz rfl rfl rfl rfl rfl rfl rfl rfl rfl <| ND <| SQ <| RG <| FA rfl tyF_laws_Sender_5 rfl <| LD (i := 2) rfl tyP_int rfl rfl rfl <| FA rfl tyF_impl_Sender_5 rfl <| rw_storeN (i := 0) [_] [_, _, _, _, _, _, _, _, _, _, _, _] [_, _, _] tyP_int.sz rfl rfl rfl rfl rfl rfl rfl rfl rfl <| ND <| SQ <| RG <| FA rfl tyF_laws_Sender_6 rfl <| LD (i := 2) rfl tyP_int rfl rfl rfl <| FA rfl tyF_impl_Sender_6 rfl <| ?_
  refine rw_storeN (i := 0) [_] [_, _, _, _, _, _, _, _, _, _, _, _] [_, _, _] tyP_int.sz rfl rfl rfl rfl rfl rfl rfl rfl rfl <| ND <| SQ <| RG <| FA rfl tyF_laws_Sender_7 rfl <| LD (i := 2) rfl tyP_int rfl rfl rfl <| FA rfl tyF_impl_Sender_7 rfl <| rw_storeN (i := 0) [_] [_, _, _, _, _, _, _, _, _, _, _, _] [_, _, _] tyP_int.sz rfl rfl rfl rfl rfl rfl rfl rfl rfl <| ND <| SQ <| RG <| FA rfl tyF_laws_Sender_8 rfl <| LD (i := 2) rfl tyP_int rfl rfl rfl <| FA rfl tyF_impl_Sender_8 rfl <| rw_storeN (i := 0) [_] [_, _, _, _, _, _, _, _, _, _, _, _] [_, _, _] tyP_int.sz rfl rfl rfl rfl rfl rfl rfl rfl rfl <| ?_
  refine ND <| SQ <| RG <| LS (i := 0) [_, _, _, _, _, _, _, _, _, _, _, _] rfl tyS_impl_Sender rfl rfl rfl rfl <| rw_storeN (i := 1) [_, _, _, _, _, _, _, _, _, _, _, _] [_, _, _, _, _, _, _, _, _, _, _, _] [_, _, _] tyS_impl_Sender.sz rfl rfl rfl rfl rfl rfl rfl rfl rfl <| ND <| ?_
  refine ret_cnP (ch := ch1 ++ (ch2 ++ (ch3 ++ (ch4)))) (G := ch1 ++ (ch2 ++ (ch3 ++ (ch4 ++ ([]))))) (F' := []) Try.func53 (res1 Try.func53 rfl (rv_s (i := 1) [_, _, _, _, _, _, _, _, _, _, _, _] tyS_impl_Sender rfl rfl rfl rfl)) ?_ ?_ ?_
  · exact ⟨_, rfl, _, _, _, _, _, _, _, _, rfl, h1_0, how2, how3, how4, rfl⟩
  · exact (((((((((((List.Perm.refl _)).append_left _).trans (pullc _ _ _))).append_left _).trans (pullc _ _ _))).append_left _).trans (pullc _ _ _)).trans (((((((((List.Perm.refl _)).append_left _).trans (pullc _ _ _))).append_left _).trans (pullc _ _ _)).trans ((((((List.Perm.refl _)).append_left _).trans (pullc _ _ _)).trans (((List.Perm.refl _).trans ((List.Perm.refl _).append_left _)).append_left _)).append_left _)).append_left _))
  · simp only [List.append_assoc]

theorem laws_toCredit (a : Credit) (w : World) : CV Try.prog 54 [.agg a.cells.toArray] w (.agg a.cells.toArray) := by
  refine cv_of Try.func54 rfl rfl rfl <| SQ <| RG <| BX [_, _, _, _] rfl rfl rfl <| fun b1 => AL rfl tyZ_impl_Credit <| fun b2 => ND <| SQ <| RG <| AL rfl tyZ_impl_Credit <| fun b3 => ND <| SQ <| RG <| FA rfl tyF_laws_Credit_0 rfl <| LD (i := 2) rfl tyP_int rfl rfl rfl <| FA rfl tyF_impl_Credit_0 rfl <| ST (i := 0) [_] [_, _, _, _] tyP_int.sz rfl rfl rfl rfl rfl rfl rfl rfl <| ND <| SQ <| RG <| FA rfl tyF_laws_Credit_1 rfl <| LD (i := 2) rfl tyP_int rfl rfl rfl <| FA rfl tyF_impl_Credit_1 rfl <| ?_
  refine ST (i := 0) [_] [_, _, _, _] tyP_int.sz rfl rfl rfl rfl rfl rfl rfl rfl <| ND <| SQ <| RG <| FA rfl tyF_laws_Credit_2 rfl <| LD (i := 2) rfl tyP_int rfl rfl rfl <| FA rfl tyF_impl_Credit_2 rfl <| ST (i := 0) [_] [_, _, _, _] tyP_int.sz rfl rfl rfl rfl rfl rfl rfl rfl <| ND <| SQ <| RG <| FA rfl tyF_laws_Credit_3 rfl <| LD (i := 2) rfl tyP_int rfl rfl rfl <| FA rfl tyF_impl_Credit_3 rfl <| ST (i := 0) [_] [_, _, _, _] tyP_int.sz rfl rfl rfl rfl rfl rfl rfl rfl <| ND <| SQ <| RG <| ?_
  refine LS (i := 0) [_, _, _, _] rfl tyS_impl_Credit rfl rfl rfl rfl <| ST (i := 1) [_, _, _, _] [_, _, _, _] tyS_impl_Credit.sz rfl rfl rfl rfl rfl rfl rfl rfl <| ND <| ret_cv Try.func54 (res1 Try.func54 rfl (rv_s (i := 1) [_, _, _, _] tyS_impl_Credit rfl rfl rfl rfl)) <| ?_
  rfl

theorem laws_toChunk (a : Chunk) (w : World) : CV Try.prog 214 [.agg a.cells.toArray] w (.agg a.cells.toArray) := by
  refine cv_of Try.func214 rfl rfl rfl <| SQ <| RG <| BX [_, _] rfl rfl rfl <| fun b1 => AL rfl tyZ_impl_Chunk <| fun b2 => ND <| SQ <| RG <| AL rfl tyZ_impl_Chunk <| fun b3 => ND <| SQ <| RG <| FA rfl tyF_laws_Chunk_0 rfl <| LD (i := 2) rfl tyP_int rfl rfl rfl <| FA rfl tyF_impl_Chunk_0 rfl <| ST (i := 0) [_] [_, _] tyP_int.sz rfl rfl rfl rfl rfl rfl rfl rfl <| ND <| SQ <| RG <| FA rfl tyF_laws_Chunk_1 rfl <| LD (i := 2) rfl tyP_string rfl rfl rfl <| FA rfl tyF_impl_Chunk_1 rfl <| ?_
  refine ST (i := 0) [_] [_, _] tyP_string.sz rfl rfl rfl rfl rfl rfl rfl rfl <| ND <| SQ <| RG <| LS (i := 0) [_, _] rfl tyS_impl_Chunk rfl rfl rfl rfl <| ST (i := 1) [_, _] [_, _] tyS_impl_Chunk.sz rfl rfl rfl rfl rfl rfl rfl rfl <| ND <| ret_cv Try.func214 (res1 Try.func214 rfl (rv_s (i := 1) [_, _] tyS_impl_Chunk rfl rfl rfl rfl)) <| ?_
  rfl

theorem laws_toChunkS {w : World} {v : Value} {l : List Chunk} (hv : RdS w 2 (Pl Chunk.cells) v l) (hb : l.length ≤ 1048576) : CN Try.prog 198 [v] w (fun v ch => OwS 185 2 (PlO Chunk.cells) v l ch) := by
  obtain ⟨A, c, rfl, hA⟩ := hv
  refine cn_of Try.func198 rfl rfl rfl <| SQ <| RG <| AS rfl rfl <| ND <| SQ <| RG <| MV rfl rfl <| rw_len rfl tyE_S_laws_Chunk rfl <| rw_make rfl tyM_S_impl_Chunk rfl rfl (by omega) <| fun b1 => AS rfl rfl <| ND <| SQ <| SQ <| RG <| AS rfl rfl <| ND <| BK <| ?_
  refine gw_loopX (α := Nat × List Value × List Ck) (fun z_ => z_.1 ≤ l.length ∧ Ows (PlO Chunk.cells) (l.take z_.1) z_.2.1 z_.2.2) (fun z_ => l.length - z_.1) (fun e z_ => (4, .int .i64 (z_.1 : Int)) :: e) (fun B z_ => B.set 0 ⟨b1, 185, z_.2.1 ++ (List.replicate (l.length - z_.1) [.int .i64 0, .string ByteArray.empty]).flatten⟩) (fun F z_ => z_.2.2 ++ F) (0, [], []) [(0, _), (2, _), (3, _)] (Sub.consE rfl rfl (Sub.cons (i := 0) rfl (Sub.cons (i := 2) rfl (Sub.cons (i := 3) rfl (Sub.nil _))))) rfl rfl ?_ ?_
  · exact ⟨Nat.zero_le _, .nil⟩
  · rintro ⟨i, cs, chs⟩ hI1 ih1
    dsimp only at hI1
    dsimp only [List.set]
    obtain ⟨hle, hO⟩ := hI1
    refine SQ <| SQ <| RG <| MV rfl rfl <| MV rfl rfl <| rw_len rfl tyE_S_laws_Chunk rfl <| rw_lss rfl rfl rfl <| ND <| ?_
    refine gw_cond rfl (fun h1 => ?_) (fun h1 => ?_)
    · have hi2 := lt_of_dec h1
      obtain ⟨x3, hx3⟩ := get_of_lt hi2
      have hd3 := drop_cons hx3
      refine SK <| SQ <| BK <| RG <| MV rfl rfl <| MV rfl rfl <| MV rfl rfl <| MV rfl rfl <| ?_
      have hq4 := hA.plain hx3
      refine rw_indexAddr (i) rfl tyE_S_laws_Chunk rfl rfl rfl (hA.some hi2) hi2 <| rw_loadX_s [_, _] rfl tyS_laws_Chunk rfl rfl (fun w hs => hq4.lds0 (n := 2) hs rfl) <| CV1 rfl fun_laws_toChunk rfl (fun w hs => laws_toChunk _ w) <| rw_indexAddrO (i) rfl tyE_S_impl_Chunk rfl rfl rfl hi2 <| rw_storeMade (j := 0) [_, _] tyS_impl_Chunk.sz rfl rfl rfl rfl rfl rfl (by rw [hO.length eChunk, List.length_take]; congr 1; omega) hi2 (eChunk.one ⟨rfl, rfl⟩) <| ND <| IB <| RG <| MV rfl rfl <| rw_add rfl rfl rfl <| AS rfl rfl <| ND <| ?_
      refine gw_sub (Sub.consE (i := 4) rfl (int_succ (by omega)) (Sub.cons (i := 0) rfl (Sub.cons (i := 2) rfl (Sub.cons (i := 3) rfl (Sub.nil _))))) (ih1 (i + 1, cs ++ (Chunk.cells x3), chs) ?_ ?_)
      · exact ⟨by omega, by simpa using ows_step hO hx3 (ch := []) ⟨rfl, rfl⟩⟩
      · show l.length - (i + 1) < l.length - i; omega
    · have hn5 := nil_of_dec h1
      refine EX rfl <| SQ <| RG <| MV rfl rfl <| AS rfl rfl <| ND <| ?_
      refine ret_cn (⟨b1, 185, cs ++ (List.replicate (l.length - i) [.int .i64 0, .string ByteArray.empty]).flatten⟩ :: chs) Try.func198 (res1 Try.func198 rfl (rv_tmp rfl)) ?_ ?_
      · exact ows_made eChunk hO hle hn5 (by omega)
      · simp

theorem laws_toBuffer {w : World} {cs : List Value} {x : Buffer} (hv : RdBuffer w cs x) (hb : x.le 1048576) : CN Try.prog 136 [.agg cs.toArray] w (OwV OwBuffer x) := by
  obtain ⟨v0, rfl, k0⟩ := hv
  obtain ⟨A0, c0, rfl, hA0⟩ := k0
  obtain ⟨hb0, hb1⟩ := hb
  refine cn_of Try.func136 rfl rfl rfl <| SQ <| RG <| BX [_, _] rfl rfl rfl <| fun b1 => AL rfl tyZ_impl_Buffer <| fun b2 => ND <| SQ <| RG <| AL rfl tyZ_impl_Buffer <| fun b3 => ND <| SQ <| RG <| FA rfl tyF_laws_Buffer_0 rfl <| LD (i := 2) rfl tyP_int rfl rfl rfl <| FA rfl tyF_impl_Buffer_0 rfl <| ST (i := 0) [_] [_, _] tyP_int.sz rfl rfl rfl rfl rfl rfl rfl rfl <| ND <| SQ <| RG <| FA rfl tyF_laws_Buffer_1 rfl <| LD (i := 2) rfl tyP_S_laws_Chunk rfl rfl rfl <| CN1 rfl fun_laws_toChunkS rfl (fun w hs => laws_toChunkS (hA0.s Pl.keeps hs) (by omega)) <| fun v1 ch1 how1 => ?_
  obtain ⟨R1, rc1, rfl, hR1, hrd1⟩ := how1.shape eChunk
  refine FA rfl tyF_impl_Buffer_1 rfl <| ST (i := 0) [_] [_, _] tyP_S_impl_Chunk.sz rfl rfl rfl rfl rfl rfl rfl rfl <| ND <| SQ <| RG <| LS (i := 0) [_, _] rfl tyS_impl_Buffer rfl rfl rfl rfl <| ST (i := 1) [_, _] [_, _] tyS_impl_Buffer.sz rfl rfl rfl rfl rfl rfl rfl rfl <| ND <| ?_
  refine ret_cnP (ch := ch1) (G := ch1 ++ ([])) (F' := []) Try.func136 (res1 Try.func136 rfl (rv_s (i := 1) [_, _] tyS_impl_Buffer rfl rfl rfl rfl)) ?_ ?_ ?_
  · exact ⟨_, rfl, _, _, rfl, how1, rfl⟩
  · exact ((List.Perm.refl _).trans ((List.Perm.refl _).append_left _))
  · simp only []

theorem laws_toReceiver {w : World} {cs : List Value} {x : Receiver} (hv : RdReceiver w cs x) (hb : x.le 1048576) : CN Try.prog 55 [.agg cs.toArray] w (OwV OwReceiver x) := by
  obtain ⟨v0, rfl, k0⟩ := hv
  obtain ⟨A0, c0, rfl, hA0⟩ := k0
  obtain ⟨hb0, hb1⟩ := hb
  refine cn_of Try.func55 rfl rfl rfl <| SQ <| RG <| BX [_, _, _, _, _, _] rfl rfl rfl <| fun b1 => AL rfl tyZ_impl_Receiver <| fun b2 => ND <| SQ <| RG <| AL rfl tyZ_impl_Receiver <| fun b3 => ND <| SQ <| RG <| FA rfl tyF_laws_Receiver_0 rfl <| LD (i := 2) rfl tyP_int rfl rfl rfl <| FA rfl tyF_impl_Receiver_0 rfl <| ST (i := 0) [_] [_, _, _, _, _, _] tyP_int.sz rfl rfl rfl rfl rfl rfl rfl rfl <| ND <| SQ <| RG <| FA rfl tyF_laws_Receiver_1 rfl <| LS (i := 2) [_, _] rfl tyS_laws_Buffer rfl rfl rfl rfl <| ?_
  refine CN1 rfl fun_laws_toBuffer rfl (fun w hs => laws_toBuffer ⟨_, rfl, (hA0.s Pl.keeps hs)⟩ ⟨hb0, hb1⟩) <| fun vv1 ch1 how1 => ?_
  obtain ⟨cs1, rfl, v1_0, c1_0, rfl, h1_0, rfl⟩ := how1
  obtain ⟨R1_0, b1_0, rfl, hR1_0, hrd1_0⟩ := h1_0.shape eChunk
  refine FA rfl tyF_impl_Receiver_1 rfl <| ST (i := 0) [_, _] [_, _, _, _, _, _] tyS_impl_Buffer.sz rfl rfl rfl rfl rfl rfl rfl rfl <| ND <| SQ <| RG <| FA rfl tyF_laws_Receiver_2 rfl <| LD (i := 2) rfl tyP_int rfl rfl rfl <| FA rfl tyF_impl_Receiver_2 rfl <| ST (i := 0) [_] [_, _, _, _, _, _] tyP_int.sz rfl rfl rfl rfl rfl rfl rfl rfl <| ND <| SQ <| RG <| FA rfl tyF_laws_Receiver_3 rfl <| LD (i := 2) rfl tyP_int rfl rfl rfl <| FA rfl tyF_impl_Receiver_3 rfl <| ST (i := 0) [_] [_, _, _, _, _, _] tyP_int.sz rfl rfl rfl rfl rfl rfl rfl rfl <| ?_
  refine ND <| SQ <| RG <| FA rfl tyF_laws_Receiver_4 rfl <| LD (i := 2) rfl tyP_int rfl rfl rfl <| FA rfl tyF_impl_Receiver_4 rfl <| ST (i := 0) [_] [_, _, _, _, _, _] tyP_int.sz rfl rfl rfl rfl rfl rfl rfl rfl <| ND <| SQ <| RG <| LS (i := 0) [_, _, _, _, _, _] rfl tyS_impl_Receiver rfl rfl rfl rfl <| ST (i := 1) [_, _, _, _, _, _] [_, _, _, _, _, _] tyS_impl_Receiver.sz rfl rfl rfl rfl rfl rfl rfl rfl <| ND <| ?_
  refine ret_cnP (ch := ch1) (G := ch1 ++ ([])) (F' := []) Try.func55 (res1 Try.func55 rfl (rv_s (i := 1) [_, _, _, _, _, _] tyS_impl_Receiver rfl rfl rfl rfl)) ?_ ?_ ?_
  · exact ⟨_, rfl, _, _, rfl, h1_0, rfl⟩
  · exact ((List.Perm.refl _).trans ((List.Perm.refl _).append_left _))
  · simp only []

theorem laws_toWindow (a : Window) (w : World) : CV Try.prog 56 [.agg a.cells.toArray] w (.agg a.cells.toArray) := by
  refine cv_of Try.func56 rfl rfl rfl <| SQ <| RG <| BX [_, _, _, _, _, _] rfl rfl rfl <| fun b1 => AL rfl tyZ_impl_Window <| fun b2 => ND <| SQ <| RG <| AL rfl tyZ_impl_Window <| fun b3 => ND <| SQ <| RG <| FA rfl tyF_laws_Window_0 rfl <| LD (i := 2) rfl tyP_int rfl rfl rfl <| FA rfl tyF_impl_Window_0 rfl <| ST (i := 0) [_] [_, _, _, _, _, _] tyP_int.sz rfl rfl rfl rfl rfl rfl rfl rfl <| ND <| SQ <| RG <| FA rfl tyF_laws_Window_1 rfl <| LD (i := 2) rfl tyP_int rfl rfl rfl <| FA rfl tyF_impl_Window_1 rfl <| ?_
  refine ST (i := 0) [_] [_, _, _, _, _, _] tyP_int.sz rfl rfl rfl rfl rfl rfl rfl rfl <| ND <| SQ <| RG <| FA rfl tyF_laws_Window_2 rfl <| LD (i := 2) rfl tyP_int rfl rfl rfl <| FA rfl tyF_impl_Window_2 rfl <| ST (i := 0) [_] [_, _, _, _, _, _] tyP_int.sz rfl rfl rfl rfl rfl rfl rfl rfl <| ND <| SQ <| RG <| FA rfl tyF_laws_Window_3 rfl <| LD (i := 2) rfl tyP_int rfl rfl rfl <| FA rfl tyF_impl_Window_3 rfl <| ST (i := 0) [_] [_, _, _, _, _, _] tyP_int.sz rfl rfl rfl rfl rfl rfl rfl rfl <| ?_
  refine ND <| SQ <| RG <| FA rfl tyF_laws_Window_4 rfl <| LD (i := 2) rfl tyP_int rfl rfl rfl <| FA rfl tyF_impl_Window_4 rfl <| ST (i := 0) [_] [_, _, _, _, _, _] tyP_int.sz rfl rfl rfl rfl rfl rfl rfl rfl <| ND <| SQ <| RG <| FA rfl tyF_laws_Window_5 rfl <| LD (i := 2) rfl tyP_int rfl rfl rfl <| FA rfl tyF_impl_Window_5 rfl <| ST (i := 0) [_] [_, _, _, _, _, _] tyP_int.sz rfl rfl rfl rfl rfl rfl rfl rfl <| ND <| SQ <| RG <| LS (i := 0) [_, _, _, _, _, _] rfl tyS_impl_Window rfl rfl rfl rfl <| ?_
  refine ST (i := 1) [_, _, _, _, _, _] [_, _, _, _, _, _] tyS_impl_Window.sz rfl rfl rfl rfl rfl rfl rfl rfl <| ND <| ret_cv Try.func56 (res1 Try.func56 rfl (rv_s (i := 1) [_, _, _, _, _, _] tyS_impl_Window rfl rfl rfl rfl)) <| ?_
  rfl

theorem laws_toPriority (a : Priority) (w : World) : CV Try.prog 57 [.agg a.cells.toArray] w (.agg a.cells.toArray) := by
  refine cv_of Try.func57 rfl rfl rfl <| SQ <| RG <| BX [_, _] rfl rfl rfl <| fun b1 => AL rfl tyZ_impl_Priority <| fun b2 => ND <| SQ <| RG <| AL rfl tyZ_impl_Priority <| fun b3 => ND <| SQ <| RG <| FA rfl tyF_laws_Priority_0 rfl <| LD (i := 2) rfl tyP_int rfl rfl rfl <| FA rfl tyF_impl_Priority_0 rfl <| ST (i := 0) [_] [_, _] tyP_int.sz rfl rfl rfl rfl rfl rfl rfl rfl <| ND <| SQ <| RG <| FA rfl tyF_laws_Priority_1 rfl <| LD (i := 2) rfl tyP_bool rfl rfl rfl <| FA rfl tyF_impl_Priority_1 rfl <| ?_
  refine ST (i := 0) [_] [_, _] tyP_bool.sz rfl rfl rfl rfl rfl rfl rfl rfl <| ND <| SQ <| RG <| LS (i := 0) [_, _] rfl tyS_impl_Priority rfl rfl rfl rfl <| ST (i := 1) [_, _] [_, _] tyS_impl_Priority.sz rfl rfl rfl rfl rfl rfl rfl rfl <| ND <| ret_cv Try.func57 (res1 Try.func57 rfl (rv_s (i := 1) [_, _] tyS_impl_Priority rfl rfl rfl rfl)) <| ?_
  rfl

theorem laws_toStream {w : World} {cs : List Value} {x : Stream} (hv : RdStream w cs x) (hb : x.le 1048576) : CN Try.prog 11 [.agg cs.toArray] w (OwV OwStream x) := by
  obtain ⟨v0, v1, v2, v3, v4, rfl, k0, k1, k2, k3, k4⟩ := hv
  obtain ⟨A0, c0, rfl, hA0⟩ := k0
  obtain ⟨A1, c1, rfl, hA1⟩ := k1
  obtain ⟨A2, c2, rfl, hA2⟩ := k2
  obtain ⟨A3, c3, rfl, hA3⟩ := k3
  obtain ⟨A4, c4, rfl, hA4⟩ := k4
  obtain ⟨hb0, hb1, hb2, hb3, hb4, hb5⟩ := hb
  refine cn_of Try.func11 rfl rfl rfl <| SQ <| RG <| BX [_, _, _, _, _, _, _, _, _, _, _, _, _, _, _, _, _, _, _, _, _, _, _, _, _, _, _, _, _, _, _, _, _, _, _, _, _, _, _] rfl rfl rfl <| fun b1 => AL rfl tyZ_impl_Stream <| fun b2 => ND <| SQ <| RG <| AL rfl tyZ_impl_Stream <| fun b3 => ND <| SQ <| RG <| FA rfl tyF_laws_Stream_0 rfl <| LD (i := 2) rfl tyP_int rfl rfl rfl <| FA rfl tyF_impl_Stream_0 rfl <| rw_storeN (i := 0) [_] [_, _, _, _, _, _, _, _, _, _, _, _, _, _, _, _, _, _, _, _, _, _, _, _, _, _, _, _, _, _, _, _, _, _, _, _, _, _, _] [_, _, _] tyP_int.sz rfl rfl rfl rfl rfl rfl rfl rfl rfl <| ?_
  refine ND <| SQ <| RG <| FA rfl tyF_laws_Stream_1 rfl <| LS (i := 2) [_, _, _, _, _, _, _, _, _, _, _, _] rfl tyS_laws_Sender rfl rfl rfl rfl <| CN1 rfl fun_laws_toSender rfl (fun w hs => laws_toSender ⟨_, _, _, _, rfl, (hA0.s Pl.keeps hs), (hA1.s Pl.keeps hs), (hA2.s Pl.keeps hs), (hA3.s Pl.keeps hs)⟩ ⟨hb0, hb1, hb2, hb3⟩) <| fun vv1 ch1 how1 => ?_
  obtain ⟨cs1, rfl, v1_0, v1_1, v1_2, v1_3, c1_0, c1_1, c1_2, c1_3, rfl, h1_0, h1_1, h1_2, h1_3, rfl⟩ := how1
  refine rw_F (F' := c1_0 ++ (c1_1 ++ (c1_2 ++ (c1_3 ++ ([]))))) (by simp only [List.append_assoc]) <| ?_
  obtain ⟨R1_0, b1_0, rfl, hR1_0, hrd1_0⟩ := h1_0.shape eInt
  obtain ⟨R1_1, b1_1, rfl, hR1_1, hrd1_1⟩ := h1_1.shape eRange
  obtain ⟨R1_2, b1_2, rfl, hR1_2, hrd1_2⟩ := h1_2.shape eRange
  obtain ⟨R1_3, b1_3, rfl, hR1_3, hrd1_3⟩ := h1_3.shape eRange
  refine FA rfl tyF_impl_Stream_1 rfl <| rw_storeN (i := 0) [_, _, _, _, _, _, _, _, _, _, _, _] [_, _, _, _, _, _, _, _, _, _, _, _, _, _, _, _, _, _, _, _, _, _, _, _, _, _, _, _, _, _, _, _, _, _, _, _, _, _, _] [_, _, _] tyS_impl_Sender.sz rfl rfl rfl rfl rfl rfl rfl rfl rfl <| ND <| SQ <| RG <| FA rfl tyF_laws_Stream_2 rfl <| LS (i := 2) [_, _, _, _] rfl tyS_laws_Credit rfl rfl rfl rfl <| CV1 rfl fun_laws_toCredit rfl (fun w hs => laws_toCredit _ w) <| FA rfl tyF_impl_Stream_2 rfl <| rw_storeN (i := 0) [_, _, _, _] [_, _, _, _, _, _, _, _, _, _, _, _, _, _, _, _, _, _, _, _, _, _, _, _, _, _, _, _, _, _, _, _, _, _, _, _, _, _, _] [_, _, _] tyS_impl_Credit.sz rfl rfl rfl rfl rfl rfl rfl rfl rfl <| ?_
  refine ND <| SQ <| RG <| FA rfl tyF_laws_Stream_3 rfl <| LS (i := 2) [_, _, _, _, _, _] rfl tyS_laws_Receiver rfl rfl rfl rfl <| CN1 rfl fun_laws_toReceiver rfl (fun w hs => laws_toReceiver ⟨_, rfl, (hA4.s Pl.keeps hs)⟩ ⟨hb4, hb5⟩) <| fun vv2 ch2 how2 => ?_
  obtain ⟨cs2, rfl, v2_0, c2_0, rfl, h2_0, rfl⟩ := how2
  obtain ⟨R2_0, b2_0, rfl, hR2_0, hrd2_0⟩ := h2_0.shape eChunk
  refine FA rfl tyF_impl_Stream_3 rfl <| rw_storeN (i := 0) [_, _, _, _, _, _] [_, _, _, _, _, _, _, _, _, _, _, _, _, _, _, _, _, _, _, _, _, _, _, _, _, _, _, _, _, _, _, _, _, _, _, _, _, _, _] [_, _, _] tyS_impl_Receiver.sz rfl rfl rfl rfl rfl rfl rfl rfl rfl <| ND <| SQ <| RG <| FA rfl tyF_laws_Stream_4 rfl <| LS (i := 2) [_, _, _, _, _, _] rfl tyS_laws_Window rfl rfl rfl rfl <| CV1 rfl fun_laws_toWindow rfl (fun w hs => laws_toWindow _ w) <| FA rfl tyF_impl_Stream_4 rfl <| rw_storeN (i := 0) [_, _, _, _, _, _] [_, _, _, _, _, _, _, _, _, _, _, _, _, _, _, _, _, _, _, _, _, _, _, _, _, _, _, _, _, _, _, _, _, _, _, _, _, _, _] [_, _, _] tyS_impl_Window.sz rfl rfl rfl rfl rfl rfl rfl rfl rfl <| ?_
  refine ND <| SQ <| RG <| FA rfl tyF_laws_Stream_5 rfl <| LS (i := 2) [_, _] rfl tyS_laws_Priority rfl rfl rfl rfl <| CV1 rfl fun_laws_toPriority rfl (fun w hs => laws_toPriority _ w) <| FA rfl tyF_impl_Stream_5 rfl <| rw_storeN (i := 0) [_, _] [_, _, _, _, _, _, _, _, _, _, _, _, _, _, _, _, _, _, _, _, _, _, _, _, _, _, _, _, _, _, _, _, _, _, _, _, _, _, _] [_, _, _] tyS_impl_Priority.sz rfl rfl rfl rfl rfl rfl rfl rfl rfl <| ND <| SQ <| RG <| FA rfl tyF_laws_Stream_6 rfl <| LD (i := 2) rfl tyP_bool rfl rfl rfl <| FA rfl tyF_impl_Stream_6 rfl <| ?_
  refine rw_storeN (i := 0) [_] [_, _, _, _, _, _, _, _, _, _, _, _, _, _, _, _, _, _, _, _, _, _, _, _, _, _, _, _, _, _, _, _, _, _, _, _, _, _, _] [_, _, _] tyP_bool.sz rfl rfl rfl rfl rfl rfl rfl rfl rfl <| ND <| SQ <| RG <| FA rfl tyF_laws_Stream_7 rfl <| LD (i := 2) rfl tyP_bool rfl rfl rfl <| FA rfl tyF_impl_Stream_7 rfl <| rw_storeN (i := 0) [_] [_, _, _, _, _, _, _, _, _, _, _, _, _, _, _, _, _, _, _, _, _, _, _, _, _, _, _, _, _, _, _, _, _, _, _, _, _, _, _] [_, _, _] tyP_bool.sz rfl rfl rfl rfl rfl rfl rfl rfl rfl <| ND <| SQ <| RG <| FA rfl tyF_laws_Stream_8 rfl <| ?_
  refine LD (i := 2) rfl tyP_bool rfl rfl rfl <| FA rfl tyF_impl_Stream_8 rfl <| rw_storeN (i := 0) [_] [_, _, _, _, _, _, _, _, _, _, _, _, _, _, _, _, _, _, _, _, _, _, _, _, _, _, _, _, _, _, _, _, _, _, _, _, _, _, _] [_, _, _] tyP_bool.sz rfl rfl rfl rfl rfl rfl rfl rfl rfl <| ND <| SQ <| RG <| FA rfl tyF_laws_Stream_9 rfl <| LD (i := 2) rfl tyP_bool rfl rfl rfl <| FA rfl tyF_impl_Stream_9 rfl <| rw_storeN (i := 0) [_] [_, _, _, _, _, _, _, _, _, _, _, _, _, _, _, _, _, _, _, _, _, _, _, _, _, _, _, _, _, _, _, _, _, _, _, _, _, _, _] [_, _, _] tyP_bool.sz rfl rfl rfl rfl rfl rfl rfl rfl rfl <| ?_
  refine ND <| SQ <| RG <| FA rfl tyF_laws_Stream_10 rfl <| LD (i := 2) rfl tyP_bool rfl rfl rfl <| FA rfl tyF_impl_Stream_10 rfl <| rw_storeN (i := 0) [_] [_, _, _, _, _, _, _, _, _, _, _, _, _, _, _, _, _, _, _, _, _, _, _, _, _, _, _, _, _, _, _, _, _, _, _, _, _, _, _] [_, _, _] tyP_bool.sz rfl rfl rfl rfl rfl rfl rfl rfl rfl <| ND <| SQ <| RG <| FA rfl tyF_laws_Stream_11 rfl <| LD (i := 2) rfl tyP_bool rfl rfl rfl <| FA rfl tyF_impl_Stream_11 rfl <| rw_storeN (i := 0) [_] [_, _, _, _, _, _, _, _, _, _, _, _, _, _, _, _, _, _, _, _, _, _, _, _, _, _, _, _, _, _, _, _, _, _, _, _, _, _, _] [_, _, _] tyP_bool.sz rfl rfl rfl rfl rfl rfl rfl rfl rfl <| ?_
  refine ND <| SQ <| RG <| FA rfl tyF_laws_Stream_12 rfl <| LD (i := 2) rfl tyP_int rfl rfl rfl <| FA rfl tyF_impl_Stream_12 rfl <| rw_storeN (i := 0) [_] [_, _, _, _, _, _, _, _, _, _, _, _, _, _, _, _, _, _, _, _, _, _, _, _, _, _, _, _, _, _, _, _, _, _, _, _, _, _, _] [_, _, _] tyP_int.sz rfl rfl rfl rfl rfl rfl rfl rfl rfl <| ND <| SQ <| RG <| FA rfl tyF_laws_Stream_13 rfl <| LD (i := 2) rfl tyP_bool rfl rfl rfl <| FA rfl tyF_impl_Stream_13 rfl <| rw_storeN (i := 0) [_] [_, _, _, _, _, _, _, _, _, _, _, _, _, _, _, _, _, _, _, _, _, _, _, _, _, _, _, _, _, _, _, _, _, _, _, _, _, _, _] [_, _, _] tyP_bool.sz rfl rfl rfl rfl rfl rfl rfl rfl rfl <| ?_
  refine ND <| SQ <| RG <| LS (i := 0) [_, _, _, _, _, _, _, _, _, _, _, _, _, _, _, _, _, _, _, _, _, _, _, _, _, _, _, _, _, _, _, _, _, _, _, _, _, _, _] rfl tyS_impl_Stream rfl rfl rfl rfl <| rw_storeN (i := 1) [_, _, _, _, _, _, _, _, _, _, _, _, _, _, _, _, _, _, _, _, _, _, _, _, _, _, _, _, _, _, _, _, _, _, _, _, _, _, _] [_, _, _, _, _, _, _, _, _, _, _, _, _, _, _, _, _, _, _, _, _, _, _, _, _, _, _, _, _, _, _, _, _, _, _, _, _, _, _] [_, _, _] tyS_impl_Stream.sz rfl rfl rfl rfl rfl rfl rfl rfl rfl <| ND <| ?_
  refine ret_cnP (ch := c1_0 ++ (c1_1 ++ (c1_2 ++ (c1_3 ++ (ch2))))) (G := c1_0 ++ (c1_1 ++ (c1_2 ++ (c1_3 ++ (ch2 ++ ([])))))) (F' := []) Try.func11 (res1 Try.func11 rfl (rv_s (i := 1) [_, _, _, _, _, _, _, _, _, _, _, _, _, _, _, _, _, _, _, _, _, _, _, _, _, _, _, _, _, _, _, _, _, _, _, _, _, _, _] tyS_impl_Stream rfl rfl rfl rfl)) ?_ ?_ ?_
  · exact ⟨_, rfl, _, _, _, _, _, _, _, _, _, _, rfl, h1_0, h1_1, h1_2, h1_3, h2_0, rfl⟩
  · exact (((((List.Perm.refl _)).append_left _).trans (pullc _ _ _)).trans ((((((List.Perm.refl _)).append_left _).trans (pullc _ _ _)).trans ((((((List.Perm.refl _)).append_left _).trans (pullc _ _ _)).trans ((((((List.Perm.refl _)).append_left _).trans (pullc _ _ _)).trans (((List.Perm.refl _).trans ((List.Perm.refl _).append_left _)).append_left _)).append_left _)).append_left _)).append_left _))
  · simp only [List.append_assoc]

theorem laws_toStreamS {w : World} {v : Value} {l : List Stream} (hv : RdS w 39 RdStream v l) (hb : l.length ≤ 1048576) (hall : ∀ x ∈ l, x.le 1048576) : CN Try.prog 16 [v] w (fun v ch => OwS 56 39 OwStream v l ch) := by
  obtain ⟨A, c, rfl, hA⟩ := hv
  refine cn_of Try.func16 rfl rfl rfl <| SQ <| RG <| AS rfl rfl <| ND <| SQ <| RG <| MV rfl rfl <| rw_len rfl tyE_S_laws_Stream rfl <| rw_make rfl tyM_S_impl_Stream rfl rfl (by omega) <| fun b1 => AS rfl rfl <| ND <| SQ <| SQ <| RG <| AS rfl rfl <| ND <| BK <| ?_
  refine gw_loopX (α := Nat × List Value × List Ck) (fun z_ => z_.1 ≤ l.length ∧ Ows OwStream (l.take z_.1) z_.2.1 z_.2.2) (fun z_ => l.length - z_.1) (fun e z_ => (4, .int .i64 (z_.1 : Int)) :: e) (fun B z_ => B.set 0 ⟨b1, 56, z_.2.1 ++ (List.replicate (l.length - z_.1) [.int .i64 0, .int .i64 0, .int .i64 0, .int .i64 0, .int .i64 0, .slice none 0 0, .slice none 0 0, .slice none 0 0, .slice none 0 0, .int .i64 0, .int .i64 0, .int .i64 0, .int .i64 0, .int .i64 0, .int .i64 0, .int .i64 0, .int .i64 0, .int .i64 0, .int .i64 0, .slice none 0 0, .int .i64 0, .int .i64 0, .int .i64 0, .int .i64 0, .int .i64 0, .int .i64 0, .int .i64 0, .int .i64 0, .int .i64 0, .int .i64 0, .bool false, .bool false, .bool false, .bool false, .bool false, .bool false, .bool false, .int .i64 0, .bool false]).flatten⟩) (fun F z_ => z_.2.2 ++ F) (0, [], []) [(0, _), (2, _), (3, _)] (Sub.consE rfl rfl (Sub.cons (i := 0) rfl (Sub.cons (i := 2) rfl (Sub.cons (i := 3) rfl (Sub.nil _))))) rfl rfl ?_ ?_
  · exact ⟨Nat.zero_le _, .nil⟩
  · rintro ⟨i, cs, chs⟩ hI1 ih1
    dsimp only at hI1
    dsimp only [List.set]
    obtain ⟨hle, hO⟩ := hI1
    refine SQ <| SQ <| RG <| MV rfl rfl <| MV rfl rfl <| rw_len rfl tyE_S_laws_Stream rfl <| rw_lss rfl rfl rfl <| ND <| ?_
    refine gw_cond rfl (fun h1 => ?_) (fun h1 => ?_)
    · have hi2 := lt_of_dec h1
      obtain ⟨x3, hx3⟩ := get_of_lt hi2
      have hd3 := drop_cons hx3
      refine SK <| SQ <| BK <| RG <| MV rfl rfl <| MV rfl rfl <| MV rfl rfl <| MV rfl rfl <| ?_
      obtain ⟨cse4_, hRe4_, hq4⟩ := hA.get hx3
      obtain ⟨ve4_0, ve4_1, ve4_2, ve4_3, ve4_4, rfl, ke4_0, ke4_1, ke4_2, ke4_3, ke4_4⟩ := hRe4_
      obtain ⟨Ae4_0, ce4_0, rfl, hAe4_0⟩ := ke4_0
      obtain ⟨Ae4_1, ce4_1, rfl, hAe4_1⟩ := ke4_1
      obtain ⟨Ae4_2, ce4_2, rfl, hAe4_2⟩ := ke4_2
      obtain ⟨Ae4_3, ce4_3, rfl, hAe4_3⟩ := ke4_3
      obtain ⟨Ae4_4, ce4_4, rfl, hAe4_4⟩ := ke4_4
      obtain ⟨hbe4_0, hbe4_1, hbe4_2, hbe4_3, hbe4_4, hbe4_5⟩ := hall x3 (List.mem_of_getElem? hx3)
      refine rw_indexAddr (i) rfl tyE_S_laws_Stream rfl rfl rfl (hA.some hi2) hi2 <| rw_loadX_s [_, _, _, _, _, _, _, _, _, _, _, _, _, _, _, _, _, _, _, _, _, _, _, _, _, _, _, _, _, _, _, _, _, _, _, _, _, _, _] rfl tyS_laws_Stream rfl rfl (fun w hs => hq4.lds0 (n := 39) hs rfl) <| CN1 rfl fun_laws_toStream rfl (fun w hs => laws_toStream ⟨_, _, _, _, _, rfl, (hAe4_0.s Pl.keeps hs), (hAe4_1.s Pl.keeps hs), (hAe4_2.s Pl.keeps hs), (hAe4_3.s Pl.keeps hs), (hAe4_4.s Pl.keeps hs)⟩ ⟨hbe4_0, hbe4_1, hbe4_2, hbe4_3, hbe4_4, hbe4_5⟩) <| fun vv5 ch5 how5 => ?_
      obtain ⟨cs5, rfl, v5_0, v5_1, v5_2, v5_3, v5_4, c5_0, c5_1, c5_2, c5_3, c5_4, rfl, h5_0, h5_1, h5_2, h5_3, h5_4, rfl⟩ := how5
      refine rw_F (F' := c5_0 ++ (c5_1 ++ (c5_2 ++ (c5_3 ++ (c5_4 ++ (chs ++ ([]))))))) (by simp only [List.append_assoc]) <| ?_
      obtain ⟨R5_0, b5_0, rfl, hR5_0, hrd5_0⟩ := h5_0.shape eInt
      obtain ⟨R5_1, b5_1, rfl, hR5_1, hrd5_1⟩ := h5_1.shape eRange
      obtain ⟨R5_2, b5_2, rfl, hR5_2, hrd5_2⟩ := h5_2.shape eRange
      obtain ⟨R5_3, b5_3, rfl, hR5_3, hrd5_3⟩ := h5_3.shape eRange
      obtain ⟨R5_4, b5_4, rfl, hR5_4, hrd5_4⟩ := h5_4.shape eChunk
      refine rw_indexAddrO (i) rfl tyE_S_impl_Stream rfl rfl rfl hi2 <| rw_storeMade (j := 0) [_, _, _, _, _, _, _, _, _, _, _, _, _, _, _, _, _, _, _, _, _, _, _, _, _, _, _, _, _, _, _, _, _, _, _, _, _, _, _] tyS_impl_Stream.sz rfl rfl rfl rfl rfl rfl (by rw [hO.length eStream, List.length_take]; congr 1; omega) hi2 (eStream.one ⟨_, _, _, _, _, _, _, _, _, _, rfl, by assumption, by assumption, by assumption, by assumption, by assumption, rfl⟩) <| ND <| IB <| RG <| MV rfl rfl <| rw_add rfl rfl rfl <| AS rfl rfl <| ND <| ?_
      refine gw_FP (((((((((((((((((List.Perm.refl _)).append_left _).trans (pullc _ _ _))).append_left _).trans (pullc _ _ _))).append_left _).trans (pullc _ _ _))).append_left _).trans (pullc _ _ _))).append_left _).trans (pullc _ _ _)).trans (((List.Perm.refl _).trans (((List.Perm.refl _).trans (((List.Perm.refl _).trans (((List.Perm.refl _).trans (((List.Perm.refl _).trans ((List.Perm.refl _).append_left _)).append_left _)).append_left _)).append_left _)).append_left _)).append_left _)) (gw_F (F' := (chs ++ (c5_0 ++ (c5_1 ++ (c5_2 ++ (c5_3 ++ (c5_4)))))) ++ ([])) (by simp only [List.append_assoc]) ?_)
      refine gw_sub (Sub.consE (i := 4) rfl (int_succ (by omega)) (Sub.cons (i := 0) rfl (Sub.cons (i := 2) rfl (Sub.cons (i := 3) rfl (Sub.nil _))))) (ih1 (i + 1, cs ++ Stream.row x3 (.slice R5_0 x3.send.ring.cells.length b5_0) (.slice R5_1 x3.send.pending.length b5_1) (.slice R5_2 x3.send.flight.length b5_2) (.slice R5_3 x3.send.acked.length b5_3) (.slice R5_4 x3.recv.buffer.chunks.length b5_4), chs ++ (c5_0 ++ (c5_1 ++ (c5_2 ++ (c5_3 ++ (c5_4)))))) ?_ ?_)
      · exact ⟨by omega, ows_step hO hx3 ⟨_, _, _, _, _, _, _, _, _, _, rfl, h5_0, h5_1, h5_2, h5_3, h5_4, rfl⟩⟩
      · show l.length - (i + 1) < l.length - i; omega
    · have hn6 := nil_of_dec h1
      refine EX rfl <| SQ <| RG <| MV rfl rfl <| AS rfl rfl <| ND <| ?_
      refine ret_cn (⟨b1, 56, cs ++ (List.replicate (l.length - i) [.int .i64 0, .int .i64 0, .int .i64 0, .int .i64 0, .int .i64 0, .slice none 0 0, .slice none 0 0, .slice none 0 0, .slice none 0 0, .int .i64 0, .int .i64 0, .int .i64 0, .int .i64 0, .int .i64 0, .int .i64 0, .int .i64 0, .int .i64 0, .int .i64 0, .int .i64 0, .slice none 0 0, .int .i64 0, .int .i64 0, .int .i64 0, .int .i64 0, .int .i64 0, .int .i64 0, .int .i64 0, .int .i64 0, .int .i64 0, .int .i64 0, .bool false, .bool false, .bool false, .bool false, .bool false, .bool false, .bool false, .int .i64 0, .bool false]).flatten⟩ :: chs) Try.func16 (res1 Try.func16 rfl (rv_tmp rfl)) ?_ ?_
      · exact ows_made eStream hO hle hn6 (by omega)
      · simp

theorem laws_toCount (a : Count) (w : World) : CV Try.prog 85 [.agg a.cells.toArray] w (.agg a.cells.toArray) := by
  refine cv_of Try.func85 rfl rfl rfl <| SQ <| RG <| BX [_, _, _] rfl rfl rfl <| fun b1 => AL rfl tyZ_impl_Count <| fun b2 => ND <| SQ <| RG <| AL rfl tyZ_impl_Count <| fun b3 => ND <| SQ <| RG <| FA rfl tyF_laws_Count_0 rfl <| LD (i := 2) rfl tyP_int rfl rfl rfl <| FA rfl tyF_impl_Count_0 rfl <| ST (i := 0) [_] [_, _, _] tyP_int.sz rfl rfl rfl rfl rfl rfl rfl rfl <| ND <| SQ <| RG <| FA rfl tyF_laws_Count_1 rfl <| LD (i := 2) rfl tyP_int rfl rfl rfl <| FA rfl tyF_impl_Count_1 rfl <| ?_
  refine ST (i := 0) [_] [_, _, _] tyP_int.sz rfl rfl rfl rfl rfl rfl rfl rfl <| ND <| SQ <| RG <| FA rfl tyF_laws_Count_2 rfl <| LD (i := 2) rfl tyP_int rfl rfl rfl <| FA rfl tyF_impl_Count_2 rfl <| ST (i := 0) [_] [_, _, _] tyP_int.sz rfl rfl rfl rfl rfl rfl rfl rfl <| ND <| SQ <| RG <| LS (i := 0) [_, _, _] rfl tyS_impl_Count rfl rfl rfl rfl <| ST (i := 1) [_, _, _] [_, _, _] tyS_impl_Count.sz rfl rfl rfl rfl rfl rfl rfl rfl <| ND <| ret_cv Try.func85 (res1 Try.func85 rfl (rv_s (i := 1) [_, _, _] tyS_impl_Count rfl rfl rfl rfl)) <| ?_
  rfl

theorem laws_toAllow (a : Allow) (w : World) : CV Try.prog 86 [.agg a.cells.toArray] w (.agg a.cells.toArray) := by
  refine cv_of Try.func86 rfl rfl rfl <| SQ <| RG <| BX [_, _, _, _] rfl rfl rfl <| fun b1 => AL rfl tyZ_impl_Allow <| fun b2 => ND <| SQ <| RG <| AL rfl tyZ_impl_Allow <| fun b3 => ND <| SQ <| RG <| FA rfl tyF_laws_Allow_0 rfl <| LD (i := 2) rfl tyP_int rfl rfl rfl <| FA rfl tyF_impl_Allow_0 rfl <| ST (i := 0) [_] [_, _, _, _] tyP_int.sz rfl rfl rfl rfl rfl rfl rfl rfl <| ND <| SQ <| RG <| FA rfl tyF_laws_Allow_1 rfl <| LD (i := 2) rfl tyP_int rfl rfl rfl <| FA rfl tyF_impl_Allow_1 rfl <| ?_
  refine ST (i := 0) [_] [_, _, _, _] tyP_int.sz rfl rfl rfl rfl rfl rfl rfl rfl <| ND <| SQ <| RG <| FA rfl tyF_laws_Allow_2 rfl <| LD (i := 2) rfl tyP_int rfl rfl rfl <| FA rfl tyF_impl_Allow_2 rfl <| ST (i := 0) [_] [_, _, _, _] tyP_int.sz rfl rfl rfl rfl rfl rfl rfl rfl <| ND <| SQ <| RG <| FA rfl tyF_laws_Allow_3 rfl <| LD (i := 2) rfl tyP_int rfl rfl rfl <| FA rfl tyF_impl_Allow_3 rfl <| ST (i := 0) [_] [_, _, _, _] tyP_int.sz rfl rfl rfl rfl rfl rfl rfl rfl <| ND <| SQ <| RG <| ?_
  refine LS (i := 0) [_, _, _, _] rfl tyS_impl_Allow rfl rfl rfl rfl <| ST (i := 1) [_, _, _, _] [_, _, _, _] tyS_impl_Allow.sz rfl rfl rfl rfl rfl rfl rfl rfl <| ND <| ret_cv Try.func86 (res1 Try.func86 rfl (rv_s (i := 1) [_, _, _, _] tyS_impl_Allow rfl rfl rfl rfl)) <| ?_
  rfl

theorem laws_toFrame (a : Frame') (w : World) : CV Try.prog 219 [.agg a.cells.toArray] w (.agg a.cells.toArray) := by
  refine cv_of Try.func219 rfl rfl rfl <| SQ <| RG <| BX [_, _, _, _, _, _, _, _, _] rfl rfl rfl <| fun b1 => AL rfl tyZ_impl_Frame <| fun b2 => ND <| SQ <| RG <| AL rfl tyZ_impl_Frame <| fun b3 => ND <| SQ <| RG <| FA rfl tyF_laws_Frame_0 rfl <| LD (i := 2) rfl tyP_int rfl rfl rfl <| FA rfl tyF_impl_Frame_0 rfl <| ST (i := 0) [_] [_, _, _, _, _, _, _, _, _] tyP_int.sz rfl rfl rfl rfl rfl rfl rfl rfl <| ND <| SQ <| RG <| FA rfl tyF_laws_Frame_1 rfl <| LD (i := 2) rfl tyP_int rfl rfl rfl <| ?_
  refine FA rfl tyF_impl_Frame_1 rfl <| ST (i := 0) [_] [_, _, _, _, _, _, _, _, _] tyP_int.sz rfl rfl rfl rfl rfl rfl rfl rfl <| ND <| SQ <| RG <| FA rfl tyF_laws_Frame_2 rfl <| LD (i := 2) rfl tyP_int rfl rfl rfl <| FA rfl tyF_impl_Frame_2 rfl <| ST (i := 0) [_] [_, _, _, _, _, _, _, _, _] tyP_int.sz rfl rfl rfl rfl rfl rfl rfl rfl <| ND <| SQ <| RG <| FA rfl tyF_laws_Frame_3 rfl <| LD (i := 2) rfl tyP_string rfl rfl rfl <| FA rfl tyF_impl_Frame_3 rfl <| ST (i := 0) [_] [_, _, _, _, _, _, _, _, _] tyP_string.sz rfl rfl rfl rfl rfl rfl rfl rfl <| ?_
  refine ND <| SQ <| RG <| FA rfl tyF_laws_Frame_4 rfl <| LD (i := 2) rfl tyP_bool rfl rfl rfl <| FA rfl tyF_impl_Frame_4 rfl <| ST (i := 0) [_] [_, _, _, _, _, _, _, _, _] tyP_bool.sz rfl rfl rfl rfl rfl rfl rfl rfl <| ND <| SQ <| RG <| FA rfl tyF_laws_Frame_5 rfl <| LD (i := 2) rfl tyP_int rfl rfl rfl <| FA rfl tyF_impl_Frame_5 rfl <| ST (i := 0) [_] [_, _, _, _, _, _, _, _, _] tyP_int.sz rfl rfl rfl rfl rfl rfl rfl rfl <| ND <| SQ <| RG <| FA rfl tyF_laws_Frame_6 rfl <| LD (i := 2) rfl tyP_int rfl rfl rfl <| ?_
  refine FA rfl tyF_impl_Frame_6 rfl <| ST (i := 0) [_] [_, _, _, _, _, _, _, _, _] tyP_int.sz rfl rfl rfl rfl rfl rfl rfl rfl <| ND <| SQ <| RG <| FA rfl tyF_laws_Frame_7 rfl <| LD (i := 2) rfl tyP_int rfl rfl rfl <| FA rfl tyF_impl_Frame_7 rfl <| ST (i := 0) [_] [_, _, _, _, _, _, _, _, _] tyP_int.sz rfl rfl rfl rfl rfl rfl rfl rfl <| ND <| SQ <| RG <| FA rfl tyF_laws_Frame_8 rfl <| LD (i := 2) rfl tyP_bool rfl rfl rfl <| FA rfl tyF_impl_Frame_8 rfl <| ST (i := 0) [_] [_, _, _, _, _, _, _, _, _] tyP_bool.sz rfl rfl rfl rfl rfl rfl rfl rfl <| ?_
  refine ND <| SQ <| RG <| LS (i := 0) [_, _, _, _, _, _, _, _, _] rfl tyS_impl_Frame rfl rfl rfl rfl <| ST (i := 1) [_, _, _, _, _, _, _, _, _] [_, _, _, _, _, _, _, _, _] tyS_impl_Frame.sz rfl rfl rfl rfl rfl rfl rfl rfl <| ND <| ret_cv Try.func219 (res1 Try.func219 rfl (rv_s (i := 1) [_, _, _, _, _, _, _, _, _] tyS_impl_Frame rfl rfl rfl rfl)) <| ?_
  rfl

theorem laws_toFrameS {w : World} {v : Value} {l : List Frame'} (hv : RdS w 9 (Pl Frame'.cells) v l) (hb : l.length ≤ 1048576) : CN Try.prog 207 [v] w (fun v ch => OwS 230 9 (PlO Frame'.cells) v l ch) := by
  obtain ⟨A, c, rfl, hA⟩ := hv
  refine cn_of Try.func207 rfl rfl rfl <| SQ <| RG <| AS rfl rfl <| ND <| SQ <| RG <| MV rfl rfl <| rw_len rfl tyE_S_laws_Frame rfl <| rw_make rfl tyM_S_impl_Frame rfl rfl (by omega) <| fun b1 => AS rfl rfl <| ND <| SQ <| SQ <| RG <| AS rfl rfl <| ND <| BK <| ?_
  refine gw_loopX (α := Nat × List Value × List Ck) (fun z_ => z_.1 ≤ l.length ∧ Ows (PlO Frame'.cells) (l.take z_.1) z_.2.1 z_.2.2) (fun z_ => l.length - z_.1) (fun e z_ => (4, .int .i64 (z_.1 : Int)) :: e) (fun B z_ => B.set 0 ⟨b1, 230, z_.2.1 ++ (List.replicate (l.length - z_.1) [.int .i64 0, .int .i64 0, .int .i64 0, .string ByteArray.empty, .bool false, .int .i64 0, .int .i64 0, .int .i64 0, .bool false]).flatten⟩) (fun F z_ => z_.2.2 ++ F) (0, [], []) [(0, _), (2, _), (3, _)] (Sub.consE rfl rfl (Sub.cons (i := 0) rfl (Sub.cons (i := 2) rfl (Sub.cons (i := 3) rfl (Sub.nil _))))) rfl rfl ?_ ?_
  · exact ⟨Nat.zero_le _, .nil⟩
  · rintro ⟨i, cs, chs⟩ hI1 ih1
    dsimp only at hI1
    dsimp only [List.set]
    obtain ⟨hle, hO⟩ := hI1
    refine SQ <| SQ <| RG <| MV rfl rfl <| MV rfl rfl <| rw_len rfl tyE_S_laws_Frame rfl <| rw_lss rfl rfl rfl <| ND <| ?_
    refine gw_cond rfl (fun h1 => ?_) (fun h1 => ?_)
    · have hi2 := lt_of_dec h1
      obtain ⟨x3, hx3⟩ := get_of_lt hi2
      have hd3 := drop_cons hx3
      refine SK <| SQ <| BK <| RG <| MV rfl rfl <| MV rfl rfl <| MV rfl rfl <| MV rfl rfl <| ?_
      have hq4 := hA.plain hx3
      refine rw_indexAddr (i) rfl tyE_S_laws_Frame rfl rfl rfl (hA.some hi2) hi2 <| rw_loadX_s [_, _, _, _, _, _, _, _, _] rfl tyS_laws_Frame rfl rfl (fun w hs => hq4.lds0 (n := 9) hs rfl) <| CV1 rfl fun_laws_toFrame rfl (fun w hs => laws_toFrame _ w) <| rw_indexAddrO (i) rfl tyE_S_impl_Frame rfl rfl rfl hi2 <| rw_storeMade (j := 0) [_, _, _, _, _, _, _, _, _] tyS_impl_Frame.sz rfl rfl rfl rfl rfl rfl (by rw [hO.length eFrame, List.length_take]; congr 1; omega) hi2 (eFrame.one ⟨rfl, rfl⟩) <| ND <| IB <| RG <| MV rfl rfl <| rw_add rfl rfl rfl <| AS rfl rfl <| ?_
      refine ND <| ?_
      refine gw_sub (Sub.consE (i := 4) rfl (int_succ (by omega)) (Sub.cons (i := 0) rfl (Sub.cons (i := 2) rfl (Sub.cons (i := 3) rfl (Sub.nil _))))) (ih1 (i + 1, cs ++ (Frame'.cells x3), chs) ?_ ?_)
      · exact ⟨by omega, by simpa using ows_step hO hx3 (ch := []) ⟨rfl, rfl⟩⟩
      · show l.length - (i + 1) < l.length - i; omega
    · have hn5 := nil_of_dec h1
      refine EX rfl <| SQ <| RG <| MV rfl rfl <| AS rfl rfl <| ND <| ?_
      refine ret_cn (⟨b1, 230, cs ++ (List.replicate (l.length - i) [.int .i64 0, .int .i64 0, .int .i64 0, .string ByteArray.empty, .bool false, .int .i64 0, .int .i64 0, .int .i64 0, .bool false]).flatten⟩ :: chs) Try.func207 (res1 Try.func207 rfl (rv_tmp rfl)) ?_ ?_
      · exact ows_made eFrame hO hle hn5 (by omega)
      · simp

theorem laws_toPacket {w : World} {cs : List Value} {x : Packet} (hv : RdPacket w cs x) (hb : x.le 1048576) : CN Try.prog 154 [.agg cs.toArray] w (OwV OwPacket x) := by
  obtain ⟨v0, rfl, k0⟩ := hv
  obtain ⟨A0, c0, rfl, hA0⟩ := k0
  obtain ⟨hb0, hb1⟩ := hb
  refine cn_of Try.func154 rfl rfl rfl <| SQ <| RG <| BX [_, _] rfl rfl rfl <| fun b1 => AL rfl tyZ_impl_Packet <| fun b2 => ND <| SQ <| RG <| AL rfl tyZ_impl_Packet <| fun b3 => ND <| SQ <| RG <| FA rfl tyF_laws_Packet_0 rfl <| LD (i := 2) rfl tyP_int rfl rfl rfl <| FA rfl tyF_impl_Packet_0 rfl <| ST (i := 0) [_] [_, _] tyP_int.sz rfl rfl rfl rfl rfl rfl rfl rfl <| ND <| SQ <| RG <| FA rfl tyF_laws_Packet_1 rfl <| LD (i := 2) rfl tyP_S_laws_Frame rfl rfl rfl <| CN1 rfl fun_laws_toFrameS rfl (fun w hs => laws_toFrameS (hA0.s Pl.keeps hs) (by omega)) <| fun v1 ch1 how1 => ?_
  obtain ⟨R1, rc1, rfl, hR1, hrd1⟩ := how1.shape eFrame
  refine FA rfl tyF_impl_Packet_1 rfl <| ST (i := 0) [_] [_, _] tyP_S_impl_Frame.sz rfl rfl rfl rfl rfl rfl rfl rfl <| ND <| SQ <| RG <| LS (i := 0) [_, _] rfl tyS_impl_Packet rfl rfl rfl rfl <| ST (i := 1) [_, _] [_, _] tyS_impl_Packet.sz rfl rfl rfl rfl rfl rfl rfl rfl <| ND <| ?_
  refine ret_cnP (ch := ch1) (G := ch1 ++ ([])) (F' := []) Try.func154 (res1 Try.func154 rfl (rv_s (i := 1) [_, _] tyS_impl_Packet rfl rfl rfl rfl)) ?_ ?_ ?_
  · exact ⟨_, rfl, _, _, rfl, how1, rfl⟩
  · exact ((List.Perm.refl _).trans ((List.Perm.refl _).append_left _))
  · simp only []

theorem laws_toPacketS {w : World} {v : Value} {l : List Packet} (hv : RdS w 2 RdPacket v l) (hb : l.length ≤ 1048576) (hall : ∀ x ∈ l, x.le 1048576) : CN Try.prog 87 [v] w (fun v ch => OwS 195 2 OwPacket v l ch) := by
  obtain ⟨A, c, rfl, hA⟩ := hv
  refine cn_of Try.func87 rfl rfl rfl <| SQ <| RG <| AS rfl rfl <| ND <| SQ <| RG <| MV rfl rfl <| rw_len rfl tyE_S_laws_Packet rfl <| rw_make rfl tyM_S_impl_Packet rfl rfl (by omega) <| fun b1 => AS rfl rfl <| ND <| SQ <| SQ <| RG <| AS rfl rfl <| ND <| BK <| ?_
  refine gw_loopX (α := Nat × List Value × List Ck) (fun z_ => z_.1 ≤ l.length ∧ Ows OwPacket (l.take z_.1) z_.2.1 z_.2.2) (fun z_ => l.length - z_.1) (fun e z_ => (4, .int .i64 (z_.1 : Int)) :: e) (fun B z_ => B.set 0 ⟨b1, 195, z_.2.1 ++ (List.replicate (l.length - z_.1) [.int .i64 0, .slice none 0 0]).flatten⟩) (fun F z_ => z_.2.2 ++ F) (0, [], []) [(0, _), (2, _), (3, _)] (Sub.consE rfl rfl (Sub.cons (i := 0) rfl (Sub.cons (i := 2) rfl (Sub.cons (i := 3) rfl (Sub.nil _))))) rfl rfl ?_ ?_
  · exact ⟨Nat.zero_le _, .nil⟩
  · rintro ⟨i, cs, chs⟩ hI1 ih1
    dsimp only at hI1
    dsimp only [List.set]
    obtain ⟨hle, hO⟩ := hI1
    refine SQ <| SQ <| RG <| MV rfl rfl <| MV rfl rfl <| rw_len rfl tyE_S_laws_Packet rfl <| rw_lss rfl rfl rfl <| ND <| ?_
    refine gw_cond rfl (fun h1 => ?_) (fun h1 => ?_)
    · have hi2 := lt_of_dec h1
      obtain ⟨x3, hx3⟩ := get_of_lt hi2
      have hd3 := drop_cons hx3
      refine SK <| SQ <| BK <| RG <| MV rfl rfl <| MV rfl rfl <| MV rfl rfl <| MV rfl rfl <| ?_
      obtain ⟨cse4_, hRe4_, hq4⟩ := hA.get hx3
      obtain ⟨ve4_0, rfl, ke4_0⟩ := hRe4_
      obtain ⟨Ae4_0, ce4_0, rfl, hAe4_0⟩ := ke4_0
      obtain ⟨hbe4_0, hbe4_1⟩ := hall x3 (List.mem_of_getElem? hx3)
      refine rw_indexAddr (i) rfl tyE_S_laws_Packet rfl rfl rfl (hA.some hi2) hi2 <| rw_loadX_s [_, _] rfl tyS_laws_Packet rfl rfl (fun w hs => hq4.lds0 (n := 2) hs rfl) <| CN1 rfl fun_laws_toPacket rfl (fun w hs => laws_toPacket ⟨_, rfl, (hAe4_0.s Pl.keeps hs)⟩ ⟨hbe4_0, hbe4_1⟩) <| fun vv5 ch5 how5 => ?_
      obtain ⟨cs5, rfl, v5_0, c5_0, rfl, h5_0, rfl⟩ := how5
      obtain ⟨R5_0, b5_0, rfl, hR5_0, hrd5_0⟩ := h5_0.shape eFrame
      refine rw_indexAddrO (i) rfl tyE_S_impl_Packet rfl rfl rfl hi2 <| rw_storeMade (j := 0) [_, _] tyS_impl_Packet.sz rfl rfl rfl rfl rfl rfl (by rw [hO.length ePacket, List.length_take]; congr 1; omega) hi2 (ePacket.one ⟨_, _, rfl, by assumption, rfl⟩) <| ND <| IB <| RG <| MV rfl rfl <| rw_add rfl rfl rfl <| AS rfl rfl <| ND <| ?_
      refine gw_FP (((((List.Perm.refl _)).append_left _).trans (pullc _ _ _)).trans (((List.Perm.refl _).trans ((List.Perm.refl _).append_left _)).append_left _)) (gw_F (F' := (chs ++ (ch5)) ++ ([])) (by simp only [List.append_assoc]) ?_)
      refine gw_sub (Sub.consE (i := 4) rfl (int_succ (by omega)) (Sub.cons (i := 0) rfl (Sub.cons (i := 2) rfl (Sub.cons (i := 3) rfl (Sub.nil _))))) (ih1 (i + 1, cs ++ Packet.row x3 (.slice R5_0 x3.frames.length b5_0), chs ++ (ch5)) ?_ ?_)
      · exact ⟨by omega, ows_step hO hx3 ⟨_, _, rfl, h5_0, rfl⟩⟩
      · show l.length - (i + 1) < l.length - i; omega
    · have hn6 := nil_of_dec h1
      refine EX rfl <| SQ <| RG <| MV rfl rfl <| AS rfl rfl <| ND <| ?_
      refine ret_cn (⟨b1, 195, cs ++ (List.replicate (l.length - i) [.int .i64 0, .slice none 0 0]).flatten⟩ :: chs) Try.func87 (res1 Try.func87 rfl (rv_tmp rfl)) ?_ ?_
      · exact ows_made ePacket hO hle hn6 (by omega)
      · simp

set_option maxHeartbeats 2000000 in
theorem laws_toConn {w : World} {cs : List Value} {x : Conn} (hv : RdConn w cs x) (hb : x.le 1048576) : CN Try.prog 26 [.agg cs.toArray] w (OwV OwConn x) := by
  obtain ⟨v0, v1, rfl, k0, k1⟩ := hv
  obtain ⟨A0, c0, rfl, hA0⟩ := k0
  obtain ⟨A1, c1, rfl, hA1⟩ := k1
  obtain ⟨hb0, hb1, hb2, hb3⟩ := hb
  refine cn_of Try.func26 rfl rfl rfl <| SQ <| RG <| BX [_, _, _, _, _, _, _, _, _, _, _, _, _, _, _, _, _, _, _, _, _, _, _, _, _, _, _, _, _, _, _, _, _, _, _, _, _, _, _, _, _, _, _, _, _, _, _, _, _, _] rfl rfl rfl <| fun b1 => AL rfl tyZ_impl_Conn <| fun b2 => ND <| SQ <| RG <| AL rfl tyZ_impl_Conn <| fun b3 => ND <| SQ <| RG <| FA rfl tyF_laws_Conn_0 rfl <| LD (i := 2) rfl tyP_bool rfl rfl rfl <| FA rfl tyF_impl_Conn_0 rfl <| rw_storeN (i := 0) [_] [_, _, _, _, _, _, _, _, _, _, _, _, _, _, _, _, _, _, _, _, _, _, _, _, _, _, _, _, _, _, _, _, _, _, _, _, _, _, _, _, _, _, _, _, _, _, _, _, _, _] [_, _, _] tyP_bool.sz rfl rfl rfl rfl rfl rfl rfl rfl rfl <| ?_
  refine ND <| SQ <| RG <| FA rfl tyF_laws_Conn_1 rfl <| LS (i := 2) [_, _, _, _, _, _, _, _] rfl tyS_laws_Conf rfl rfl rfl rfl <| CV1 rfl fun_laws_toConf rfl (fun w hs => laws_toConf _ w) <| FA rfl tyF_impl_Conn_1 rfl <| rw_storeN (i := 0) [_, _, _, _, _, _, _, _] [_, _, _, _, _, _, _, _, _, _, _, _, _, _, _, _, _, _, _, _, _, _, _, _, _, _, _, _, _, _, _, _, _, _, _, _, _, _, _, _, _, _, _, _, _, _, _, _, _, _] [_, _, _] tyS_impl_Conf.sz rfl rfl rfl rfl rfl rfl rfl rfl rfl <| ND <| SQ <| RG <| FA rfl tyF_laws_Conn_2 rfl <| LS (i := 2) [_, _, _, _, _, _, _, _] rfl tyS_laws_Conf rfl rfl rfl rfl <| ?_
  refine CV1 rfl fun_laws_toConf rfl (fun w hs => laws_toConf _ w) <| FA rfl tyF_impl_Conn_2 rfl <| rw_storeN (i := 0) [_, _, _, _, _, _, _, _] [_, _, _, _, _, _, _, _, _, _, _, _, _, _, _, _, _, _, _, _, _, _, _, _, _, _, _, _, _, _, _, _, _, _, _, _, _, _, _, _, _, _, _, _, _, _, _, _, _, _] [_, _, _] tyS_impl_Conf.sz rfl rfl rfl rfl rfl rfl rfl rfl rfl <| ND <| SQ <| RG <| FA rfl tyF_laws_Conn_3 rfl <| LD (i := 2) rfl tyP_S_laws_Stream rfl rfl rfl <| CN1 rfl fun_laws_toStreamS rfl (fun w hs => laws_toStreamS (hA0.s RdStream.keeps hs) hb0 hb1) <| fun v1 ch1 how1 => ?_
  obtain ⟨R1, rc1, rfl, hR1, hrd1⟩ := how1.shape eStream
  refine FA rfl tyF_impl_Conn_3 rfl <| rw_storeN (i := 0) [_] [_, _, _, _, _, _, _, _, _, _, _, _, _, _, _, _, _, _, _, _, _, _, _, _, _, _, _, _, _, _, _, _, _, _, _, _, _, _, _, _, _, _, _, _, _, _, _, _, _, _] [_, _, _] tyP_S_impl_Stream.sz rfl rfl rfl rfl rfl rfl rfl rfl rfl <| ND <| SQ <| RG <| FA rfl tyF_laws_Conn_4 rfl <| LS (i := 2) [_, _, _, _] rfl tyS_laws_Credit rfl rfl rfl rfl <| CV1 rfl fun_laws_toCredit rfl (fun w hs => laws_toCredit _ w) <| FA rfl tyF_impl_Conn_4 rfl <| rw_storeN (i := 0) [_, _, _, _] [_, _, _, _, _, _, _, _, _, _, _, _, _, _, _, _, _, _, _, _, _, _, _, _, _, _, _, _, _, _, _, _, _, _, _, _, _, _, _, _, _, _, _, _, _, _, _, _, _, _] [_, _, _] tyS_impl_Credit.sz rfl rfl rfl rfl rfl rfl rfl rfl rfl <| ?_
  refine ND <| SQ <| RG <| FA rfl tyF_laws_Conn_5 rfl <| LS (i := 2) [_, _, _, _, _, _] rfl tyS_laws_Window rfl rfl rfl rfl <| CV1 rfl fun_laws_toWindow rfl (fun w hs => laws_toWindow _ w) <| FA rfl tyF_impl_Conn_5 rfl <| rw_storeN (i := 0) [_, _, _, _, _, _] [_, _, _, _, _, _, _, _, _, _, _, _, _, _, _, _, _, _, _, _, _, _, _, _, _, _, _, _, _, _, _, _, _, _, _, _, _, _, _, _, _, _, _, _, _, _, _, _, _, _] [_, _, _] tyS_impl_Window.sz rfl rfl rfl rfl rfl rfl rfl rfl rfl <| ND <| SQ <| RG <| FA rfl tyF_laws_Conn_6 rfl <| LS (i := 2) [_, _, _] rfl tyS_laws_Count rfl rfl rfl rfl <| ?_
  refine CV1 rfl fun_laws_toCount rfl (fun w hs => laws_toCount _ w) <| FA rfl tyF_impl_Conn_6 rfl <| rw_storeN (i := 0) [_, _, _] [_, _, _, _, _, _, _, _, _, _, _, _, _, _, _, _, _, _, _, _, _, _, _, _, _, _, _, _, _, _, _, _, _, _, _, _, _, _, _, _, _, _, _, _, _, _, _, _, _, _] [_, _, _] tyS_impl_Count.sz rfl rfl rfl rfl rfl rfl rfl rfl rfl <| ND <| SQ <| RG <| FA rfl tyF_laws_Conn_7 rfl <| LS (i := 2) [_, _, _] rfl tyS_laws_Count rfl rfl rfl rfl <| CV1 rfl fun_laws_toCount rfl (fun w hs => laws_toCount _ w) <| FA rfl tyF_impl_Conn_7 rfl <| ?_
  refine rw_storeN (i := 0) [_, _, _] [_, _, _, _, _, _, _, _, _, _, _, _, _, _, _, _, _, _, _, _, _, _, _, _, _, _, _, _, _, _, _, _, _, _, _, _, _, _, _, _, _, _, _, _, _, _, _, _, _, _] [_, _, _] tyS_impl_Count.sz rfl rfl rfl rfl rfl rfl rfl rfl rfl <| ND <| SQ <| RG <| FA rfl tyF_laws_Conn_8 rfl <| LS (i := 2) [_, _, _, _] rfl tyS_laws_Allow rfl rfl rfl rfl <| CV1 rfl fun_laws_toAllow rfl (fun w hs => laws_toAllow _ w) <| FA rfl tyF_impl_Conn_8 rfl <| rw_storeN (i := 0) [_, _, _, _] [_, _, _, _, _, _, _, _, _, _, _, _, _, _, _, _, _, _, _, _, _, _, _, _, _, _, _, _, _, _, _, _, _, _, _, _, _, _, _, _, _, _, _, _, _, _, _, _, _, _] [_, _, _] tyS_impl_Allow.sz rfl rfl rfl rfl rfl rfl rfl rfl rfl <| ?_
  refine ND <| SQ <| RG <| FA rfl tyF_laws_Conn_9 rfl <| LS (i := 2) [_, _, _, _] rfl tyS_laws_Allow rfl rfl rfl rfl <| CV1 rfl fun_laws_toAllow rfl (fun w hs => laws_toAllow _ w) <| FA rfl tyF_impl_Conn_9 rfl <| rw_storeN (i := 0) [_, _, _, _] [_, _, _, _, _, _, _, _, _, _, _, _, _, _, _, _, _, _, _, _, _, _, _, _, _, _, _, _, _, _, _, _, _, _, _, _, _, _, _, _, _, _, _, _, _, _, _, _, _, _] [_, _, _] tyS_impl_Allow.sz rfl rfl rfl rfl rfl rfl rfl rfl rfl <| ND <| SQ <| RG <| FA rfl tyF_laws_Conn_10 rfl <| LD (i := 2) rfl tyP_bool rfl rfl rfl <| ?_
  refine FA rfl tyF_impl_Conn_10 rfl <| rw_storeN (i := 0) [_] [_, _, _, _, _, _, _, _, _, _, _, _, _, _, _, _, _, _, _, _, _, _, _, _, _, _, _, _, _, _, _, _, _, _, _, _, _, _, _, _, _, _, _, _, _, _, _, _, _, _] [_, _, _] tyP_bool.sz rfl rfl rfl rfl rfl rfl rfl rfl rfl <| ND <| SQ <| RG <| FA rfl tyF_laws_Conn_11 rfl <| LD (i := 2) rfl tyP_bool rfl rfl rfl <| FA rfl tyF_impl_Conn_11 rfl <| rw_storeN (i := 0) [_] [_, _, _, _, _, _, _, _, _, _, _, _, _, _, _, _, _, _, _, _, _, _, _, _, _, _, _, _, _, _, _, _, _, _, _, _, _, _, _, _, _, _, _, _, _, _, _, _, _, _] [_, _, _] tyP_bool.sz rfl rfl rfl rfl rfl rfl rfl rfl rfl <| ?_
  refine ND <| SQ <| RG <| FA rfl tyF_laws_Conn_12 rfl <| LD (i := 2) rfl tyP_bool rfl rfl rfl <| FA rfl tyF_impl_Conn_12 rfl <| rw_storeN (i := 0) [_] [_, _, _, _, _, _, _, _, _, _, _, _, _, _, _, _, _, _, _, _, _, _, _, _, _, _, _, _, _, _, _, _, _, _, _, _, _, _, _, _, _, _, _, _, _, _, _, _, _, _] [_, _, _] tyP_bool.sz rfl rfl rfl rfl rfl rfl rfl rfl rfl <| ND <| SQ <| RG <| FA rfl tyF_laws_Conn_13 rfl <| LD (i := 2) rfl tyP_int rfl rfl rfl <| FA rfl tyF_impl_Conn_13 rfl <| rw_storeN (i := 0) [_] [_, _, _, _, _, _, _, _, _, _, _, _, _, _, _, _, _, _, _, _, _, _, _, _, _, _, _, _, _, _, _, _, _, _, _, _, _, _, _, _, _, _, _, _, _, _, _, _, _, _] [_, _, _] tyP_int.sz rfl rfl rfl rfl rfl rfl rfl rfl rfl <| ?_
  refine ND <| SQ <| RG <| FA rfl tyF_laws_Conn_14 rfl <| LD (i := 2) rfl tyP_int rfl rfl rfl <| FA rfl tyF_impl_Conn_14 rfl <| rw_storeN (i := 0) [_] [_, _, _, _, _, _, _, _, _, _, _, _, _, _, _, _, _, _, _, _, _, _, _, _, _, _, _, _, _, _, _, _, _, _, _, _, _, _, _, _, _, _, _, _, _, _, _, _, _, _] [_, _, _] tyP_int.sz rfl rfl rfl rfl rfl rfl rfl rfl rfl <| ND <| SQ <| RG <| FA rfl tyF_laws_Conn_15 rfl <| LD (i := 2) rfl tyP_S_laws_Packet rfl rfl rfl <| CN1 rfl fun_laws_toPacketS rfl (fun w hs => laws_toPacketS (hA1.s RdPacket.keeps hs) hb2 hb3) <| fun v2 ch2 how2 => ?_
  obtain ⟨R2, rc2, rfl, hR2, hrd2⟩ := how2.shape ePacket
  refine FA rfl tyF_impl_Conn_15 rfl <| rw_storeN (i := 0) [_] [_, _, _, _, _, _, _, _, _, _, _, _, _, _, _, _, _, _, _, _, _, _, _, _, _, _, _, _, _, _, _, _, _, _, _, _, _, _, _, _, _, _, _, _, _, _, _, _, _, _] [_, _, _] tyP_S_impl_Packet.sz rfl rfl rfl rfl rfl rfl rfl rfl rfl <| ND <| SQ <| RG <| FA rfl tyF_laws_Conn_16 rfl <| LD (i := 2) rfl tyP_int rfl rfl rfl <| FA rfl tyF_impl_Conn_16 rfl <| rw_storeN (i := 0) [_] [_, _, _, _, _, _, _, _, _, _, _, _, _, _, _, _, _, _, _, _, _, _, _, _, _, _, _, _, _, _, _, _, _, _, _, _, _, _, _, _, _, _, _, _, _, _, _, _, _, _] [_, _, _] tyP_int.sz rfl rfl rfl rfl rfl rfl rfl rfl rfl <| ?_
  refine ND <| SQ <| RG <| FA rfl tyF_laws_Conn_17 rfl <| LD (i := 2) rfl tyP_int rfl rfl rfl <| FA rfl tyF_impl_Conn_17 rfl <| rw_storeN (i := 0) [_] [_, _, _, _, _, _, _, _, _, _, _, _, _, _, _, _, _, _, _, _, _, _, _, _, _, _, _, _, _, _, _, _, _, _, _, _, _, _, _, _, _, _, _, _, _, _, _, _, _, _] [_, _, _] tyP_int.sz rfl rfl rfl rfl rfl rfl rfl rfl rfl <| ND <| SQ <| RG <| LS (i := 0) [_, _, _, _, _, _, _, _, _, _, _, _, _, _, _, _, _, _, _, _, _, _, _, _, _, _, _, _, _, _, _, _, _, _, _, _, _, _, _, _, _, _, _, _, _, _, _, _, _, _] rfl tyS_impl_Conn rfl rfl rfl rfl <| ?_
  refine rw_storeN (i := 1) [_, _, _, _, _, _, _, _, _, _, _, _, _, _, _, _, _, _, _, _, _, _, _, _, _, _, _, _, _, _, _, _, _, _, _, _, _, _, _, _, _, _, _, _, _, _, _, _, _, _] [_, _, _, _, _, _, _, _, _, _, _, _, _, _, _, _, _, _, _, _, _, _, _, _, _, _, _, _, _, _, _, _, _, _, _, _, _, _, _, _, _, _, _, _, _, _, _, _, _, _] [_, _, _] tyS_impl_Conn.sz rfl rfl rfl rfl rfl rfl rfl rfl rfl <| ND <| ?_
  refine ret_cnP (ch := ch1 ++ (ch2)) (G := ch1 ++ (ch2 ++ ([]))) (F' := []) Try.func26 (res1 Try.func26 rfl (rv_s (i := 1) [_, _, _, _, _, _, _, _, _, _, _, _, _, _, _, _, _, _, _, _, _, _, _, _, _, _, _, _, _, _, _, _, _, _, _, _, _, _, _, _, _, _, _, _, _, _, _, _, _, _] tyS_impl_Conn rfl rfl rfl rfl)) ?_ ?_ ?_
  · exact ⟨_, rfl, _, _, _, _, rfl, how1, how2, rfl⟩
  · exact (((((List.Perm.refl _)).append_left _).trans (pullc _ _ _)).trans (((List.Perm.refl _).trans ((List.Perm.refl _).append_left _)).append_left _))
  · simp only [List.append_assoc]

theorem laws_eqConf (a : Conf) (w : World) : CV Try.prog 88 [.agg a.cells.toArray, .agg a.cells.toArray] w (.bool true) := by
  refine cv_of Try.func88 rfl rfl rfl <| SQ <| RG <| BX [_, _, _, _, _, _, _, _] rfl rfl rfl <| fun b1 => BX [_, _, _, _, _, _, _, _] rfl rfl rfl <| fun b2 => AS rfl rfl <| ND <| SQ <| SQ <| RG <| FA rfl tyF_impl_Conf_0 rfl <| LD (i := 1) rfl tyP_int rfl rfl rfl <| FA rfl tyF_impl_Conf_0 rfl <| LD (i := 0) rfl tyP_int rfl rfl rfl <| NS rfl rfl rfl <| ND <| CF rfl rfl <| SK <| SQ <| SQ <| RG <| FA rfl tyF_impl_Conf_1 rfl <| LD (i := 1) rfl tyP_int rfl rfl rfl <| FA rfl tyF_impl_Conf_1 rfl <| ?_
  refine LD (i := 0) rfl tyP_int rfl rfl rfl <| NS rfl rfl rfl <| ND <| CF rfl rfl <| SK <| SQ <| SQ <| RG <| FA rfl tyF_impl_Conf_2 rfl <| LD (i := 1) rfl tyP_int rfl rfl rfl <| FA rfl tyF_impl_Conf_2 rfl <| LD (i := 0) rfl tyP_int rfl rfl rfl <| NS rfl rfl rfl <| ND <| CF rfl rfl <| SK <| SQ <| SQ <| RG <| FA rfl tyF_impl_Conf_3 rfl <| LD (i := 1) rfl tyP_int rfl rfl rfl <| FA rfl tyF_impl_Conf_3 rfl <| LD (i := 0) rfl tyP_int rfl rfl rfl <| NS rfl rfl rfl <| ?_
  refine ND <| CF rfl rfl <| SK <| SQ <| SQ <| RG <| FA rfl tyF_impl_Conf_4 rfl <| LD (i := 1) rfl tyP_int rfl rfl rfl <| FA rfl tyF_impl_Conf_4 rfl <| LD (i := 0) rfl tyP_int rfl rfl rfl <| NS rfl rfl rfl <| ND <| CF rfl rfl <| SK <| SQ <| SQ <| RG <| FA rfl tyF_impl_Conf_5 rfl <| LD (i := 1) rfl tyP_int rfl rfl rfl <| FA rfl tyF_impl_Conf_5 rfl <| LD (i := 0) rfl tyP_int rfl rfl rfl <| NS rfl rfl rfl <| ND <| CF rfl rfl <| SK <| SQ <| SQ <| RG <| FA rfl tyF_impl_Conf_6 rfl <| ?_
  refine LD (i := 1) rfl tyP_int rfl rfl rfl <| FA rfl tyF_impl_Conf_6 rfl <| LD (i := 0) rfl tyP_int rfl rfl rfl <| NS rfl rfl rfl <| ND <| CF rfl rfl <| SK <| SQ <| SQ <| RG <| FA rfl tyF_impl_Conf_7 rfl <| LD (i := 1) rfl tyP_int rfl rfl rfl <| FA rfl tyF_impl_Conf_7 rfl <| LD (i := 0) rfl tyP_int rfl rfl rfl <| NS rfl rfl rfl <| ND <| CF rfl rfl <| SK <| SQ <| RG <| AS rfl rfl <| ND <| ret_cv Try.func88 (res1 Try.func88 rfl (rv_tmp rfl)) <| ?_
  rfl

theorem laws_eqIntS {w : World} {v : Value} {l : List Int} (hv : RdS w 1 (Pl intC) v l) (hb : l.length ≤ 1048576) {v1 : Value} (hv1 : RdS w 1 (Pl intC) v1 l) : CV Try.prog 201 [v, v1] w (.bool true) := by
  obtain ⟨A, c, rfl, hA⟩ := hv
  obtain ⟨A1, c1, rfl, hA1⟩ := hv1
  refine cv_of Try.func201 rfl rfl rfl <| SQ <| RG <| AS rfl rfl <| ND <| SQ <| SQ <| RG <| MV rfl rfl <| rw_len rfl tyE_S_int rfl <| MV rfl rfl <| rw_len rfl tyE_S_int rfl <| NS rfl rfl rfl <| ND <| CF rfl rfl <| SK <| SQ <| SQ <| RG <| AS rfl rfl <| ND <| BK <| ?_
  refine gw_loopC (α := Nat) (fun z_ => z_ ≤ l.length) (fun z_ => l.length - z_) (fun e z_ => (5, .int .i64 (z_ : Int)) :: e) 0 [(0, _), (1, _)] (Sub.consE rfl rfl (Sub.cons (i := 0) rfl (Sub.cons (i := 1) rfl (Sub.nil _)))) ?_ ?_
  · exact Nat.zero_le _
  · rintro i hI1 ih1
    try dsimp only
    have hle := hI1
    refine SQ <| SQ <| RG <| MV rfl rfl <| MV rfl rfl <| rw_len rfl tyE_S_int rfl <| rw_lss rfl rfl rfl <| ND <| ?_
    refine gw_cond rfl (fun h1 => ?_) (fun h1 => ?_)
    · have hi2 := lt_of_dec h1
      obtain ⟨x3, hx3⟩ := get_of_lt hi2
      have hd3 := drop_cons hx3
      refine SK <| SQ <| BK <| SQ <| gw_draw' [(0, .det), (1, .det), (2, .det), (3, .det), (4, .det), (5, .det), (6, .det), (7, .det)] [8] mixed rfl (free_det (free_det (free_det (free_det (free_det (free_det (free_det (free_det free_nil)))))))) (ts := [_]) rfl <| DT rfl rfl (fun K hk => MV rfl rfl hk) <| DT rfl rfl (fun K hk => MV rfl rfl hk) <| ?_
      have hq4 := hA.plain hx3
      refine DT rfl rfl (fun K hk => rw_indexAddr (i) rfl tyE_S_int rfl rfl rfl (hA.some hi2) hi2 hk) <| DT rfl rfl (fun K hk => rw_loadX _ rfl tyP_int rfl (fun w hs => hq4.ld0 hs rfl) hk) <| DT rfl rfl (fun K hk => MV rfl rfl hk) <| DT rfl rfl (fun K hk => MV rfl rfl hk) <| ?_
      have hq5 := hA1.plain hx3
      refine DT rfl rfl (fun K hk => rw_indexAddr (i) rfl tyE_S_int rfl rfl rfl (hA1.some hi2) hi2 hk) <| DT rfl rfl (fun K hk => rw_loadX _ rfl tyP_int rfl (fun w hs => hq5.ld0 hs rfl) hk) <| dw_nil <| NS rfl rfl rfl <| ND <| CF rfl rfl <| SK <| IB <| RG <| MV rfl rfl <| rw_add rfl rfl rfl <| AS rfl rfl <| ND <| ?_
      refine gw_sub (Sub.consE (i := 5) rfl (int_succ (by omega)) (Sub.cons (i := 0) rfl (Sub.cons (i := 1) rfl (Sub.nil _)))) (ih1 (i + 1) ?_ ?_)
      · omega
      · show l.length - (i + 1) < l.length - i; omega
    · have hn6 := nil_of_dec h1
      refine EX rfl <| SQ <| RG <| AS rfl rfl <| ND <| ret_cv Try.func201 (res1 Try.func201 rfl (rv_tmp rfl)) <| ?_
      rfl

theorem laws_eqRing {w : World} {cs : List Value} {x : Ring} (hv : RdRing w cs x) (hb : x.le 1048576) {cs1 : List Value} (hv1 : RdRing w cs1 x) : CV Try.prog 143 [.agg cs.toArray, .agg cs1.toArray] w (.bool true) := by
  obtain ⟨v0, rfl, k0⟩ := hv
  obtain ⟨A0, c0, rfl, hA0⟩ := k0
  have hb0 : x.cells.length ≤ 1048576 := hb
  obtain ⟨v1_0, rfl, k1_0⟩ := hv1
  obtain ⟨A1_0, c1_0, rfl, hA1_0⟩ := k1_0
  refine cv_of Try.func143 rfl rfl rfl <| SQ <| RG <| BX [_, _, _, _] rfl rfl rfl <| fun b1 => BX [_, _, _, _] rfl rfl rfl <| fun b2 => AS rfl rfl <| ND <| SQ <| SQ <| RG <| FA rfl tyF_impl_Ring_0 rfl <| LD (i := 1) rfl tyP_int rfl rfl rfl <| FA rfl tyF_impl_Ring_0 rfl <| LD (i := 0) rfl tyP_int rfl rfl rfl <| NS rfl rfl rfl <| ND <| CF rfl rfl <| SK <| SQ <| SQ <| RG <| FA rfl tyF_impl_Ring_1 rfl <| LD (i := 1) rfl tyP_int rfl rfl rfl <| FA rfl tyF_impl_Ring_1 rfl <| ?_
  refine LD (i := 0) rfl tyP_int rfl rfl rfl <| NS rfl rfl rfl <| ND <| CF rfl rfl <| SK <| SQ <| SQ <| RG <| FA rfl tyF_impl_Ring_2 rfl <| LD (i := 1) rfl tyP_int rfl rfl rfl <| FA rfl tyF_impl_Ring_2 rfl <| LD (i := 0) rfl tyP_int rfl rfl rfl <| NS rfl rfl rfl <| ND <| CF rfl rfl <| SK <| SQ <| SQ <| RG <| FA rfl tyF_impl_Ring_3 rfl <| LD (i := 1) rfl tyP_S_int rfl rfl rfl <| FA rfl tyF_impl_Ring_3 rfl <| LD (i := 0) rfl tyP_S_int rfl rfl rfl <| CV1 rfl fun_laws_eqIntS rfl (fun w hs => laws_eqIntS (hA0.s Pl.keeps hs) (by omega) (hA1_0.s Pl.keeps hs)) <| ?_
  refine NT rfl rfl <| ND <| CF rfl rfl <| SK <| SQ <| RG <| AS rfl rfl <| ND <| ret_cv Try.func143 (res1 Try.func143 rfl (rv_tmp rfl)) <| ?_
  rfl

theorem laws_eqRange (a : Range) (w : World) : CV Try.prog 202 [.agg a.cells.toArray, .agg a.cells.toArray] w (.bool true) := by
  refine cv_of Try.func202 rfl rfl rfl <| SQ <| RG <| BX [_, _] rfl rfl rfl <| fun b1 => BX [_, _] rfl rfl rfl <| fun b2 => AS rfl rfl <| ND <| SQ <| SQ <| RG <| FA rfl tyF_impl_Range_0 rfl <| LD (i := 1) rfl tyP_int rfl rfl rfl <| FA rfl tyF_impl_Range_0 rfl <| LD (i := 0) rfl tyP_int rfl rfl rfl <| NS rfl rfl rfl <| ND <| CF rfl rfl <| SK <| SQ <| SQ <| RG <| FA rfl tyF_impl_Range_1 rfl <| LD (i := 1) rfl tyP_int rfl rfl rfl <| FA rfl tyF_impl_Range_1 rfl <| ?_
  refine LD (i := 0) rfl tyP_int rfl rfl rfl <| NS rfl rfl rfl <| ND <| CF rfl rfl <| SK <| SQ <| RG <| AS rfl rfl <| ND <| ret_cv Try.func202 (res1 Try.func202 rfl (rv_tmp rfl)) <| ?_
  rfl

theorem laws_eqRangeS {w : World} {v : Value} {l : List Range} (hv : RdS w 2 (Pl Range.cells) v l) (hb : l.length ≤ 1048576) {v1 : Value} (hv1 : RdS w 2 (Pl Range.cells) v1 l) : CV Try.prog 144 [v, v1] w (.bool true) := by
  obtain ⟨A, c, rfl, hA⟩ := hv
  obtain ⟨A1, c1, rfl, hA1⟩ := hv1
  refine cv_of Try.func144 rfl rfl rfl <| SQ <| RG <| AS rfl rfl <| ND <| SQ <| SQ <| RG <| MV rfl rfl <| rw_len rfl tyE_S_impl_Range rfl <| MV rfl rfl <| rw_len rfl tyE_S_impl_Range rfl <| NS rfl rfl rfl <| ND <| CF rfl rfl <| SK <| SQ <| SQ <| RG <| AS rfl rfl <| ND <| BK <| ?_
  refine gw_loopC (α := Nat) (fun z_ => z_ ≤ l.length) (fun z_ => l.length - z_) (fun e z_ => (5, .int .i64 (z_ : Int)) :: e) 0 [(0, _), (1, _)] (Sub.consE rfl rfl (Sub.cons (i := 0) rfl (Sub.cons (i := 1) rfl (Sub.nil _)))) ?_ ?_
  · exact Nat.zero_le _
  · rintro i hI1 ih1
    try dsimp only
    have hle := hI1
    refine SQ <| SQ <| RG <| MV rfl rfl <| MV rfl rfl <| rw_len rfl tyE_S_impl_Range rfl <| rw_lss rfl rfl rfl <| ND <| ?_
    refine gw_cond rfl (fun h1 => ?_) (fun h1 => ?_)
    · have hi2 := lt_of_dec h1
      obtain ⟨x3, hx3⟩ := get_of_lt hi2
      have hd3 := drop_cons hx3
      refine SK <| SQ <| BK <| SQ <| gw_draw' [(0, .det), (1, .det), (2, .det), (3, .det), (4, .det), (5, .det), (6, .det), (7, .det)] [8, 9] mixed rfl (free_det (free_det (free_det (free_det (free_det (free_det (free_det (free_det free_nil)))))))) (ts := [_, _]) rfl <| DT rfl rfl (fun K hk => MV rfl rfl hk) <| DT rfl rfl (fun K hk => MV rfl rfl hk) <| ?_
      have hq4 := hA.plain hx3
      refine DT rfl rfl (fun K hk => rw_indexAddr (i) rfl tyE_S_impl_Range rfl rfl rfl (hA.some hi2) hi2 hk) <| DT rfl rfl (fun K hk => rw_loadX_s [_, _] rfl tyS_impl_Range rfl rfl (fun w hs => hq4.lds0 (n := 2) hs rfl) hk) <| DT rfl rfl (fun K hk => MV rfl rfl hk) <| DT rfl rfl (fun K hk => MV rfl rfl hk) <| ?_
      have hq5 := hA1.plain hx3
      refine DT rfl rfl (fun K hk => rw_indexAddr (i) rfl tyE_S_impl_Range rfl rfl rfl (hA1.some hi2) hi2 hk) <| DT rfl rfl (fun K hk => rw_loadX_s [_, _] rfl tyS_impl_Range rfl rfl (fun w hs => hq5.lds0 (n := 2) hs rfl) hk) <| dw_nil <| CV1 rfl fun_laws_eqRange rfl (fun w hs => laws_eqRange _ w) <| NT rfl rfl <| ND <| CF rfl rfl <| SK <| IB <| RG <| MV rfl rfl <| rw_add rfl rfl rfl <| AS rfl rfl <| ND <| ?_
      refine gw_sub (Sub.consE (i := 5) rfl (int_succ (by omega)) (Sub.cons (i := 0) rfl (Sub.cons (i := 1) rfl (Sub.nil _)))) (ih1 (i + 1) ?_ ?_)
      · omega
      · show l.length - (i + 1) < l.length - i; omega
    · have hn6 := nil_of_dec h1
      refine EX rfl <| SQ <| RG <| AS rfl rfl <| ND <| ret_cv Try.func144 (res1 Try.func144 rfl (rv_tmp rfl)) <| ?_
      rfl

theorem laws_eqSender {w : World} {cs : List Value} {x : Sender} (hv : RdSender w cs x) (hb : x.le 1048576) {cs1 : List Value} (hv1 : RdSender w cs1 x) : CV Try.prog 61 [.agg cs.toArray, .agg cs1.toArray] w (.bool true) := by
  obtain ⟨v0, v1, v2, v3, rfl, k0, k1, k2, k3⟩ := hv
  obtain ⟨A0, c0, rfl, hA0⟩ := k0
  obtain ⟨A1, c1, rfl, hA1⟩ := k1
  obtain ⟨A2, c2, rfl, hA2⟩ := k2
  obtain ⟨A3, c3, rfl, hA3⟩ := k3
  obtain ⟨hb0, hb1, hb2, hb3⟩ := hb
  obtain ⟨v1_0, v1_1, v1_2, v1_3, rfl, k1_0, k1_1, k1_2, k1_3⟩ := hv1
  obtain ⟨A1_0, c1_0, rfl, hA1_0⟩ := k1_0
  obtain ⟨A1_1, c1_1, rfl, hA1_1⟩ := k1_1
  obtain ⟨A1_2, c1_2, rfl, hA1_2⟩ := k1_2
  obtain ⟨A1_3, c1_3, rfl, hA1_3⟩ := k1_3
  refine cv_of Try.func61 rfl rfl rfl <| SQ <| RG <| BX [_, _, _, _, _, _, _, _, _, _, _, _] rfl rfl rfl <| fun b1 => BX [_, _, _, _, _, _, _, _, _, _, _, _] rfl rfl rfl <| fun b2 => AS rfl rfl <| ND <| SQ <| SQ <| RG <| FA rfl tyF_impl_Sender_0 rfl <| LD (i := 1) rfl tyP_int rfl rfl rfl <| FA rfl tyF_impl_Sender_0 rfl <| LD (i := 0) rfl tyP_int rfl rfl rfl <| NS rfl rfl rfl <| ND <| CF rfl rfl <| SK <| SQ <| SQ <| RG <| FA rfl tyF_impl_Sender_1 rfl <| LS (i := 1) [_, _, _, _] rfl tyS_impl_Ring rfl rfl rfl rfl <| ?_
  refine FA rfl tyF_impl_Sender_1 rfl <| LS (i := 0) [_, _, _, _] rfl tyS_impl_Ring rfl rfl rfl rfl <| CV1 rfl fun_laws_eqRing rfl (fun w hs => laws_eqRing ⟨_, rfl, (hA0.s Pl.keeps hs)⟩ (show _ ≤ _ from hb0) ⟨_, rfl, (hA1_0.s Pl.keeps hs)⟩) <| NT rfl rfl <| ND <| CF rfl rfl <| SK <| SQ <| SQ <| RG <| FA rfl tyF_impl_Sender_2 rfl <| LD (i := 1) rfl tyP_S_impl_Range rfl rfl rfl <| FA rfl tyF_impl_Sender_2 rfl <| LD (i := 0) rfl tyP_S_impl_Range rfl rfl rfl <| CV1 rfl fun_laws_eqRangeS rfl (fun w hs => laws_eqRangeS (hA1.s Pl.keeps hs) (by omega) (hA1_1.s Pl.keeps hs)) <| ?_
  refine NT rfl rfl <| ND <| CF rfl rfl <| SK <| SQ <| SQ <| RG <| FA rfl tyF_impl_Sender_3 rfl <| LD (i := 1) rfl tyP_S_impl_Range rfl rfl rfl <| FA rfl tyF_impl_Sender_3 rfl <| LD (i := 0) rfl tyP_S_impl_Range rfl rfl rfl <| CV1 rfl fun_laws_eqRangeS rfl (fun w hs => laws_eqRangeS (hA2.s Pl.keeps hs) (by omega) (hA1_2.s Pl.keeps hs)) <| NT rfl rfl <| ND <| CF rfl rfl <| SK <| SQ <| SQ <| RG <| FA rfl tyF_impl_Sender_4 rfl <| LD (i := 1) rfl tyP_S_impl_Range rfl rfl rfl <| FA rfl tyF_impl_Sender_4 rfl <| ?_
  refine LD (i := 0) rfl tyP_S_impl_Range rfl rfl rfl <| CV1 rfl fun_laws_eqRangeS rfl (fun w hs => laws_eqRangeS (hA3.s Pl.keeps hs) (by omega) (hA1_3.s Pl.keeps hs)) <| NT rfl rfl <| ND <| CF rfl rfl <| SK <| SQ <| SQ <| RG <| FA rfl tyF_impl_Sender_5 rfl <| LD (i := 1) rfl tyP_int rfl rfl rfl <| FA rfl tyF_impl_Sender_5 rfl <| LD (i := 0) rfl tyP_int rfl rfl rfl <| NS rfl rfl rfl <| ND <| CF rfl rfl <| SK <| SQ <| SQ <| RG <| FA rfl tyF_impl_Sender_6 rfl <| LD (i := 1) rfl tyP_int rfl rfl rfl <| ?_
  refine FA rfl tyF_impl_Sender_6 rfl <| LD (i := 0) rfl tyP_int rfl rfl rfl <| NS rfl rfl rfl <| ND <| CF rfl rfl <| SK <| SQ <| SQ <| RG <| FA rfl tyF_impl_Sender_7 rfl <| LD (i := 1) rfl tyP_int rfl rfl rfl <| FA rfl tyF_impl_Sender_7 rfl <| LD (i := 0) rfl tyP_int rfl rfl rfl <| NS rfl rfl rfl <| ND <| CF rfl rfl <| SK <| SQ <| SQ <| RG <| FA rfl tyF_impl_Sender_8 rfl <| LD (i := 1) rfl tyP_int rfl rfl rfl <| FA rfl tyF_impl_Sender_8 rfl <| LD (i := 0) rfl tyP_int rfl rfl rfl <| ?_
  refine NS rfl rfl rfl <| ND <| CF rfl rfl <| SK <| SQ <| RG <| AS rfl rfl <| ND <| ret_cv Try.func61 (res1 Try.func61 rfl (rv_tmp rfl)) <| ?_
  rfl

theorem laws_eqCredit (a : Credit) (w : World) : CV Try.prog 62 [.agg a.cells.toArray, .agg a.cells.toArray] w (.bool true) := by
  refine cv_of Try.func62 rfl rfl rfl <| SQ <| RG <| BX [_, _, _, _] rfl rfl rfl <| fun b1 => BX [_, _, _, _] rfl rfl rfl <| fun b2 => AS rfl rfl <| ND <| SQ <| SQ <| RG <| FA rfl tyF_impl_Credit_0 rfl <| LD (i := 1) rfl tyP_int rfl rfl rfl <| FA rfl tyF_impl_Credit_0 rfl <| LD (i := 0) rfl tyP_int rfl rfl rfl <| NS rfl rfl rfl <| ND <| CF rfl rfl <| SK <| SQ <| SQ <| RG <| FA rfl tyF_impl_Credit_1 rfl <| LD (i := 1) rfl tyP_int rfl rfl rfl <| FA rfl tyF_impl_Credit_1 rfl <| ?_
  refine LD (i := 0) rfl tyP_int rfl rfl rfl <| NS rfl rfl rfl <| ND <| CF rfl rfl <| SK <| SQ <| SQ <| RG <| FA rfl tyF_impl_Credit_2 rfl <| LD (i := 1) rfl tyP_int rfl rfl rfl <| FA rfl tyF_impl_Credit_2 rfl <| LD (i := 0) rfl tyP_int rfl rfl rfl <| NS rfl rfl rfl <| ND <| CF rfl rfl <| SK <| SQ <| SQ <| RG <| FA rfl tyF_impl_Credit_3 rfl <| LD (i := 1) rfl tyP_int rfl rfl rfl <| FA rfl tyF_impl_Credit_3 rfl <| LD (i := 0) rfl tyP_int rfl rfl rfl <| NS rfl rfl rfl <| ?_
  refine ND <| CF rfl rfl <| SK <| SQ <| RG <| AS rfl rfl <| ND <| ret_cv Try.func62 (res1 Try.func62 rfl (rv_tmp rfl)) <| ?_
  rfl

theorem laws_eqChunk (a : Chunk) (w : World) : CV Try.prog 216 [.agg a.cells.toArray, .agg a.cells.toArray] w (.bool true) := by
  refine cv_of Try.func216 rfl rfl rfl <| SQ <| RG <| BX [_, _] rfl rfl rfl <| fun b1 => BX [_, _] rfl rfl rfl <| fun b2 => AS rfl rfl <| ND <| SQ <| SQ <| RG <| FA rfl tyF_impl_Chunk_0 rfl <| LD (i := 1) rfl tyP_int rfl rfl rfl <| FA rfl tyF_impl_Chunk_0 rfl <| LD (i := 0) rfl tyP_int rfl rfl rfl <| NS rfl rfl rfl <| ND <| CF rfl rfl <| SK <| SQ <| SQ <| RG <| FA rfl tyF_impl_Chunk_1 rfl <| LD (i := 1) rfl tyP_string rfl rfl rfl <| FA rfl tyF_impl_Chunk_1 rfl <| ?_
  refine LD (i := 0) rfl tyP_string rfl rfl rfl <| rw_neqSelfS rfl rfl rfl <| ND <| CF rfl rfl <| SK <| SQ <| RG <| AS rfl rfl <| ND <| ret_cv Try.func216 (res1 Try.func216 rfl (rv_tmp rfl)) <| ?_
  rfl

theorem laws_eqChunkS {w : World} {v : Value} {l : List Chunk} (hv : RdS w 2 (Pl Chunk.cells) v l) (hb : l.length ≤ 1048576) {v1 : Value} (hv1 : RdS w 2 (Pl Chunk.cells) v1 l) : CV Try.prog 203 [v, v1] w (.bool true) := by
  obtain ⟨A, c, rfl, hA⟩ := hv
  obtain ⟨A1, c1, rfl, hA1⟩ := hv1
  refine cv_of Try.func203 rfl rfl rfl <| SQ <| RG <| AS rfl rfl <| ND <| SQ <| SQ <| RG <| MV rfl rfl <| rw_len rfl tyE_S_impl_Chunk rfl <| MV rfl rfl <| rw_len rfl tyE_S_impl_Chunk rfl <| NS rfl rfl rfl <| ND <| CF rfl rfl <| SK <| SQ <| SQ <| RG <| AS rfl rfl <| ND <| BK <| ?_
  refine gw_loopC (α := Nat) (fun z_ => z_ ≤ l.length) (fun z_ => l.length - z_) (fun e z_ => (5, .int .i64 (z_ : Int)) :: e) 0 [(0, _), (1, _)] (Sub.consE rfl rfl (Sub.cons (i := 0) rfl (Sub.cons (i := 1) rfl (Sub.nil _)))) ?_ ?_
  · exact Nat.zero_le _
  · rintro i hI1 ih1
    try dsimp only
    have hle := hI1
    refine SQ <| SQ <| RG <| MV rfl rfl <| MV rfl rfl <| rw_len rfl tyE_S_impl_Chunk rfl <| rw_lss rfl rfl rfl <| ND <| ?_
    refine gw_cond rfl (fun h1 => ?_) (fun h1 => ?_)
    · have hi2 := lt_of_dec h1
      obtain ⟨x3, hx3⟩ := get_of_lt hi2
      have hd3 := drop_cons hx3
      refine SK <| SQ <| BK <| SQ <| gw_draw' [(0, .det), (1, .det), (2, .det), (3, .det), (4, .det), (5, .det), (6, .det), (7, .det)] [8, 9] mixed rfl (free_det (free_det (free_det (free_det (free_det (free_det (free_det (free_det free_nil)))))))) (ts := [_, _]) rfl <| DT rfl rfl (fun K hk => MV rfl rfl hk) <| DT rfl rfl (fun K hk => MV rfl rfl hk) <| ?_
      have hq4 := hA.plain hx3
      refine DT rfl rfl (fun K hk => rw_indexAddr (i) rfl tyE_S_impl_Chunk rfl rfl rfl (hA.some hi2) hi2 hk) <| DT rfl rfl (fun K hk => rw_loadX_s [_, _] rfl tyS_impl_Chunk rfl rfl (fun w hs => hq4.lds0 (n := 2) hs rfl) hk) <| DT rfl rfl (fun K hk => MV rfl rfl hk) <| DT rfl rfl (fun K hk => MV rfl rfl hk) <| ?_
      have hq5 := hA1.plain hx3
      refine DT rfl rfl (fun K hk => rw_indexAddr (i) rfl tyE_S_impl_Chunk rfl rfl rfl (hA1.some hi2) hi2 hk) <| DT rfl rfl (fun K hk => rw_loadX_s [_, _] rfl tyS_impl_Chunk rfl rfl (fun w hs => hq5.lds0 (n := 2) hs rfl) hk) <| dw_nil <| CV1 rfl fun_laws_eqChunk rfl (fun w hs => laws_eqChunk _ w) <| NT rfl rfl <| ND <| CF rfl rfl <| SK <| IB <| RG <| MV rfl rfl <| rw_add rfl rfl rfl <| AS rfl rfl <| ND <| ?_
      refine gw_sub (Sub.consE (i := 5) rfl (int_succ (by omega)) (Sub.cons (i := 0) rfl (Sub.cons (i := 1) rfl (Sub.nil _)))) (ih1 (i + 1) ?_ ?_)
      · omega
      · show l.length - (i + 1) < l.length - i; omega
    · have hn6 := nil_of_dec h1
      refine EX rfl <| SQ <| RG <| AS rfl rfl <| ND <| ret_cv Try.func203 (res1 Try.func203 rfl (rv_tmp rfl)) <| ?_
      rfl

theorem laws_eqBuffer {w : World} {cs : List Value} {x : Buffer} (hv : RdBuffer w cs x) (hb : x.le 1048576) {cs1 : List Value} (hv1 : RdBuffer w cs1 x) : CV Try.prog 145 [.agg cs.toArray, .agg cs1.toArray] w (.bool true) := by
  obtain ⟨v0, rfl, k0⟩ := hv
  obtain ⟨A0, c0, rfl, hA0⟩ := k0
  obtain ⟨hb0, hb1⟩ := hb
  obtain ⟨v1_0, rfl, k1_0⟩ := hv1
  obtain ⟨A1_0, c1_0, rfl, hA1_0⟩ := k1_0
  refine cv_of Try.func145 rfl rfl rfl <| SQ <| RG <| BX [_, _] rfl rfl rfl <| fun b1 => BX [_, _] rfl rfl rfl <| fun b2 => AS rfl rfl <| ND <| SQ <| SQ <| RG <| FA rfl tyF_impl_Buffer_0 rfl <| LD (i := 1) rfl tyP_int rfl rfl rfl <| FA rfl tyF_impl_Buffer_0 rfl <| LD (i := 0) rfl tyP_int rfl rfl rfl <| NS rfl rfl rfl <| ND <| CF rfl rfl <| SK <| SQ <| SQ <| RG <| FA rfl tyF_impl_Buffer_1 rfl <| LD (i := 1) rfl tyP_S_impl_Chunk rfl rfl rfl <| FA rfl tyF_impl_Buffer_1 rfl <| ?_
  refine LD (i := 0) rfl tyP_S_impl_Chunk rfl rfl rfl <| CV1 rfl fun_laws_eqChunkS rfl (fun w hs => laws_eqChunkS (hA0.s Pl.keeps hs) (by omega) (hA1_0.s Pl.keeps hs)) <| NT rfl rfl <| ND <| CF rfl rfl <| SK <| SQ <| RG <| AS rfl rfl <| ND <| ret_cv Try.func145 (res1 Try.func145 rfl (rv_tmp rfl)) <| ?_
  rfl

theorem laws_eqReceiver {w : World} {cs : List Value} {x : Receiver} (hv : RdReceiver w cs x) (hb : x.le 1048576) {cs1 : List Value} (hv1 : RdReceiver w cs1 x) : CV Try.prog 63 [.agg cs.toArray, .agg cs1.toArray] w (.bool true) := by
  obtain ⟨v0, rfl, k0⟩ := hv
  obtain ⟨A0, c0, rfl, hA0⟩ := k0
  obtain ⟨hb0, hb1⟩ := hb
  obtain ⟨v1_0, rfl, k1_0⟩ := hv1
  obtain ⟨A1_0, c1_0, rfl, hA1_0⟩ := k1_0
  refine cv_of Try.func63 rfl rfl rfl <| SQ <| RG <| BX [_, _, _, _, _, _] rfl rfl rfl <| fun b1 => BX [_, _, _, _, _, _] rfl rfl rfl <| fun b2 => AS rfl rfl <| ND <| SQ <| SQ <| RG <| FA rfl tyF_impl_Receiver_0 rfl <| LD (i := 1) rfl tyP_int rfl rfl rfl <| FA rfl tyF_impl_Receiver_0 rfl <| LD (i := 0) rfl tyP_int rfl rfl rfl <| NS rfl rfl rfl <| ND <| CF rfl rfl <| SK <| SQ <| SQ <| RG <| FA rfl tyF_impl_Receiver_1 rfl <| LS (i := 1) [_, _] rfl tyS_impl_Buffer rfl rfl rfl rfl <| ?_
  refine FA rfl tyF_impl_Receiver_1 rfl <| LS (i := 0) [_, _] rfl tyS_impl_Buffer rfl rfl rfl rfl <| CV1 rfl fun_laws_eqBuffer rfl (fun w hs => laws_eqBuffer ⟨_, rfl, (hA0.s Pl.keeps hs)⟩ ⟨hb0, hb1⟩ ⟨_, rfl, (hA1_0.s Pl.keeps hs)⟩) <| NT rfl rfl <| ND <| CF rfl rfl <| SK <| SQ <| SQ <| RG <| FA rfl tyF_impl_Receiver_2 rfl <| LD (i := 1) rfl tyP_int rfl rfl rfl <| FA rfl tyF_impl_Receiver_2 rfl <| LD (i := 0) rfl tyP_int rfl rfl rfl <| NS rfl rfl rfl <| ND <| CF rfl rfl <| SK <| SQ <| SQ <| RG <| ?_
  refine FA rfl tyF_impl_Receiver_3 rfl <| LD (i := 1) rfl tyP_int rfl rfl rfl <| FA rfl tyF_impl_Receiver_3 rfl <| LD (i := 0) rfl tyP_int rfl rfl rfl <| NS rfl rfl rfl <| ND <| CF rfl rfl <| SK <| SQ <| SQ <| RG <| FA rfl tyF_impl_Receiver_4 rfl <| LD (i := 1) rfl tyP_int rfl rfl rfl <| FA rfl tyF_impl_Receiver_4 rfl <| LD (i := 0) rfl tyP_int rfl rfl rfl <| NS rfl rfl rfl <| ND <| CF rfl rfl <| SK <| SQ <| RG <| AS rfl rfl <| ND <| ret_cv Try.func63 (res1 Try.func63 rfl (rv_tmp rfl)) <| ?_
  rfl

theorem laws_eqWindow (a : Window) (w : World) : CV Try.prog 64 [.agg a.cells.toArray, .agg a.cells.toArray] w (.bool true) := by
  refine cv_of Try.func64 rfl rfl rfl <| SQ <| RG <| BX [_, _, _, _, _, _] rfl rfl rfl <| fun b1 => BX [_, _, _, _, _, _] rfl rfl rfl <| fun b2 => AS rfl rfl <| ND <| SQ <| SQ <| RG <| FA rfl tyF_impl_Window_0 rfl <| LD (i := 1) rfl tyP_int rfl rfl rfl <| FA rfl tyF_impl_Window_0 rfl <| LD (i := 0) rfl tyP_int rfl rfl rfl <| NS rfl rfl rfl <| ND <| CF rfl rfl <| SK <| SQ <| SQ <| RG <| FA rfl tyF_impl_Window_1 rfl <| LD (i := 1) rfl tyP_int rfl rfl rfl <| FA rfl tyF_impl_Window_1 rfl <| ?_
  refine LD (i := 0) rfl tyP_int rfl rfl rfl <| NS rfl rfl rfl <| ND <| CF rfl rfl <| SK <| SQ <| SQ <| RG <| FA rfl tyF_impl_Window_2 rfl <| LD (i := 1) rfl tyP_int rfl rfl rfl <| FA rfl tyF_impl_Window_2 rfl <| LD (i := 0) rfl tyP_int rfl rfl rfl <| NS rfl rfl rfl <| ND <| CF rfl rfl <| SK <| SQ <| SQ <| RG <| FA rfl tyF_impl_Window_3 rfl <| LD (i := 1) rfl tyP_int rfl rfl rfl <| FA rfl tyF_impl_Window_3 rfl <| LD (i := 0) rfl tyP_int rfl rfl rfl <| NS rfl rfl rfl <| ?_
  refine ND <| CF rfl rfl <| SK <| SQ <| SQ <| RG <| FA rfl tyF_impl_Window_4 rfl <| LD (i := 1) rfl tyP_int rfl rfl rfl <| FA rfl tyF_impl_Window_4 rfl <| LD (i := 0) rfl tyP_int rfl rfl rfl <| NS rfl rfl rfl <| ND <| CF rfl rfl <| SK <| SQ <| SQ <| RG <| FA rfl tyF_impl_Window_5 rfl <| LD (i := 1) rfl tyP_int rfl rfl rfl <| FA rfl tyF_impl_Window_5 rfl <| LD (i := 0) rfl tyP_int rfl rfl rfl <| NS rfl rfl rfl <| ND <| CF rfl rfl <| SK <| SQ <| RG <| AS rfl rfl <| ?_
  refine ND <| ret_cv Try.func64 (res1 Try.func64 rfl (rv_tmp rfl)) <| ?_
  rfl

theorem laws_eqPriority (a : Priority) (w : World) : CV Try.prog 65 [.agg a.cells.toArray, .agg a.cells.toArray] w (.bool true) := by
  refine cv_of Try.func65 rfl rfl rfl <| SQ <| RG <| BX [_, _] rfl rfl rfl <| fun b1 => BX [_, _] rfl rfl rfl <| fun b2 => AS rfl rfl <| ND <| SQ <| SQ <| RG <| FA rfl tyF_impl_Priority_0 rfl <| LD (i := 1) rfl tyP_int rfl rfl rfl <| FA rfl tyF_impl_Priority_0 rfl <| LD (i := 0) rfl tyP_int rfl rfl rfl <| NS rfl rfl rfl <| ND <| CF rfl rfl <| SK <| SQ <| SQ <| RG <| FA rfl tyF_impl_Priority_1 rfl <| LD (i := 1) rfl tyP_bool rfl rfl rfl <| FA rfl tyF_impl_Priority_1 rfl <| ?_
  refine LD (i := 0) rfl tyP_bool rfl rfl rfl <| rw_neqSelfB (by kernel_rfl) rfl rfl rfl <| ND <| CF rfl rfl <| SK <| SQ <| RG <| AS rfl rfl <| ND <| ret_cv Try.func65 (res1 Try.func65 rfl (rv_tmp rfl)) <| ?_
  rfl

theorem laws_eqStream {w : World} {cs : List Value} {x : Stream} (hv : RdStream w cs x) (hb : x.le 1048576) {cs1 : List Value} (hv1 : RdStream w cs1 x) : CV Try.prog 13 [.agg cs.toArray, .agg cs1.toArray] w (.bool true) := by
  obtain ⟨v0, v1, v2, v3, v4, rfl, k0, k1, k2, k3, k4⟩ := hv
  obtain ⟨A0, c0, rfl, hA0⟩ := k0
  obtain ⟨A1, c1, rfl, hA1⟩ := k1
  obtain ⟨A2, c2, rfl, hA2⟩ := k2
  obtain ⟨A3, c3, rfl, hA3⟩ := k3
  obtain ⟨A4, c4, rfl, hA4⟩ := k4
  obtain ⟨hb0, hb1, hb2, hb3, hb4, hb5⟩ := hb
  obtain ⟨v1_0, v1_1, v1_2, v1_3, v1_4, rfl, k1_0, k1_1, k1_2, k1_3, k1_4⟩ := hv1
  obtain ⟨A1_0, c1_0, rfl, hA1_0⟩ := k1_0
  obtain ⟨A1_1, c1_1, rfl, hA1_1⟩ := k1_1
  obtain ⟨A1_2, c1_2, rfl, hA1_2⟩ := k1_2
  obtain ⟨A1_3, c1_3, rfl, hA1_3⟩ := k1_3
  obtain ⟨A1_4, c1_4, rfl, hA1_4⟩ := k1_4
  refine cv_of Try.func13 rfl rfl rfl <| SQ <| RG <| BX [_, _, _, _, _, _, _, _, _, _, _, _, _, _, _, _, _, _, _, _, _, _, _, _, _, _, _, _, _, _, _, _, _, _, _, _, _, _, _] rfl rfl rfl <| fun b1 => BX [_, _, _, _, _, _, _, _, _, _, _, _, _, _, _, _, _, _, _, _, _, _, _, _, _, _, _, _, _, _, _, _, _, _, _, _, _, _, _] rfl rfl rfl <| fun b2 => AS rfl rfl <| ND <| SQ <| SQ <| RG <| FA rfl tyF_impl_Stream_0 rfl <| LD (i := 1) rfl tyP_int rfl rfl rfl <| FA rfl tyF_impl_Stream_0 rfl <| LD (i := 0) rfl tyP_int rfl rfl rfl <| ?_
  refine NS rfl rfl rfl <| ND <| CF rfl rfl <| SK <| SQ <| SQ <| RG <| FA rfl tyF_impl_Stream_1 rfl <| LS (i := 1) [_, _, _, _, _, _, _, _, _, _, _, _] rfl tyS_impl_Sender rfl rfl rfl rfl <| FA rfl tyF_impl_Stream_1 rfl <| LS (i := 0) [_, _, _, _, _, _, _, _, _, _, _, _] rfl tyS_impl_Sender rfl rfl rfl rfl <| CV1 rfl fun_laws_eqSender rfl (fun w hs => laws_eqSender ⟨_, _, _, _, rfl, (hA0.s Pl.keeps hs), (hA1.s Pl.keeps hs), (hA2.s Pl.keeps hs), (hA3.s Pl.keeps hs)⟩ ⟨hb0, hb1, hb2, hb3⟩ ⟨_, _, _, _, rfl, (hA1_0.s Pl.keeps hs), (hA1_1.s Pl.keeps hs), (hA1_2.s Pl.keeps hs), (hA1_3.s Pl.keeps hs)⟩) <| ?_
  refine NT rfl rfl <| ND <| CF rfl rfl <| SK <| SQ <| SQ <| RG <| FA rfl tyF_impl_Stream_2 rfl <| LS (i := 1) [_, _, _, _] rfl tyS_impl_Credit rfl rfl rfl rfl <| FA rfl tyF_impl_Stream_2 rfl <| LS (i := 0) [_, _, _, _] rfl tyS_impl_Credit rfl rfl rfl rfl <| CV1 rfl fun_laws_eqCredit rfl (fun w hs => laws_eqCredit _ w) <| NT rfl rfl <| ND <| CF rfl rfl <| SK <| SQ <| SQ <| RG <| FA rfl tyF_impl_Stream_3 rfl <| LS (i := 1) [_, _, _, _, _, _] rfl tyS_impl_Receiver rfl rfl rfl rfl <| FA rfl tyF_impl_Stream_3 rfl <| ?_
  refine LS (i := 0) [_, _, _, _, _, _] rfl tyS_impl_Receiver rfl rfl rfl rfl <| CV1 rfl fun_laws_eqReceiver rfl (fun w hs => laws_eqReceiver ⟨_, rfl, (hA4.s Pl.keeps hs)⟩ ⟨hb4, hb5⟩ ⟨_, rfl, (hA1_4.s Pl.keeps hs)⟩) <| NT rfl rfl <| ND <| CF rfl rfl <| SK <| SQ <| SQ <| RG <| FA rfl tyF_impl_Stream_4 rfl <| LS (i := 1) [_, _, _, _, _, _] rfl tyS_impl_Window rfl rfl rfl rfl <| FA rfl tyF_impl_Stream_4 rfl <| LS (i := 0) [_, _, _, _, _, _] rfl tyS_impl_Window rfl rfl rfl rfl <| CV1 rfl fun_laws_eqWindow rfl (fun w hs => laws_eqWindow _ w) <| ?_
  refine NT rfl rfl <| ND <| CF rfl rfl <| SK <| SQ <| SQ <| RG <| FA rfl tyF_impl_Stream_5 rfl <| LS (i := 1) [_, _] rfl tyS_impl_Priority rfl rfl rfl rfl <| FA rfl tyF_impl_Stream_5 rfl <| LS (i := 0) [_, _] rfl tyS_impl_Priority rfl rfl rfl rfl <| CV1 rfl fun_laws_eqPriority rfl (fun w hs => laws_eqPriority _ w) <| NT rfl rfl <| ND <| CF rfl rfl <| SK <| SQ <| SQ <| RG <| FA rfl tyF_impl_Stream_6 rfl <| LD (i := 1) rfl tyP_bool rfl rfl rfl <| FA rfl tyF_impl_Stream_6 rfl <| ?_
  refine LD (i := 0) rfl tyP_bool rfl rfl rfl <| rw_neqSelfB (by kernel_rfl) rfl rfl rfl <| ND <| CF rfl rfl <| SK <| SQ <| SQ <| RG <| FA rfl tyF_impl_Stream_7 rfl <| LD (i := 1) rfl tyP_bool rfl rfl rfl <| FA rfl tyF_impl_Stream_7 rfl <| LD (i := 0) rfl tyP_bool rfl rfl rfl <| rw_neqSelfB (by kernel_rfl) rfl rfl rfl <| ND <| CF rfl rfl <| SK <| SQ <| SQ <| RG <| FA rfl tyF_impl_Stream_8 rfl <| LD (i := 1) rfl tyP_bool rfl rfl rfl <| FA rfl tyF_impl_Stream_8 rfl <| LD (i := 0) rfl tyP_bool rfl rfl rfl <| ?_
  refine rw_neqSelfB (by kernel_rfl) rfl rfl rfl <| ND <| CF rfl rfl <| SK <| SQ <| SQ <| RG <| FA rfl tyF_impl_Stream_9 rfl <| LD (i := 1) rfl tyP_bool rfl rfl rfl <| FA rfl tyF_impl_Stream_9 rfl <| LD (i := 0) rfl tyP_bool rfl rfl rfl <| rw_neqSelfB (by kernel_rfl) rfl rfl rfl <| ND <| CF rfl rfl <| SK <| SQ <| SQ <| RG <| FA rfl tyF_impl_Stream_10 rfl <| LD (i := 1) rfl tyP_bool rfl rfl rfl <| FA rfl tyF_impl_Stream_10 rfl <| LD (i := 0) rfl tyP_bool rfl rfl rfl <| rw_neqSelfB (by kernel_rfl) rfl rfl rfl <| ?_
  refine ND <| CF rfl rfl <| SK <| SQ <| SQ <| RG <| FA rfl tyF_impl_Stream_11 rfl <| LD (i := 1) rfl tyP_bool rfl rfl rfl <| FA rfl tyF_impl_Stream_11 rfl <| LD (i := 0) rfl tyP_bool rfl rfl rfl <| rw_neqSelfB (by kernel_rfl) rfl rfl rfl <| ND <| CF rfl rfl <| SK <| SQ <| SQ <| RG <| FA rfl tyF_impl_Stream_12 rfl <| LD (i := 1) rfl tyP_int rfl rfl rfl <| FA rfl tyF_impl_Stream_12 rfl <| LD (i := 0) rfl tyP_int rfl rfl rfl <| NS rfl rfl rfl <| ND <| CF rfl rfl <| SK <| SQ <| ?_
  refine SQ <| RG <| FA rfl tyF_impl_Stream_13 rfl <| LD (i := 1) rfl tyP_bool rfl rfl rfl <| FA rfl tyF_impl_Stream_13 rfl <| LD (i := 0) rfl tyP_bool rfl rfl rfl <| rw_neqSelfB (by kernel_rfl) rfl rfl rfl <| ND <| CF rfl rfl <| SK <| SQ <| RG <| AS rfl rfl <| ND <| ret_cv Try.func13 (res1 Try.func13 rfl (rv_tmp rfl)) <| ?_
  rfl

theorem laws_eqStreamS {w : World} {v : Value} {l : List Stream} (hv : RdS w 39 RdStream v l) (hb : l.length ≤ 1048576) (hall : ∀ x ∈ l, x.le 1048576) {v1 : Value} (hv1 : RdS w 39 RdStream v1 l) : CV Try.prog 18 [v, v1] w (.bool true) := by
  obtain ⟨A, c, rfl, hA⟩ := hv
  obtain ⟨A1, c1, rfl, hA1⟩ := hv1
  refine cv_of Try.func18 rfl rfl rfl <| SQ <| RG <| AS rfl rfl <| ND <| SQ <| SQ <| RG <| MV rfl rfl <| rw_len rfl tyE_S_impl_Stream rfl <| MV rfl rfl <| rw_len rfl tyE_S_impl_Stream rfl <| NS rfl rfl rfl <| ND <| CF rfl rfl <| SK <| SQ <| SQ <| RG <| AS rfl rfl <| ND <| BK <| ?_
  refine gw_loopC (α := Nat) (fun z_ => z_ ≤ l.length) (fun z_ => l.length - z_) (fun e z_ => (5, .int .i64 (z_ : Int)) :: e) 0 [(0, _), (1, _)] (Sub.consE rfl rfl (Sub.cons (i := 0) rfl (Sub.cons (i := 1) rfl (Sub.nil _)))) ?_ ?_
  · exact Nat.zero_le _
  · rintro i hI1 ih1
    try dsimp only
    have hle := hI1
    refine SQ <| SQ <| RG <| MV rfl rfl <| MV rfl rfl <| rw_len rfl tyE_S_impl_Stream rfl <| rw_lss rfl rfl rfl <| ND <| ?_
    refine gw_cond rfl (fun h1 => ?_) (fun h1 => ?_)
    · have hi2 := lt_of_dec h1
      obtain ⟨x3, hx3⟩ := get_of_lt hi2
      have hd3 := drop_cons hx3
      refine SK <| SQ <| BK <| SQ <| gw_draw' [(0, .det), (1, .det), (2, .det), (3, .det), (4, .det), (5, .det), (6, .det), (7, .det)] [8, 9] mixed rfl (free_det (free_det (free_det (free_det (free_det (free_det (free_det (free_det free_nil)))))))) (ts := [_, _]) rfl <| DT rfl rfl (fun K hk => MV rfl rfl hk) <| DT rfl rfl (fun K hk => MV rfl rfl hk) <| ?_
      obtain ⟨cse4_, hRe4_, hq4⟩ := hA.get hx3
      obtain ⟨ve4_0, ve4_1, ve4_2, ve4_3, ve4_4, rfl, ke4_0, ke4_1, ke4_2, ke4_3, ke4_4⟩ := hRe4_
      obtain ⟨Ae4_0, ce4_0, rfl, hAe4_0⟩ := ke4_0
      obtain ⟨Ae4_1, ce4_1, rfl, hAe4_1⟩ := ke4_1
      obtain ⟨Ae4_2, ce4_2, rfl, hAe4_2⟩ := ke4_2
      obtain ⟨Ae4_3, ce4_3, rfl, hAe4_3⟩ := ke4_3
      obtain ⟨Ae4_4, ce4_4, rfl, hAe4_4⟩ := ke4_4
      obtain ⟨hbe4_0, hbe4_1, hbe4_2, hbe4_3, hbe4_4, hbe4_5⟩ := hall x3 (List.mem_of_getElem? hx3)
      refine DT rfl rfl (fun K hk => rw_indexAddr (i) rfl tyE_S_impl_Stream rfl rfl rfl (hA.some hi2) hi2 hk) <| DT rfl rfl (fun K hk => rw_loadX_s [_, _, _, _, _, _, _, _, _, _, _, _, _, _, _, _, _, _, _, _, _, _, _, _, _, _, _, _, _, _, _, _, _, _, _, _, _, _, _] rfl tyS_impl_Stream rfl rfl (fun w hs => hq4.lds0 (n := 39) hs rfl) hk) <| DT rfl rfl (fun K hk => MV rfl rfl hk) <| DT rfl rfl (fun K hk => MV rfl rfl hk) <| ?_
      obtain ⟨cse5_, hRe5_, hq5⟩ := hA1.get hx3
      obtain ⟨ve5_0, ve5_1, ve5_2, ve5_3, ve5_4, rfl, ke5_0, ke5_1, ke5_2, ke5_3, ke5_4⟩ := hRe5_
      obtain ⟨Ae5_0, ce5_0, rfl, hAe5_0⟩ := ke5_0
      obtain ⟨Ae5_1, ce5_1, rfl, hAe5_1⟩ := ke5_1
      obtain ⟨Ae5_2, ce5_2, rfl, hAe5_2⟩ := ke5_2
      obtain ⟨Ae5_3, ce5_3, rfl, hAe5_3⟩ := ke5_3
      obtain ⟨Ae5_4, ce5_4, rfl, hAe5_4⟩ := ke5_4
      obtain ⟨hbe5_0, hbe5_1, hbe5_2, hbe5_3, hbe5_4, hbe5_5⟩ := hall x3 (List.mem_of_getElem? hx3)
      refine DT rfl rfl (fun K hk => rw_indexAddr (i) rfl tyE_S_impl_Stream rfl rfl rfl (hA1.some hi2) hi2 hk) <| DT rfl rfl (fun K hk => rw_loadX_s [_, _, _, _, _, _, _, _, _, _, _, _, _, _, _, _, _, _, _, _, _, _, _, _, _, _, _, _, _, _, _, _, _, _, _, _, _, _, _] rfl tyS_impl_Stream rfl rfl (fun w hs => hq5.lds0 (n := 39) hs rfl) hk) <| dw_nil <| CV1 rfl fun_laws_eqStream rfl (fun w hs => laws_eqStream ⟨_, _, _, _, _, rfl, (hAe4_0.s Pl.keeps hs), (hAe4_1.s Pl.keeps hs), (hAe4_2.s Pl.keeps hs), (hAe4_3.s Pl.keeps hs), (hAe4_4.s Pl.keeps hs)⟩ ⟨hbe5_0, hbe5_1, hbe5_2, hbe5_3, hbe5_4, hbe5_5⟩ ⟨_, _, _, _, _, rfl, (hAe5_0.s Pl.keeps hs), (hAe5_1.s Pl.keeps hs), (hAe5_2.s Pl.keeps hs), (hAe5_3.s Pl.keeps hs), (hAe5_4.s Pl.keeps hs)⟩) <| ?_
      refine NT rfl rfl <| ND <| CF rfl rfl <| SK <| IB <| RG <| MV rfl rfl <| rw_add rfl rfl rfl <| AS rfl rfl <| ND <| ?_
      refine gw_sub (Sub.consE (i := 5) rfl (int_succ (by omega)) (Sub.cons (i := 0) rfl (Sub.cons (i := 1) rfl (Sub.nil _)))) (ih1 (i + 1) ?_ ?_)
      · omega
      · show l.length - (i + 1) < l.length - i; omega
    · have hn6 := nil_of_dec h1
      refine EX rfl <| SQ <| RG <| AS rfl rfl <| ND <| ret_cv Try.func18 (res1 Try.func18 rfl (rv_tmp rfl)) <| ?_
      rfl

theorem laws_eqCount (a : Count) (w : World) : CV Try.prog 89 [.agg a.cells.toArray, .agg a.cells.toArray] w (.bool true) := by
  refine cv_of Try.func89 rfl rfl rfl <| SQ <| RG <| BX [_, _, _] rfl rfl rfl <| fun b1 => BX [_, _, _] rfl rfl rfl <| fun b2 => AS rfl rfl <| ND <| SQ <| SQ <| RG <| FA rfl tyF_impl_Count_0 rfl <| LD (i := 1) rfl tyP_int rfl rfl rfl <| FA rfl tyF_impl_Count_0 rfl <| LD (i := 0) rfl tyP_int rfl rfl rfl <| NS rfl rfl rfl <| ND <| CF rfl rfl <| SK <| SQ <| SQ <| RG <| FA rfl tyF_impl_Count_1 rfl <| LD (i := 1) rfl tyP_int rfl rfl rfl <| FA rfl tyF_impl_Count_1 rfl <| ?_
  refine LD (i := 0) rfl tyP_int rfl rfl rfl <| NS rfl rfl rfl <| ND <| CF rfl rfl <| SK <| SQ <| SQ <| RG <| FA rfl tyF_impl_Count_2 rfl <| LD (i := 1) rfl tyP_int rfl rfl rfl <| FA rfl tyF_impl_Count_2 rfl <| LD (i := 0) rfl tyP_int rfl rfl rfl <| NS rfl rfl rfl <| ND <| CF rfl rfl <| SK <| SQ <| RG <| AS rfl rfl <| ND <| ret_cv Try.func89 (res1 Try.func89 rfl (rv_tmp rfl)) <| ?_
  rfl

theorem laws_eqAllow (a : Allow) (w : World) : CV Try.prog 90 [.agg a.cells.toArray, .agg a.cells.toArray] w (.bool true) := by
  refine cv_of Try.func90 rfl rfl rfl <| SQ <| RG <| BX [_, _, _, _] rfl rfl rfl <| fun b1 => BX [_, _, _, _] rfl rfl rfl <| fun b2 => AS rfl rfl <| ND <| SQ <| SQ <| RG <| FA rfl tyF_impl_Allow_0 rfl <| LD (i := 1) rfl tyP_int rfl rfl rfl <| FA rfl tyF_impl_Allow_0 rfl <| LD (i := 0) rfl tyP_int rfl rfl rfl <| NS rfl rfl rfl <| ND <| CF rfl rfl <| SK <| SQ <| SQ <| RG <| FA rfl tyF_impl_Allow_1 rfl <| LD (i := 1) rfl tyP_int rfl rfl rfl <| FA rfl tyF_impl_Allow_1 rfl <| ?_
  refine LD (i := 0) rfl tyP_int rfl rfl rfl <| NS rfl rfl rfl <| ND <| CF rfl rfl <| SK <| SQ <| SQ <| RG <| FA rfl tyF_impl_Allow_2 rfl <| LD (i := 1) rfl tyP_int rfl rfl rfl <| FA rfl tyF_impl_Allow_2 rfl <| LD (i := 0) rfl tyP_int rfl rfl rfl <| NS rfl rfl rfl <| ND <| CF rfl rfl <| SK <| SQ <| SQ <| RG <| FA rfl tyF_impl_Allow_3 rfl <| LD (i := 1) rfl tyP_int rfl rfl rfl <| FA rfl tyF_impl_Allow_3 rfl <| LD (i := 0) rfl tyP_int rfl rfl rfl <| NS rfl rfl rfl <| ?_
  refine ND <| CF rfl rfl <| SK <| SQ <| RG <| AS rfl rfl <| ND <| ret_cv Try.func90 (res1 Try.func90 rfl (rv_tmp rfl)) <| ?_
  rfl

theorem laws_eqFrame (a : Frame') (w : World) : CV Try.prog 220 [.agg a.cells.toArray, .agg a.cells.toArray] w (.bool true) := by
  refine cv_of Try.func220 rfl rfl rfl <| SQ <| RG <| BX [_, _, _, _, _, _, _, _, _] rfl rfl rfl <| fun b1 => BX [_, _, _, _, _, _, _, _, _] rfl rfl rfl <| fun b2 => AS rfl rfl <| ND <| SQ <| SQ <| RG <| FA rfl tyF_impl_Frame_0 rfl <| LD (i := 1) rfl tyP_int rfl rfl rfl <| FA rfl tyF_impl_Frame_0 rfl <| LD (i := 0) rfl tyP_int rfl rfl rfl <| NS rfl rfl rfl <| ND <| CF rfl rfl <| SK <| SQ <| SQ <| RG <| FA rfl tyF_impl_Frame_1 rfl <| LD (i := 1) rfl tyP_int rfl rfl rfl <| ?_
  refine FA rfl tyF_impl_Frame_1 rfl <| LD (i := 0) rfl tyP_int rfl rfl rfl <| NS rfl rfl rfl <| ND <| CF rfl rfl <| SK <| SQ <| SQ <| RG <| FA rfl tyF_impl_Frame_2 rfl <| LD (i := 1) rfl tyP_int rfl rfl rfl <| FA rfl tyF_impl_Frame_2 rfl <| LD (i := 0) rfl tyP_int rfl rfl rfl <| NS rfl rfl rfl <| ND <| CF rfl rfl <| SK <| SQ <| SQ <| RG <| FA rfl tyF_impl_Frame_3 rfl <| LD (i := 1) rfl tyP_string rfl rfl rfl <| FA rfl tyF_impl_Frame_3 rfl <| LD (i := 0) rfl tyP_string rfl rfl rfl <| ?_
  refine rw_neqSelfS rfl rfl rfl <| ND <| CF rfl rfl <| SK <| SQ <| SQ <| RG <| FA rfl tyF_impl_Frame_4 rfl <| LD (i := 1) rfl tyP_bool rfl rfl rfl <| FA rfl tyF_impl_Frame_4 rfl <| LD (i := 0) rfl tyP_bool rfl rfl rfl <| rw_neqSelfB (by kernel_rfl) rfl rfl rfl <| ND <| CF rfl rfl <| SK <| SQ <| SQ <| RG <| FA rfl tyF_impl_Frame_5 rfl <| LD (i := 1) rfl tyP_int rfl rfl rfl <| FA rfl tyF_impl_Frame_5 rfl <| LD (i := 0) rfl tyP_int rfl rfl rfl <| NS rfl rfl rfl <| ND <| CF rfl rfl <| ?_
  refine SK <| SQ <| SQ <| RG <| FA rfl tyF_impl_Frame_6 rfl <| LD (i := 1) rfl tyP_int rfl rfl rfl <| FA rfl tyF_impl_Frame_6 rfl <| LD (i := 0) rfl tyP_int rfl rfl rfl <| NS rfl rfl rfl <| ND <| CF rfl rfl <| SK <| SQ <| SQ <| RG <| FA rfl tyF_impl_Frame_7 rfl <| LD (i := 1) rfl tyP_int rfl rfl rfl <| FA rfl tyF_impl_Frame_7 rfl <| LD (i := 0) rfl tyP_int rfl rfl rfl <| NS rfl rfl rfl <| ND <| CF rfl rfl <| SK <| SQ <| SQ <| RG <| FA rfl tyF_impl_Frame_8 rfl <| ?_
  refine LD (i := 1) rfl tyP_bool rfl rfl rfl <| FA rfl tyF_impl_Frame_8 rfl <| LD (i := 0) rfl tyP_bool rfl rfl rfl <| rw_neqSelfB (by kernel_rfl) rfl rfl rfl <| ND <| CF rfl rfl <| SK <| SQ <| RG <| AS rfl rfl <| ND <| ret_cv Try.func220 (res1 Try.func220 rfl (rv_tmp rfl)) <| ?_
  rfl

theorem laws_eqFrameS {w : World} {v : Value} {l : List Frame'} (hv : RdS w 9 (Pl Frame'.cells) v l) (hb : l.length ≤ 1048576) {v1 : Value} (hv1 : RdS w 9 (Pl Frame'.cells) v1 l) : CV Try.prog 208 [v, v1] w (.bool true) := by
  obtain ⟨A, c, rfl, hA⟩ := hv
  obtain ⟨A1, c1, rfl, hA1⟩ := hv1
  refine cv_of Try.func208 rfl rfl rfl <| SQ <| RG <| AS rfl rfl <| ND <| SQ <| SQ <| RG <| MV rfl rfl <| rw_len rfl tyE_S_impl_Frame rfl <| MV rfl rfl <| rw_len rfl tyE_S_impl_Frame rfl <| NS rfl rfl rfl <| ND <| CF rfl rfl <| SK <| SQ <| SQ <| RG <| AS rfl rfl <| ND <| BK <| ?_
  refine gw_loopC (α := Nat) (fun z_ => z_ ≤ l.length) (fun z_ => l.length - z_) (fun e z_ => (5, .int .i64 (z_ : Int)) :: e) 0 [(0, _), (1, _)] (Sub.consE rfl rfl (Sub.cons (i := 0) rfl (Sub.cons (i := 1) rfl (Sub.nil _)))) ?_ ?_
  · exact Nat.zero_le _
  · rintro i hI1 ih1
    try dsimp only
    have hle := hI1
    refine SQ <| SQ <| RG <| MV rfl rfl <| MV rfl rfl <| rw_len rfl tyE_S_impl_Frame rfl <| rw_lss rfl rfl rfl <| ND <| ?_
    refine gw_cond rfl (fun h1 => ?_) (fun h1 => ?_)
    · have hi2 := lt_of_dec h1
      obtain ⟨x3, hx3⟩ := get_of_lt hi2
      have hd3 := drop_cons hx3
      refine SK <| SQ <| BK <| SQ <| gw_draw' [(0, .det), (1, .det), (2, .det), (3, .det), (4, .det), (5, .det), (6, .det), (7, .det)] [8, 9] mixed rfl (free_det (free_det (free_det (free_det (free_det (free_det (free_det (free_det free_nil)))))))) (ts := [_, _]) rfl <| DT rfl rfl (fun K hk => MV rfl rfl hk) <| DT rfl rfl (fun K hk => MV rfl rfl hk) <| ?_
      have hq4 := hA.plain hx3
      refine DT rfl rfl (fun K hk => rw_indexAddr (i) rfl tyE_S_impl_Frame rfl rfl rfl (hA.some hi2) hi2 hk) <| DT rfl rfl (fun K hk => rw_loadX_s [_, _, _, _, _, _, _, _, _] rfl tyS_impl_Frame rfl rfl (fun w hs => hq4.lds0 (n := 9) hs rfl) hk) <| DT rfl rfl (fun K hk => MV rfl rfl hk) <| DT rfl rfl (fun K hk => MV rfl rfl hk) <| ?_
      have hq5 := hA1.plain hx3
      refine DT rfl rfl (fun K hk => rw_indexAddr (i) rfl tyE_S_impl_Frame rfl rfl rfl (hA1.some hi2) hi2 hk) <| DT rfl rfl (fun K hk => rw_loadX_s [_, _, _, _, _, _, _, _, _] rfl tyS_impl_Frame rfl rfl (fun w hs => hq5.lds0 (n := 9) hs rfl) hk) <| dw_nil <| CV1 rfl fun_laws_eqFrame rfl (fun w hs => laws_eqFrame _ w) <| NT rfl rfl <| ND <| CF rfl rfl <| SK <| IB <| RG <| MV rfl rfl <| rw_add rfl rfl rfl <| AS rfl rfl <| ND <| ?_
      refine gw_sub (Sub.consE (i := 5) rfl (int_succ (by omega)) (Sub.cons (i := 0) rfl (Sub.cons (i := 1) rfl (Sub.nil _)))) (ih1 (i + 1) ?_ ?_)
      · omega
      · show l.length - (i + 1) < l.length - i; omega
    · have hn6 := nil_of_dec h1
      refine EX rfl <| SQ <| RG <| AS rfl rfl <| ND <| ret_cv Try.func208 (res1 Try.func208 rfl (rv_tmp rfl)) <| ?_
      rfl

theorem laws_eqPacket {w : World} {cs : List Value} {x : Packet} (hv : RdPacket w cs x) (hb : x.le 1048576) {cs1 : List Value} (hv1 : RdPacket w cs1 x) : CV Try.prog 155 [.agg cs.toArray, .agg cs1.toArray] w (.bool true) := by
  obtain ⟨v0, rfl, k0⟩ := hv
  obtain ⟨A0, c0, rfl, hA0⟩ := k0
  obtain ⟨hb0, hb1⟩ := hb
  obtain ⟨v1_0, rfl, k1_0⟩ := hv1
  obtain ⟨A1_0, c1_0, rfl, hA1_0⟩ := k1_0
  refine cv_of Try.func155 rfl rfl rfl <| SQ <| RG <| BX [_, _] rfl rfl rfl <| fun b1 => BX [_, _] rfl rfl rfl <| fun b2 => AS rfl rfl <| ND <| SQ <| SQ <| RG <| FA rfl tyF_impl_Packet_0 rfl <| LD (i := 1) rfl tyP_int rfl rfl rfl <| FA rfl tyF_impl_Packet_0 rfl <| LD (i := 0) rfl tyP_int rfl rfl rfl <| NS rfl rfl rfl <| ND <| CF rfl rfl <| SK <| SQ <| SQ <| RG <| FA rfl tyF_impl_Packet_1 rfl <| LD (i := 1) rfl tyP_S_impl_Frame rfl rfl rfl <| FA rfl tyF_impl_Packet_1 rfl <| ?_
  refine LD (i := 0) rfl tyP_S_impl_Frame rfl rfl rfl <| CV1 rfl fun_laws_eqFrameS rfl (fun w hs => laws_eqFrameS (hA0.s Pl.keeps hs) (by omega) (hA1_0.s Pl.keeps hs)) <| NT rfl rfl <| ND <| CF rfl rfl <| SK <| SQ <| RG <| AS rfl rfl <| ND <| ret_cv Try.func155 (res1 Try.func155 rfl (rv_tmp rfl)) <| ?_
  rfl

theorem laws_eqPacketS {w : World} {v : Value} {l : List Packet} (hv : RdS w 2 RdPacket v l) (hb : l.length ≤ 1048576) (hall : ∀ x ∈ l, x.le 1048576) {v1 : Value} (hv1 : RdS w 2 RdPacket v1 l) : CV Try.prog 91 [v, v1] w (.bool true) := by
  obtain ⟨A, c, rfl, hA⟩ := hv
  obtain ⟨A1, c1, rfl, hA1⟩ := hv1
  refine cv_of Try.func91 rfl rfl rfl <| SQ <| RG <| AS rfl rfl <| ND <| SQ <| SQ <| RG <| MV rfl rfl <| rw_len rfl tyE_S_impl_Packet rfl <| MV rfl rfl <| rw_len rfl tyE_S_impl_Packet rfl <| NS rfl rfl rfl <| ND <| CF rfl rfl <| SK <| SQ <| SQ <| RG <| AS rfl rfl <| ND <| BK <| ?_
  refine gw_loopC (α := Nat) (fun z_ => z_ ≤ l.length) (fun z_ => l.length - z_) (fun e z_ => (5, .int .i64 (z_ : Int)) :: e) 0 [(0, _), (1, _)] (Sub.consE rfl rfl (Sub.cons (i := 0) rfl (Sub.cons (i := 1) rfl (Sub.nil _)))) ?_ ?_
  · exact Nat.zero_le _
  · rintro i hI1 ih1
    try dsimp only
    have hle := hI1
    refine SQ <| SQ <| RG <| MV rfl rfl <| MV rfl rfl <| rw_len rfl tyE_S_impl_Packet rfl <| rw_lss rfl rfl rfl <| ND <| ?_
    refine gw_cond rfl (fun h1 => ?_) (fun h1 => ?_)
    · have hi2 := lt_of_dec h1
      obtain ⟨x3, hx3⟩ := get_of_lt hi2
      have hd3 := drop_cons hx3
      refine SK <| SQ <| BK <| SQ <| gw_draw' [(0, .det), (1, .det), (2, .det), (3, .det), (4, .det), (5, .det), (6, .det), (7, .det)] [8, 9] mixed rfl (free_det (free_det (free_det (free_det (free_det (free_det (free_det (free_det free_nil)))))))) (ts := [_, _]) rfl <| DT rfl rfl (fun K hk => MV rfl rfl hk) <| DT rfl rfl (fun K hk => MV rfl rfl hk) <| ?_
      obtain ⟨cse4_, hRe4_, hq4⟩ := hA.get hx3
      obtain ⟨ve4_0, rfl, ke4_0⟩ := hRe4_
      obtain ⟨Ae4_0, ce4_0, rfl, hAe4_0⟩ := ke4_0
      obtain ⟨hbe4_0, hbe4_1⟩ := hall x3 (List.mem_of_getElem? hx3)
      refine DT rfl rfl (fun K hk => rw_indexAddr (i) rfl tyE_S_impl_Packet rfl rfl rfl (hA.some hi2) hi2 hk) <| DT rfl rfl (fun K hk => rw_loadX_s [_, _] rfl tyS_impl_Packet rfl rfl (fun w hs => hq4.lds0 (n := 2) hs rfl) hk) <| DT rfl rfl (fun K hk => MV rfl rfl hk) <| DT rfl rfl (fun K hk => MV rfl rfl hk) <| ?_
      obtain ⟨cse5_, hRe5_, hq5⟩ := hA1.get hx3
      obtain ⟨ve5_0, rfl, ke5_0⟩ := hRe5_
      obtain ⟨Ae5_0, ce5_0, rfl, hAe5_0⟩ := ke5_0
      obtain ⟨hbe5_0, hbe5_1⟩ := hall x3 (List.mem_of_getElem? hx3)
      refine DT rfl rfl (fun K hk => rw_indexAddr (i) rfl tyE_S_impl_Packet rfl rfl rfl (hA1.some hi2) hi2 hk) <| DT rfl rfl (fun K hk => rw_loadX_s [_, _] rfl tyS_impl_Packet rfl rfl (fun w hs => hq5.lds0 (n := 2) hs rfl) hk) <| dw_nil <| CV1 rfl fun_laws_eqPacket rfl (fun w hs => laws_eqPacket ⟨_, rfl, (hAe4_0.s Pl.keeps hs)⟩ ⟨hbe5_0, hbe5_1⟩ ⟨_, rfl, (hAe5_0.s Pl.keeps hs)⟩) <| NT rfl rfl <| ND <| CF rfl rfl <| SK <| IB <| RG <| MV rfl rfl <| rw_add rfl rfl rfl <| AS rfl rfl <| ND <| ?_
      refine gw_sub (Sub.consE (i := 5) rfl (int_succ (by omega)) (Sub.cons (i := 0) rfl (Sub.cons (i := 1) rfl (Sub.nil _)))) (ih1 (i + 1) ?_ ?_)
      · omega
      · show l.length - (i + 1) < l.length - i; omega
    · have hn6 := nil_of_dec h1
      refine EX rfl <| SQ <| RG <| AS rfl rfl <| ND <| ret_cv Try.func91 (res1 Try.func91 rfl (rv_tmp rfl)) <| ?_
      rfl

theorem laws_eqConn {w : World} {cs : List Value} {x : Conn} (hv : RdConn w cs x) (hb : x.le 1048576) {cs1 : List Value} (hv1 : RdConn w cs1 x) : CV Try.prog 28 [.agg cs.toArray, .agg cs1.toArray] w (.bool true) := by
  obtain ⟨v0, v1, rfl, k0, k1⟩ := hv
  obtain ⟨A0, c0, rfl, hA0⟩ := k0
  obtain ⟨A1, c1, rfl, hA1⟩ := k1
  obtain ⟨hb0, hb1, hb2, hb3⟩ := hb
  obtain ⟨v1_0, v1_1, rfl, k1_0, k1_1⟩ := hv1
  obtain ⟨A1_0, c1_0, rfl, hA1_0⟩ := k1_0
  obtain ⟨A1_1, c1_1, rfl, hA1_1⟩ := k1_1
  refine cv_of Try.func28 rfl rfl rfl <| SQ <| RG <| BX [_, _, _, _, _, _, _, _, _, _, _, _, _, _, _, _, _, _, _, _, _, _, _, _, _, _, _, _, _, _, _, _, _, _, _, _, _, _, _, _, _, _, _, _, _, _, _, _, _, _] rfl rfl rfl <| fun b1 => BX [_, _, _, _, _, _, _, _, _, _, _, _, _, _, _, _, _, _, _, _, _, _, _, _, _, _, _, _, _, _, _, _, _, _, _, _, _, _, _, _, _, _, _, _, _, _, _, _, _, _] rfl rfl rfl <| fun b2 => AS rfl rfl <| ND <| SQ <| SQ <| RG <| FA rfl tyF_impl_Conn_0 rfl <| LD (i := 1) rfl tyP_bool rfl rfl rfl <| FA rfl tyF_impl_Conn_0 rfl <| ?_
  refine LD (i := 0) rfl tyP_bool rfl rfl rfl <| rw_neqSelfB (by kernel_rfl) rfl rfl rfl <| ND <| CF rfl rfl <| SK <| SQ <| SQ <| RG <| FA rfl tyF_impl_Conn_1 rfl <| LS (i := 1) [_, _, _, _, _, _, _, _] rfl tyS_impl_Conf rfl rfl rfl rfl <| FA rfl tyF_impl_Conn_1 rfl <| LS (i := 0) [_, _, _, _, _, _, _, _] rfl tyS_impl_Conf rfl rfl rfl rfl <| CV1 rfl fun_laws_eqConf rfl (fun w hs => laws_eqConf _ w) <| NT rfl rfl <| ND <| CF rfl rfl <| SK <| SQ <| SQ <| RG <| FA rfl tyF_impl_Conn_2 rfl <| LS (i := 1) [_, _, _, _, _, _, _, _] rfl tyS_impl_Conf rfl rfl rfl rfl <| ?_
  refine FA rfl tyF_impl_Conn_2 rfl <| LS (i := 0) [_, _, _, _, _, _, _, _] rfl tyS_impl_Conf rfl rfl rfl rfl <| CV1 rfl fun_laws_eqConf rfl (fun w hs => laws_eqConf _ w) <| NT rfl rfl <| ND <| CF rfl rfl <| SK <| SQ <| SQ <| RG <| FA rfl tyF_impl_Conn_3 rfl <| LD (i := 1) rfl tyP_S_impl_Stream rfl rfl rfl <| FA rfl tyF_impl_Conn_3 rfl <| LD (i := 0) rfl tyP_S_impl_Stream rfl rfl rfl <| CV1 rfl fun_laws_eqStreamS rfl (fun w hs => laws_eqStreamS (hA0.s RdStream.keeps hs) hb0 hb1 (hA1_0.s RdStream.keeps hs)) <| ?_
  refine NT rfl rfl <| ND <| CF rfl rfl <| SK <| SQ <| SQ <| RG <| FA rfl tyF_impl_Conn_4 rfl <| LS (i := 1) [_, _, _, _] rfl tyS_impl_Credit rfl rfl rfl rfl <| FA rfl tyF_impl_Conn_4 rfl <| LS (i := 0) [_, _, _, _] rfl tyS_impl_Credit rfl rfl rfl rfl <| CV1 rfl fun_laws_eqCredit rfl (fun w hs => laws_eqCredit _ w) <| NT rfl rfl <| ND <| CF rfl rfl <| SK <| SQ <| SQ <| RG <| FA rfl tyF_impl_Conn_5 rfl <| LS (i := 1) [_, _, _, _, _, _] rfl tyS_impl_Window rfl rfl rfl rfl <| FA rfl tyF_impl_Conn_5 rfl <| ?_
  refine LS (i := 0) [_, _, _, _, _, _] rfl tyS_impl_Window rfl rfl rfl rfl <| CV1 rfl fun_laws_eqWindow rfl (fun w hs => laws_eqWindow _ w) <| NT rfl rfl <| ND <| CF rfl rfl <| SK <| SQ <| SQ <| RG <| FA rfl tyF_impl_Conn_6 rfl <| LS (i := 1) [_, _, _] rfl tyS_impl_Count rfl rfl rfl rfl <| FA rfl tyF_impl_Conn_6 rfl <| LS (i := 0) [_, _, _] rfl tyS_impl_Count rfl rfl rfl rfl <| CV1 rfl fun_laws_eqCount rfl (fun w hs => laws_eqCount _ w) <| NT rfl rfl <| ND <| CF rfl rfl <| SK <| SQ <| SQ <| RG <| ?_
  refine FA rfl tyF_impl_Conn_7 rfl <| LS (i := 1) [_, _, _] rfl tyS_impl_Count rfl rfl rfl rfl <| FA rfl tyF_impl_Conn_7 rfl <| LS (i := 0) [_, _, _] rfl tyS_impl_Count rfl rfl rfl rfl <| CV1 rfl fun_laws_eqCount rfl (fun w hs => laws_eqCount _ w) <| NT rfl rfl <| ND <| CF rfl rfl <| SK <| SQ <| SQ <| RG <| FA rfl tyF_impl_Conn_8 rfl <| LS (i := 1) [_, _, _, _] rfl tyS_impl_Allow rfl rfl rfl rfl <| FA rfl tyF_impl_Conn_8 rfl <| LS (i := 0) [_, _, _, _] rfl tyS_impl_Allow rfl rfl rfl rfl <| ?_
  refine CV1 rfl fun_laws_eqAllow rfl (fun w hs => laws_eqAllow _ w) <| NT rfl rfl <| ND <| CF rfl rfl <| SK <| SQ <| SQ <| RG <| FA rfl tyF_impl_Conn_9 rfl <| LS (i := 1) [_, _, _, _] rfl tyS_impl_Allow rfl rfl rfl rfl <| FA rfl tyF_impl_Conn_9 rfl <| LS (i := 0) [_, _, _, _] rfl tyS_impl_Allow rfl rfl rfl rfl <| CV1 rfl fun_laws_eqAllow rfl (fun w hs => laws_eqAllow _ w) <| NT rfl rfl <| ND <| CF rfl rfl <| SK <| SQ <| SQ <| RG <| FA rfl tyF_impl_Conn_10 rfl <| LD (i := 1) rfl tyP_bool rfl rfl rfl <| ?_
  refine FA rfl tyF_impl_Conn_10 rfl <| LD (i := 0) rfl tyP_bool rfl rfl rfl <| rw_neqSelfB (by kernel_rfl) rfl rfl rfl <| ND <| CF rfl rfl <| SK <| SQ <| SQ <| RG <| FA rfl tyF_impl_Conn_11 rfl <| LD (i := 1) rfl tyP_bool rfl rfl rfl <| FA rfl tyF_impl_Conn_11 rfl <| LD (i := 0) rfl tyP_bool rfl rfl rfl <| rw_neqSelfB (by kernel_rfl) rfl rfl rfl <| ND <| CF rfl rfl <| SK <| SQ <| SQ <| RG <| FA rfl tyF_impl_Conn_12 rfl <| LD (i := 1) rfl tyP_bool rfl rfl rfl <| FA rfl tyF_impl_Conn_12 rfl <| ?_
  refine LD (i := 0) rfl tyP_bool rfl rfl rfl <| rw_neqSelfB (by kernel_rfl) rfl rfl rfl <| ND <| CF rfl rfl <| SK <| SQ <| SQ <| RG <| FA rfl tyF_impl_Conn_13 rfl <| LD (i := 1) rfl tyP_int rfl rfl rfl <| FA rfl tyF_impl_Conn_13 rfl <| LD (i := 0) rfl tyP_int rfl rfl rfl <| NS rfl rfl rfl <| ND <| CF rfl rfl <| SK <| SQ <| SQ <| RG <| FA rfl tyF_impl_Conn_14 rfl <| LD (i := 1) rfl tyP_int rfl rfl rfl <| FA rfl tyF_impl_Conn_14 rfl <| LD (i := 0) rfl tyP_int rfl rfl rfl <| ?_
  refine NS rfl rfl rfl <| ND <| CF rfl rfl <| SK <| SQ <| SQ <| RG <| FA rfl tyF_impl_Conn_15 rfl <| LD (i := 1) rfl tyP_S_impl_Packet rfl rfl rfl <| FA rfl tyF_impl_Conn_15 rfl <| LD (i := 0) rfl tyP_S_impl_Packet rfl rfl rfl <| CV1 rfl fun_laws_eqPacketS rfl (fun w hs => laws_eqPacketS (hA1.s RdPacket.keeps hs) hb2 hb3 (hA1_1.s RdPacket.keeps hs)) <| NT rfl rfl <| ND <| CF rfl rfl <| SK <| SQ <| SQ <| RG <| FA rfl tyF_impl_Conn_16 rfl <| LD (i := 1) rfl tyP_int rfl rfl rfl <| FA rfl tyF_impl_Conn_16 rfl <| ?_
  refine LD (i := 0) rfl tyP_int rfl rfl rfl <| NS rfl rfl rfl <| ND <| CF rfl rfl <| SK <| SQ <| SQ <| RG <| FA rfl tyF_impl_Conn_17 rfl <| LD (i := 1) rfl tyP_int rfl rfl rfl <| FA rfl tyF_impl_Conn_17 rfl <| LD (i := 0) rfl tyP_int rfl rfl rfl <| NS rfl rfl rfl <| ND <| CF rfl rfl <| SK <| SQ <| RG <| AS rfl rfl <| ND <| ret_cv Try.func28 (res1 Try.func28 rfl (rv_tmp rfl)) <| ?_
  rfl
end Go.Proofs.Ytildklpahfbnpaa
