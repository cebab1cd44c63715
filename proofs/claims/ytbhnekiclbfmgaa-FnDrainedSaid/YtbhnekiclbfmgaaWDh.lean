/- Walks: draws. -/
import Derived.Test.YtbhnekiclbfmgaaWDa
import Derived.Test.YtbhnekiclbfmgaaFactsDa
import Derived.Test.YtbhnekiclbfmgaaDrw
import Derived.Test.YtbhnekiclbfmgaaSlk
import Derived.Test.YtbhnekiclbfmgaaDrb
import Derived.Test.YtbhnekiclbfmgaaSli
import Derived.Test.YtbhnekiclbfmgaaDrl
namespace Go.Proofs.Ytbhnekiclbfmgaa
open SL Go.RowKit
set_option maxHeartbeats 2000000 in
set_option maxRecDepth 20000 in
theorem impl_WriteRing {w : World} {cs : List Value} {x : Ring} (hv : RdRing w cs x) (hx : x = newRing 16) {D : List UInt8} (hD : D.length ≤ 16) : CN Try.prog 21 [.agg cs.toArray, .string (mkS D)] w (fun v ch => ∃ cs', v = .tuple #[.agg cs'.toArray, .int .i64 (D.length : Int)] ∧ OwRing cs' (wrRing x D) ch) := by
  have hxl_ : x.cells.length = 16 := by subst hx; rfl
  have hb : x.le 1048576 := (by rw [show x.le 1048576 = (x.cells.length ≤ 1048576) from rfl]; omega)
  obtain ⟨v0, rfl, k0⟩ := hv
  obtain ⟨A0, c0, rfl, hA0⟩ := k0
  have hb0 := hb
  refine cn_of Try.func21 Z Z Z <| SQ <| RG <| BX [_, _, _, _] Z Z Z <| fun b1 => AL Z tyZ_impl_Ring <| fun b2 => AS Z Z <| ND <| SQ <| gw_drawT' (.det 0 (.detB 2 (.detB 3 (.det 4 (.both (.add 1 (.det 5 (.detB 6 (.add 7 (.st 8 .nil))))) (.add 7 (.add 1 (.det 5 (.detB 6 (.st 8 .nil)))))))))) [9] mixed (by kernel_rfl) (ts := [_]) Z <| dz_det Z Z (fun K hk => LS (i := 1) [_, _, _, _] Z tyS_impl_Ring Z Z Z Z hk) <| dz_detB Z Z (fun K hk => MV Z Z hk) <| dz_detB Z Z (fun K hk => rw_lenL Z tyStr_string Z hk) <| ?_
  refine dz_det Z Z (fun K hk => LS (i := 1) [_, _, _, _] Z tyS_impl_Ring Z Z Z Z hk) <| ?_
  refine ⟨?_, ?_⟩
  · refine dz_add Z Z (fun K hk => CN1 Z fun_impl_copyRing Z (fun w hs => impl_copyRing ⟨_, Z, (hA0.s Pl.keeps hs)⟩ (show _ ≤ _ from hb0)) hk) <| fun vv1 ch1 how1 => ?_
    obtain ⟨cs1, rfl, v1_0, c1_0, rfl, h1_0, rfl⟩ := how1
    obtain ⟨R1_0, b1_0, rfl, hR1_0, hrd1_0⟩ := h1_0.shape eInt
    refine dz_det Z Z (fun K hk => CV1 Z fun_impl_RoomOf Z (fun w hs => impl_RoomOf ⟨_, Z, (hA0.s Pl.keeps hs)⟩ (show _ ≤ _ from hb0)) hk) <| dz_detB Z Z (fun K hk => rw_minE Z Z Z (min_room hx hD) hk) <| dz_new Z Z tyZ_impl_Ring <| fun b3 => dz_sto Z Z (fun K hk => rw_storeF [_, _, _, _] [_, _, _, _] tyS_impl_Ring.sz Z Z Z Z Z Z Z hk) <| dz_nil <| rw_take <| AS Z Z <| ND <| SQ <| SQ <| RG <| MV Z Z <| MV Z Z <| ND <| BK <| ?_
    refine gw_loopX (α := Nat × List Ck) (fun z_ => z_.1 ≤ D.length ∧ OwS 3 1 (PlO intC) (.slice R1_0 x.cells.length b1_0) (cellsAt D z_.1) z_.2) (fun z_ => D.length - z_.1) (fun e z_ => (17, .int .i64 (z_.1 : Int)) :: e) (fun B _ => B) (fun F z_ => z_.2 ++ ([])) (0, ch1) [(1, _), (2, _), (4, _), (5, _), (6, _), (7, _), (16, _)] (Sub.consE Z Z (Sub.cons (i := 1) Z (Sub.cons (i := 2) Z (Sub.cons (i := 4) Z (Sub.cons (i := 5) Z (Sub.cons (i := 6) Z (Sub.cons (i := 7) Z (Sub.cons (i := 16) Z (Sub.nil _))))))))) Z Z ?_ ?_
    · refine ⟨Nat.zero_le _, ?_⟩
      rw [show cellsAt D 0 = x.cells by subst hx; rfl]; exact h1_0
    · rintro ⟨i, ch⟩ hI2 ih2
      dsimp only at hI2
      dsimp only
      obtain ⟨hle, hO⟩ := hI2
      have hL : (cellsAt D i).length = x.cells.length := by rw [cellsAt_len hle hD, hxl_]
      refine SQ <| RG <| rw_lss Z Z Z <| ND <| SQ <| ?_
      refine gw_cond Z (fun h1 => ?_) (fun h1 => ?_)
      · have hi3 := lt_of_dec h1
        obtain ⟨x4, hx4⟩ := get_of_lt hi3
        have hd4 := drop_cons hx4
        refine SK <| SQ <| BK <| SQ <| RG <| MV Z Z <| AS Z Z <| ND <| gw_draw' [dd 0, dd 1, dd 2, dd 3, dd 4, dd 5, dd 6, dd 7, dd 8, dd 9, dd 10, dd 11, dd 12] [13, 14] mixed Z (FD Z) (ts := [_, _]) Z <| DT Z Z (fun K hk => FA Z tyF_impl_Ring_3 Z hk) <| DT Z Z (fun K hk => LD (i := 0) Z tyP_S_int Z Z Z hk) <| DT Z Z (fun K hk => FA Z tyF_impl_Ring_2 Z hk) <| DT Z Z (fun K hk => LD (i := 2) Z tyP_int Z Z Z hk) <| ?_
        refine DM Z Z Z <| DT Z Z (fun K hk => rw_add Z Z Z hk) <| DT Z Z (fun K hk => FA Z tyF_impl_Ring_0 Z hk) <| DT Z Z (fun K hk => LD (i := 2) Z tyP_int Z Z Z hk) <| DT Z Z (fun K hk => rw_rem Z Z Z (by rw [hx]; decide) hk) <| DM Z Z Z <| DM Z Z Z <| DT Z Z (fun K hk => rw_idxL i Z tyStr_string Z Z Z hx4 hk) <| DT Z Z (fun K hk => rw_convI Z tyCI_uint8_int Z hk) <| ?_
        refine dw_nil <| rw_indexAddr (i) Z tyE_S_int Z Z (wr_place hx (by omega)) (hR1_0 (Nat.zero_lt_of_lt (show i < x.cells.length by omega))) (show i < x.cells.length by omega) <| rw_storeOw (F' := []) tyP_int.sz hO (by rw [hL]; exact (show i < x.cells.length by omega)) Z Z ((pg PR PR)) <| fun ch5 how5 => ND <| IB <| RG <| rw_add Z Z Z <| MV Z Z <| ND <| ?_
        refine gw_sub (Sub.consE (i := 17) Z (int_succ (by omega)) (Sub.cons (i := 1) Z (Sub.cons (i := 2) Z (Sub.cons (i := 4) Z (Sub.cons (i := 5) Z (Sub.cons (i := 6) Z (Sub.cons (i := 7) Z (Sub.cons (i := 16) Z (Sub.nil _))))))))) (ih2 (i + 1, ch5) ?_ ?_)
        · exact ⟨by have := hi3; omega, by rw [← cells_step hx4 hD]; exact how5⟩
        · show D.length - (i + 1) < D.length - i; have := hi3; omega
      have hn6 := nil_of_dec h1
      refine EX Z <| SQ <| RG <| FA Z tyF_impl_Ring_2 Z <| LD (i := 0) Z tyP_int Z Z Z <| MV Z Z <| rw_add Z Z Z <| FA Z tyF_impl_Ring_2 Z <| ST (i := 0) [_] [_, _, _, _] tyP_int.sz Z Z Z Z Z Z Z Z <| ND <| SQ <| RG <| LS (i := 0) [_, _, _, _] Z tyS_impl_Ring Z Z Z Z <| MV Z Z <| ST (i := 1) [_, _, _, _] [_, _, _, _] tyS_impl_Ring.sz Z Z Z Z Z Z Z Z <| AS Z Z <| ND <| ?_
      refine ret_cn ch Try.func21 (res2 Try.func21 Z (rv_s (i := 1) [_, _, _, _] tyS_impl_Ring Z Z Z Z) (rv_tmp Z)) ?_ ?_
      · have e_ : i = D.length := by have h_ := congrArg List.length hn6; simp only [List.length_drop, List.length_nil] at h_; omega
        subst e_
        exact ⟨_, rfl, ⟨_, _, rfl, hO, rfl⟩⟩
      · exact (List.sublist_append_left _ _).trans (List.sublist_append_right _ _)
  refine dz_new Z Z tyZ_impl_Ring <| fun b4 => dz_add Z Z (fun K hk => CN1 Z fun_impl_copyRing Z (fun w hs => impl_copyRing ⟨_, Z, (hA0.s Pl.keeps hs)⟩ (show _ ≤ _ from hb0)) hk) <| fun vv7 ch7 how7 => ?_
  obtain ⟨cs7, rfl, v7_0, c7_0, rfl, h7_0, rfl⟩ := how7
  obtain ⟨R7_0, b7_0, rfl, hR7_0, hrd7_0⟩ := h7_0.shape eInt
  refine dz_det Z Z (fun K hk => CV1 Z fun_impl_RoomOf Z (fun w hs => impl_RoomOf ⟨_, Z, (hA0.s Pl.keeps hs)⟩ (show _ ≤ _ from hb0)) hk) <| dz_detB Z Z (fun K hk => rw_minE Z Z Z (min_room hx hD) hk) <| dz_P (pg (pp PR) PR) <| dz_sto Z Z (fun K hk => rw_storeF [_, _, _, _] [_, _, _, _] tyS_impl_Ring.sz Z Z Z Z Z Z Z hk) <| dz_nil <| rw_take <| AS Z Z <| ND <| SQ <| SQ <| RG <| MV Z Z <| MV Z Z <| ND <| BK <| ?_
  refine gw_loopX (α := Nat × List Ck) (fun z_ => z_.1 ≤ D.length ∧ OwS 3 1 (PlO intC) (.slice R7_0 x.cells.length b7_0) (cellsAt D z_.1) z_.2) (fun z_ => D.length - z_.1) (fun e z_ => (17, .int .i64 (z_.1 : Int)) :: e) (fun B _ => B) (fun F z_ => z_.2 ++ ([])) (0, ch7) [(1, _), (2, _), (4, _), (5, _), (6, _), (7, _), (16, _)] (Sub.consE Z Z (Sub.cons (i := 1) Z (Sub.cons (i := 2) Z (Sub.cons (i := 4) Z (Sub.cons (i := 5) Z (Sub.cons (i := 6) Z (Sub.cons (i := 7) Z (Sub.cons (i := 16) Z (Sub.nil _))))))))) Z Z ?_ ?_
  · refine ⟨Nat.zero_le _, ?_⟩
    rw [show cellsAt D 0 = x.cells by subst hx; rfl]; exact h7_0
  · rintro ⟨i, ch⟩ hI8 ih8
    dsimp only at hI8
    dsimp only
    obtain ⟨hle, hO⟩ := hI8
    have hL : (cellsAt D i).length = x.cells.length := by rw [cellsAt_len hle hD, hxl_]
    refine SQ <| RG <| rw_lss Z Z Z <| ND <| SQ <| ?_
    refine gw_cond Z (fun h2 => ?_) (fun h2 => ?_)
    · have hi9 := lt_of_dec h2
      obtain ⟨x10, hx10⟩ := get_of_lt hi9
      have hd10 := drop_cons hx10
      refine SK <| SQ <| BK <| SQ <| RG <| MV Z Z <| AS Z Z <| ND <| gw_draw' [dd 0, dd 1, dd 2, dd 3, dd 4, dd 5, dd 6, dd 7, dd 8, dd 9, dd 10, dd 11, dd 12] [13, 14] mixed Z (FD Z) (ts := [_, _]) Z <| DT Z Z (fun K hk => FA Z tyF_impl_Ring_3 Z hk) <| DT Z Z (fun K hk => LD (i := 0) Z tyP_S_int Z Z Z hk) <| DT Z Z (fun K hk => FA Z tyF_impl_Ring_2 Z hk) <| DT Z Z (fun K hk => LD (i := 2) Z tyP_int Z Z Z hk) <| ?_
      refine DM Z Z Z <| DT Z Z (fun K hk => rw_add Z Z Z hk) <| DT Z Z (fun K hk => FA Z tyF_impl_Ring_0 Z hk) <| DT Z Z (fun K hk => LD (i := 2) Z tyP_int Z Z Z hk) <| DT Z Z (fun K hk => rw_rem Z Z Z (by rw [hx]; decide) hk) <| DM Z Z Z <| DM Z Z Z <| DT Z Z (fun K hk => rw_idxL i Z tyStr_string Z Z Z hx10 hk) <| DT Z Z (fun K hk => rw_convI Z tyCI_uint8_int Z hk) <| ?_
      refine dw_nil <| rw_indexAddr (i) Z tyE_S_int Z Z (wr_place hx (by omega)) (hR7_0 (Nat.zero_lt_of_lt (show i < x.cells.length by omega))) (show i < x.cells.length by omega) <| rw_storeOw (F' := []) tyP_int.sz hO (by rw [hL]; exact (show i < x.cells.length by omega)) Z Z ((pg PR PR)) <| fun ch11 how11 => ND <| IB <| RG <| rw_add Z Z Z <| MV Z Z <| ND <| ?_
      refine gw_sub (Sub.consE (i := 17) Z (int_succ (by omega)) (Sub.cons (i := 1) Z (Sub.cons (i := 2) Z (Sub.cons (i := 4) Z (Sub.cons (i := 5) Z (Sub.cons (i := 6) Z (Sub.cons (i := 7) Z (Sub.cons (i := 16) Z (Sub.nil _))))))))) (ih8 (i + 1, ch11) ?_ ?_)
      · exact ⟨by have := hi9; omega, by rw [← cells_step hx10 hD]; exact how11⟩
      · show D.length - (i + 1) < D.length - i; have := hi9; omega
    have hn12 := nil_of_dec h2
    refine EX Z <| SQ <| RG <| FA Z tyF_impl_Ring_2 Z <| LD (i := 0) Z tyP_int Z Z Z <| MV Z Z <| rw_add Z Z Z <| FA Z tyF_impl_Ring_2 Z <| ST (i := 0) [_] [_, _, _, _] tyP_int.sz Z Z Z Z Z Z Z Z <| ND <| SQ <| RG <| LS (i := 0) [_, _, _, _] Z tyS_impl_Ring Z Z Z Z <| MV Z Z <| ST (i := 1) [_, _, _, _] [_, _, _, _] tyS_impl_Ring.sz Z Z Z Z Z Z Z Z <| AS Z Z <| ND <| ?_
    refine ret_cn ch Try.func21 (res2 Try.func21 Z (rv_s (i := 1) [_, _, _, _] tyS_impl_Ring Z Z Z Z) (rv_tmp Z)) ?_ ?_
    · have e_ : i = D.length := by have h_ := congrArg List.length hn12; simp only [List.length_drop, List.length_nil] at h_; omega
      subst e_
      exact ⟨_, rfl, ⟨_, _, rfl, hO, rfl⟩⟩
    · exact (List.sublist_append_left _ _).trans (List.sublist_append_right _ _)

set_option maxHeartbeats 2000000 in
set_option maxRecDepth 20000 in
theorem impl_WriteSender {w : World} {cs : List Value} {x : Sender} (hv : RdSender w cs x) (hx : x = newSender 16) {D : List UInt8} (hD : D.length ≤ 16) : CN Try.prog 6 [.agg cs.toArray, .string (mkS D)] w (fun v ch => ∃ cs' r, v = .tuple #[.agg cs'.toArray, r] ∧ OwSender cs' (wrSender x D) ch) := by
  have hb : x.le 1048576 := s_le (D := D) (.inl hx) hD
  obtain ⟨v0, v1, v2, v3, rfl, k0, k1, k2, k3⟩ := hv
  obtain ⟨A0, c0, rfl, hA0⟩ := k0
  obtain ⟨A1, c1, rfl, hA1⟩ := k1
  obtain ⟨A2, c2, rfl, hA2⟩ := k2
  obtain ⟨A3, c3, rfl, hA3⟩ := k3
  obtain ⟨hb0, hb1, hb2, hb3⟩ := hb
  have hlp_ : x.pending.length = 0 := by subst hx; rfl
  refine cn_of Try.func6 Z Z Z <| SQ <| RG <| BX [_, _, _, _, _, _, _, _, _, _, _, _] Z Z Z <| fun b1 => AL Z tyZ_impl_Sender <| fun b2 => AS Z Z <| ND <| SQ <| RG <| LS (i := 1) [_, _, _, _, _, _, _, _, _, _, _, _] Z tyS_impl_Sender Z Z Z Z <| CN1 Z fun_impl_copySender Z (fun w hs => impl_copySender ⟨_, _, _, _, Z, (hA0.s Pl.keeps hs), (hA1.s Pl.keeps hs), (hA2.s Pl.keeps hs), (hA3.s Pl.keeps hs)⟩ ⟨hb0, hb1, hb2, hb3⟩) <| fun vv1 ch1 how1 => ?_
  obtain ⟨cs1, rfl, v1_0, v1_1, v1_2, v1_3, c1_0, c1_1, c1_2, c1_3, rfl, h1_0, h1_1, h1_2, h1_3, rfl⟩ := how1
  refine rw_F (F' := c1_0 ++ (c1_1 ++ (c1_2 ++ (c1_3 ++ ([]))))) (by simp only [aA]) <| ?_
  obtain ⟨R1_0, b1_0, rfl, hR1_0, hrd1_0⟩ := h1_0.shape eInt
  obtain ⟨R1_1, b1_1, rfl, hR1_1, hrd1_1⟩ := h1_1.shape eRange
  obtain ⟨R1_2, b1_2, rfl, hR1_2, hrd1_2⟩ := h1_2.shape eRange
  obtain ⟨R1_3, b1_3, rfl, hR1_3, hrd1_3⟩ := h1_3.shape eRange
  refine AL Z tyZ_impl_Sender <| fun b3 => rw_storeN (i := 0) [_, _, _, _, _, _, _, _, _, _, _, _] [_, _, _, _, _, _, _, _, _, _, _, _] [_, _, _] tyS_impl_Sender.sz Z Z Z Z Z Z Z Z Z <| ND <| SQ <| SQ <| RG <| LS (i := 2) [_, _, _, _, _, _, _, _, _, _, _, _] Z tyS_impl_Sender Z Z Z Z <| CV1 Z fun_impl_canWrite Z (fun w hs => impl_canWrite ⟨_, _, _, _, Z, (hA0.s Pl.keeps hs), (hA1.s Pl.keeps hs), (hA2.s Pl.keeps hs), (hA3.s Pl.keeps hs)⟩ ⟨hb0, hb1, hb2, hb3⟩) <| NT Z Z <| ND <| CF Z (not_T (canWrite0 hx)) <| SK <| SQ <| RG <| ?_
  refine AS Z Z <| ND <| SQ <| RG <| FA Z tyF_impl_Sender_1 Z <| LS (i := 2) [_, _, _, _] Z tyS_impl_Ring Z Z Z Z <| MV Z Z <| CN1 Z fun_impl_WriteRing Z (fun w hs => impl_WriteRing (x := x.ring) ⟨_, Z, (hA0.s Pl.keeps hs)⟩ (by rw [hx]; rfl) hD) <| fun v2 ch2 how2 => ?_
  obtain ⟨cs2, rfl, how2⟩ := how2
  obtain ⟨v2_0, ch2, rfl, h2_0, rfl⟩ := how2
  obtain ⟨R2_0, b2_0, rfl, hR2_0, hrd2_0⟩ := h2_0.shape eInt
  refine rw_F (F' := ch2 ++ (c1_0 ++ (c1_1 ++ (c1_2 ++ (c1_3 ++ ([])))))) (by simp only [aN]) <| MV Z Z <| XT Z Z Z <| XT Z Z Z <| FA Z tyF_impl_Sender_1 Z <| rw_storeN (i := 0) [_, _, _, _] [_, _, _, _, _, _, _, _, _, _, _, _] [_, _, _] tyS_impl_Ring.sz Z Z Z Z Z Z Z Z Z <| AS Z Z <| ND <| SQ <| RG <| FA Z tyF_impl_Sender_2 Z <| LD (i := 2) Z tyP_S_impl_Range Z Z Z <| FA Z tyF_impl_Sender_1 Z <| ?_
  refine FA Z tyF_impl_Ring_2 Z <| LD (i := 2) Z tyP_int Z Z Z <| FA Z tyF_impl_Sender_1 Z <| FA Z tyF_impl_Ring_2 Z <| LD (i := 2) Z tyP_int Z Z Z <| MV Z Z <| rw_add Z Z Z <| rw_build [_, _] Z tyB_impl_Range tyZ_impl_Range Z Z <| CN1 Z fun_impl_AddRange Z (fun w hs => impl_AddRange (hA1.s Pl.keeps hs) (by omega) ⟨x.ring.fin, w64 (x.ring.fin + (D.length : Int))⟩) <| fun v3 ch3 how3 => ?_
  obtain ⟨R3, rc3, rfl, hR3, hrd3⟩ := how3.shape eRange
  refine FA Z tyF_impl_Sender_2 Z <| rw_storeN (i := 0) [_] [_, _, _, _, _, _, _, _, _, _, _, _] [_, _, _] tyP_S_impl_Range.sz Z Z Z Z Z Z Z Z Z <| ND <| SQ <| RG <| LS (i := 0) [_, _, _, _, _, _, _, _, _, _, _, _] Z tyS_impl_Sender Z Z Z Z <| MV Z Z <| rw_storeN (i := 1) [_, _, _, _, _, _, _, _, _, _, _, _] [_, _, _, _, _, _, _, _, _, _, _, _] [_, _, _] tyS_impl_Sender.sz Z Z Z Z Z Z Z Z Z <| AS Z Z <| ND <| ?_
  refine gw_FP (pg (pp PR) (pg PR (pg (pp (pp PR)) (pg (pp (pp PR)) PR)))) (gw_F (F' := (ch2 ++ (ch3 ++ (c1_2 ++ (c1_3)))) ++ (c1_0 ++ (c1_1 ++ ([])))) (by simp only [aA, aN]) ?_)
  refine ret_cn (ch2 ++ (ch3 ++ (c1_2 ++ (c1_3)))) Try.func6 (res2 Try.func6 Z (rv_s (i := 1) [_, _, _, _, _, _, _, _, _, _, _, _] tyS_impl_Sender Z Z Z Z) (rv_tmp Z)) ?_ ?_
  · refine ⟨_, _, Z, ?_⟩
    exact owSender_mk h2_0 how3 h1_2 h1_3
  · exact (List.sublist_append_left _ _).trans (List.sublist_append_right _ _)

set_option maxHeartbeats 2000000 in
set_option maxRecDepth 20000 in
theorem impl_CloseSender {w : World} {cs : List Value} {x : Sender} (hv : RdSender w cs x) {D : List UInt8} (hx : x = sender1 D) (hD : D.length ≤ 16) : CN Try.prog 10 [.agg cs.toArray] w (fun v ch => ∃ cs' r, v = .tuple #[.agg cs'.toArray, r] ∧ OwSender cs' { x with final := x.ring.fin, fin := 1 } ch) := by
  have hb : x.le 1048576 := s_le (D := D) (.inr hx) hD
  obtain ⟨v0, v1, v2, v3, rfl, k0, k1, k2, k3⟩ := hv
  obtain ⟨A0, c0, rfl, hA0⟩ := k0
  obtain ⟨A1, c1, rfl, hA1⟩ := k1
  obtain ⟨A2, c2, rfl, hA2⟩ := k2
  obtain ⟨A3, c3, rfl, hA3⟩ := k3
  obtain ⟨hb0, hb1, hb2, hb3⟩ := hb
  refine cn_of Try.func10 Z Z Z <| SQ <| RG <| BX [_, _, _, _, _, _, _, _, _, _, _, _] Z Z Z <| fun b1 => AL Z tyZ_impl_Sender <| fun b2 => AS Z Z <| ND <| SQ <| RG <| LS (i := 1) [_, _, _, _, _, _, _, _, _, _, _, _] Z tyS_impl_Sender Z Z Z Z <| CN1 Z fun_impl_copySender Z (fun w hs => impl_copySender ⟨_, _, _, _, Z, (hA0.s Pl.keeps hs), (hA1.s Pl.keeps hs), (hA2.s Pl.keeps hs), (hA3.s Pl.keeps hs)⟩ ⟨hb0, hb1, hb2, hb3⟩) <| fun vv1 ch1 how1 => ?_
  obtain ⟨cs1, rfl, v1_0, v1_1, v1_2, v1_3, c1_0, c1_1, c1_2, c1_3, rfl, h1_0, h1_1, h1_2, h1_3, rfl⟩ := how1
  refine rw_F (F' := c1_0 ++ (c1_1 ++ (c1_2 ++ (c1_3 ++ ([]))))) (by simp only [aA]) <| ?_
  obtain ⟨R1_0, b1_0, rfl, hR1_0, hrd1_0⟩ := h1_0.shape eInt
  obtain ⟨R1_1, b1_1, rfl, hR1_1, hrd1_1⟩ := h1_1.shape eRange
  obtain ⟨R1_2, b1_2, rfl, hR1_2, hrd1_2⟩ := h1_2.shape eRange
  obtain ⟨R1_3, b1_3, rfl, hR1_3, hrd1_3⟩ := h1_3.shape eRange
  refine AL Z tyZ_impl_Sender <| fun b3 => rw_storeN (i := 0) [_, _, _, _, _, _, _, _, _, _, _, _] [_, _, _, _, _, _, _, _, _, _, _, _] [_, _, _] tyS_impl_Sender.sz Z Z Z Z Z Z Z Z Z <| ND <| SQ <| SQ <| RG <| LS (i := 2) [_, _, _, _, _, _, _, _, _, _, _, _] Z tyS_impl_Sender Z Z Z Z <| CV1 Z fun_impl_canWrite Z (fun w hs => impl_canWrite ⟨_, _, _, _, Z, (hA0.s Pl.keeps hs), (hA1.s Pl.keeps hs), (hA2.s Pl.keeps hs), (hA3.s Pl.keeps hs)⟩ ⟨hb0, hb1, hb2, hb3⟩) <| NT Z Z <| ND <| CF Z (not_T (canWrite1 hx hD)) <| SK <| SQ <| ?_
  refine RG <| FA Z tyF_impl_Sender_1 Z <| FA Z tyF_impl_Ring_2 Z <| LD (i := 2) Z tyP_int Z Z Z <| FA Z tyF_impl_Sender_5 Z <| rw_storeN (i := 0) [_] [_, _, _, _, _, _, _, _, _, _, _, _] [_, _, _] tyP_int.sz Z Z Z Z Z Z Z Z Z <| FA Z tyF_impl_Sender_6 Z <| rw_storeN (i := 0) [_] [_, _, _, _, _, _, _, _, _, _, _, _] [_, _, _] tyP_int.sz Z Z Z Z Z Z Z Z Z <| ND <| SQ <| RG <| LS (i := 0) [_, _, _, _, _, _, _, _, _, _, _, _] Z tyS_impl_Sender Z Z Z Z <| ?_
  refine rw_storeN (i := 1) [_, _, _, _, _, _, _, _, _, _, _, _] [_, _, _, _, _, _, _, _, _, _, _, _] [_, _, _] tyS_impl_Sender.sz Z Z Z Z Z Z Z Z Z <| AS Z Z <| ND <| ?_
  refine gw_FP (pg PR (pg PR (pg PR (pg PR PR)))) (gw_F (F' := (c1_0 ++ (c1_1 ++ (c1_2 ++ (c1_3)))) ++ ([])) (by simp only [aN]) ?_)
  refine ret_cn (c1_0 ++ (c1_1 ++ (c1_2 ++ (c1_3)))) Try.func10 (res2 Try.func10 Z (rv_s (i := 1) [_, _, _, _, _, _, _, _, _, _, _, _] tyS_impl_Sender Z Z Z Z) (rv_tmp Z)) ?_ ?_
  · refine ⟨_, _, Z, ?_⟩
    exact owSender_mk h1_0 h1_1 h1_2 h1_3
  · exact (List.sublist_append_left _ _).trans (List.sublist_append_right _ _)
end Go.Proofs.Ytbhnekiclbfmgaa
namespace Go.Proofs.Ytbhnekiclbfmgaa
open SL Go.RowKit
theorem spec_l8Power (a : Int) (w : World) : CV Try.prog 51 [.int .i64 a] w (.bool (isRingSize a)) := by
  refine cv_of Try.func51 Z Z Z <| SQ <| RG <| AS Z Z <| ND <| SQ <| RG <| MV Z Z <| rw_gtr Z Z Z <| MV Z Z <| ?_
  refine rw_caseL (j := 5) Z (fun h1 => ?_) (fun h1 => ?_)
  · refine ON Z Z Z <| MV Z Z <| ON Z Z Z <| rw_leq Z Z Z <| PT Z Z Z Z <| MV Z Z <| ?_
    refine rw_caseL (j := 9) Z (fun h2 => ?_) (fun h2 => ?_)
    · refine ON Z Z Z <| MV Z Z <| ON Z Z Z <| MV Z Z <| ON Z Z Z <| rw_sub Z Z Z <| ON Z Z Z <| rw_and Z Z Z <| ON Z Z Z <| EQ1 Z Z Z <| PT Z Z Z Z <| AS Z Z <| ND <| RT Try.func51 Z Z <| ?_
      rw [ring_power]; simp only [h1, h2] <;> rfl
    refine SKP Z <| PF Z Z Z Z <| AS Z Z <| ND <| RT Try.func51 Z Z <| ?_
    rw [ring_power]; simp only [h1, h2] <;> rfl
  refine SKP Z <| PF Z Z Z Z <| MV Z Z <| SKP Z <| PF Z Z Z Z <| AS Z Z <| ND <| RT Try.func51 Z Z <| ?_
  rw [ring_power]; simp only [h1] <;> rfl

theorem spec_l1In (a b c : Int) (w : World) : CV Try.prog 56 [.int .i64 a, .int .i64 b, .int .i64 c] w (.bool (within a b c)) := by
  refine cv_of Try.func56 Z Z Z <| SQ <| RG <| AS Z Z <| ND <| SQ <| RG <| MV Z Z <| MV Z Z <| rw_geq Z Z Z <| MV Z Z <| ?_
  refine rw_caseL (j := 10) Z (fun h1 => ?_) (fun h1 => ?_)
  · refine ON Z Z Z <| MV Z Z <| ON Z Z Z <| MV Z Z <| ON Z Z Z <| rw_leq Z Z Z <| PT Z Z Z Z <| AS Z Z <| ND <| RT Try.func56 Z Z <| ?_
    simp only [within, h1] <;> rfl
  refine SKP Z <| PF Z Z Z Z <| AS Z Z <| ND <| RT Try.func56 Z Z <| ?_
  simp only [within, h1] <;> rfl

theorem spec_IsRing {w : World} {cs : List Value} {x : Ring} (hv : RdRing w cs x) (hb : x.le 1048576) : CV Try.prog 54 [.agg cs.toArray] w (.bool (isRing x)) := by
  obtain ⟨v0, rfl, k0⟩ := hv
  obtain ⟨A0, c0, rfl, hA0⟩ := k0
  have hb0 : x.cells.length ≤ 1048576 := hb
  refine cv_of Try.func54 Z Z Z <| SQ <| RG <| BX [_, _, _, _] Z Z Z <| fun b1 => AS Z Z <| ND <| SQ <| SQ <| RG <| FA Z tyF_impl_Ring_0 Z <| LD (i := 0) Z tyP_int Z Z Z <| CV1 Z fun_spec_l8Power Z (fun w hs => spec_l8Power _ w) <| NT Z Z <| MV Z Z <| ?_
  refine rw_caseN (j := 8) Z (fun h1 => ?_) (fun h1 => ?_)
  · refine SKP Z <| PT Z Z Z Z <| MV Z Z <| SKP Z <| PT Z Z Z Z <| MV Z Z <| SKP Z <| PT Z Z Z Z <| MV Z Z <| SKP Z <| PT Z Z Z Z <| MV Z Z <| SKP Z <| PT Z Z Z Z <| ND <| CT Z Z <| SQ <| RG <| AS Z Z <| ND <| RT Try.func54 Z Z <| ?_
    rw [isRing_s]; simp [isRingS, maxQuic, h1]
  refine ON Z Z Z <| FA Z tyF_impl_Ring_3 Z <| ON Z Z Z <| LD (i := 0) Z tyP_S_int Z Z Z <| ON Z Z Z <| rw_len Z tyE_S_int Z <| ON Z Z Z <| FA Z tyF_impl_Ring_0 Z <| ON Z Z Z <| LD (i := 0) Z tyP_int Z Z Z <| ON Z Z Z <| rw_neq Z Z Z <| PF Z Z Z Z <| MV Z Z <| ?_
  refine rw_caseN (j := 16) Z (fun h2 => ?_) (fun h2 => ?_)
  · refine SKP Z <| PT Z Z Z Z <| MV Z Z <| SKP Z <| PT Z Z Z Z <| MV Z Z <| SKP Z <| PT Z Z Z Z <| MV Z Z <| SKP Z <| PT Z Z Z Z <| ND <| CT Z Z <| SQ <| RG <| AS Z Z <| ND <| RT Try.func54 Z Z <| ?_
    rw [isRing_s]; simp [isRingS, maxQuic, h1, h2]
  refine ON Z Z Z <| FA Z tyF_impl_Ring_1 Z <| ON Z Z Z <| LD (i := 0) Z tyP_int Z Z Z <| ON Z Z Z <| rw_lss Z Z Z <| PF Z Z Z Z <| MV Z Z <| ?_
  refine rw_caseL (j := 21) Z (fun h3 => ?_) (fun h3 => ?_)
  · refine SKP Z <| PT Z Z Z Z <| MV Z Z <| SKP Z <| PT Z Z Z Z <| MV Z Z <| SKP Z <| PT Z Z Z Z <| ND <| CT Z Z <| SQ <| RG <| AS Z Z <| ND <| RT Try.func54 Z Z <| ?_
    rw [isRing_s]; simp [isRingS, maxQuic, h1, h2, h3]
  refine ON Z Z Z <| FA Z tyF_impl_Ring_2 Z <| ON Z Z Z <| LD (i := 0) Z tyP_int Z Z Z <| ON Z Z Z <| FA Z tyF_impl_Ring_1 Z <| ON Z Z Z <| LD (i := 0) Z tyP_int Z Z Z <| ON Z Z Z <| rw_lss Z Z Z <| PF Z Z Z Z <| MV Z Z <| ?_
  refine rw_caseL (j := 28) Z (fun h4 => ?_) (fun h4 => ?_)
  · refine SKP Z <| PT Z Z Z Z <| MV Z Z <| SKP Z <| PT Z Z Z Z <| ND <| CT Z Z <| SQ <| RG <| AS Z Z <| ND <| RT Try.func54 Z Z <| ?_
    rw [isRing_s]; simp [isRingS, maxQuic, h1, h2, h3, h4]
  refine ON Z Z Z <| FA Z tyF_impl_Ring_2 Z <| ON Z Z Z <| LD (i := 0) Z tyP_int Z Z Z <| ON Z Z Z <| FA Z tyF_impl_Ring_1 Z <| ON Z Z Z <| LD (i := 0) Z tyP_int Z Z Z <| ON Z Z Z <| rw_sub Z Z Z <| ON Z Z Z <| FA Z tyF_impl_Ring_0 Z <| ON Z Z Z <| LD (i := 0) Z tyP_int Z Z Z <| ON Z Z Z <| rw_gtr Z Z Z <| PF Z Z Z Z <| MV Z Z <| ?_
  refine rw_caseL (j := 38) Z (fun h5 => ?_) (fun h5 => ?_)
  · refine SKP Z <| PT Z Z Z Z <| ND <| CT Z Z <| SQ <| RG <| AS Z Z <| ND <| RT Try.func54 Z Z <| ?_
    rw [isRing_s]; simp [isRingS, maxQuic, h1, h2, h3, h4, h5]
  refine ON Z Z Z <| FA Z tyF_impl_Ring_2 Z <| ON Z Z Z <| LD (i := 0) Z tyP_int Z Z Z <| ON Z Z Z <| rw_gtr Z Z Z <| PF Z Z Z Z <| ND <| ?_
  refine gw_cond Z (fun h6 => ?_) (fun h6 => ?_)
  · refine SQ <| RG <| AS Z Z <| ND <| RT Try.func54 Z Z <| ?_
    rw [isRing_s]; simp [isRingS, maxQuic, h1, h2, h3, h4, h5, h6]
  refine SK <| SQ <| SQ <| RG <| AS Z Z <| ND <| BK <| ?_
  refine gw_loopC (α := Nat) (fun z_ => z_ ≤ x.cells.length ∧ isRingS x = (x.cells.drop z_).all (fun n => within n 0 255)) (fun z_ => x.cells.length - z_) (fun e z_ => (3, .int .i64 (z_ : Int)) :: e) 0 [(1, _)] (Sub.consE Z Z (Sub.cons (i := 1) Z (Sub.nil _))) ?_ ?_
  · exact ⟨Nat.zero_le _, by simp [isRingS, maxQuic, h1, h2, h3, h4, h5, h6]⟩
  · rintro i hI1 ih1
    try dsimp only
    obtain ⟨hle, hI⟩ := hI1
    refine SQ <| SQ <| RG <| MV Z Z <| FA Z tyF_impl_Ring_3 Z <| LD (i := 0) Z tyP_S_int Z Z Z <| rw_len Z tyE_S_int Z <| rw_lss Z Z Z <| ND <| ?_
    refine gw_cond Z (fun h7 => ?_) (fun h7 => ?_)
    · have hi2 := lt_of_dec h7
      obtain ⟨x3, hx3⟩ := get_of_lt hi2
      have hd3 := drop_cons hx3
      refine SK <| SQ <| BK <| SQ <| RG <| FA Z tyF_impl_Ring_3 Z <| LD (i := 0) Z tyP_S_int Z Z Z <| MV Z Z <| ?_
      have hq4 := hA0.plain hx3
      refine rw_indexAddr (i) Z tyE_S_int Z Z Z (hA0.some hi2) hi2 <| rw_loadX _ Z tyP_int Z (fun w hs => hq4.ld0 hs Z) <| CV1 Z fun_spec_l1In Z (fun w hs => spec_l1In _ _ _ w) <| NT Z Z <| ND <| ?_
      refine gw_condN Z (fun h8 => ?_) (fun h8 => ?_)
      · refine SQ <| RG <| AS Z Z <| ND <| RT Try.func54 Z Z <| ?_
        rw [isRing_s, hI, hd3]; simp [h8]
      refine SK <| IB <| RG <| MV Z Z <| rw_add Z Z Z <| AS Z Z <| ND <| ?_
      refine gw_sub (Sub.consE (i := 3) Z (int_succ (by omega)) (Sub.cons (i := 1) Z (Sub.nil _))) (ih1 (i + 1) ?_ ?_)
      · exact ⟨by omega, by rw [hI, hd3]; simp [h8]⟩
      · show x.cells.length - (i + 1) < x.cells.length - i; omega
    have hn5 := nil_of_dec h7
    refine EX Z <| SQ <| RG <| AS Z Z <| ND <| RT Try.func54 Z Z <| ?_
    rw [isRing_s, hI, hn5]; rfl

theorem spec_l3Fine (r : Range) (w : World) : CV Try.prog 62 [.agg r.cells.toArray] w (.bool (isRange r)) := by
  refine cv_of Try.func62 Z Z Z <| SQ <| RG <| BX [_, _] Z Z Z <| fun b1 => AS Z Z <| ND <| SQ <| RG <| FA Z tyF_impl_Range_0 Z <| LD (i := 0) Z tyP_int Z Z Z <| rw_geq Z Z Z <| MV Z Z <| ?_
  refine rw_caseL (j := 6) Z (fun h1 => ?_) (fun h1 => ?_)
  · refine ON Z Z Z <| FA Z tyF_impl_Range_0 Z <| ON Z Z Z <| LD (i := 0) Z tyP_int Z Z Z <| ON Z Z Z <| FA Z tyF_impl_Range_1 Z <| ON Z Z Z <| LD (i := 0) Z tyP_int Z Z Z <| ON Z Z Z <| rw_lss Z Z Z <| PT Z Z Z Z <| MV Z Z <| ?_
    refine rw_caseL (j := 13) Z (fun h2 => ?_) (fun h2 => ?_)
    · refine ON Z Z Z <| FA Z tyF_impl_Range_1 Z <| ON Z Z Z <| LD (i := 0) Z tyP_int Z Z Z <| ON Z Z Z <| rw_leq Z Z Z <| PT Z Z Z Z <| AS Z Z <| ND <| RT Try.func62 Z Z <| ?_
      simp only [isRange, h1, h2] <;> rfl
    refine SKP Z <| PF Z Z Z Z <| AS Z Z <| ND <| RT Try.func62 Z Z <| ?_
    simp only [isRange, h1, h2] <;> rfl
  refine SKP Z <| PF Z Z Z Z <| MV Z Z <| SKP Z <| PF Z Z Z Z <| AS Z Z <| ND <| RT Try.func62 Z Z <| ?_
  simp only [isRange, h1] <;> rfl

theorem spec_IsRanges {w : World} {v : Value} {l : List Range} (hv : RdS w 2 (Pl Range.cells) v l) (hb : l.length ≤ 4194304) : CV Try.prog 55 [v] w (.bool (isRanges l)) := by
  obtain ⟨A, c, rfl, hA⟩ := hv
  refine cv_of Try.func55 Z Z Z <| SQ <| RG <| AS Z Z <| ND <| SQ <| SQ <| RG <| AS Z Z <| ND <| BK <| ?_
  refine gw_loopC (α := Nat) (fun z_ => z_ ≤ l.length ∧ isRanges l = rangesFrom (prevOf l z_) (l.drop z_)) (fun z_ => l.length - z_) (fun e z_ => (3, .int .i64 (z_ : Int)) :: e) 0 [(0, _)] (Sub.consE Z Z (Sub.cons (i := 0) Z (Sub.nil _))) ?_ ?_
  · exact ⟨Nat.zero_le _, rfl⟩
  · rintro i hI1 ih1
    try dsimp only
    obtain ⟨hle, hI⟩ := hI1
    refine SQ <| SQ <| RG <| MV Z Z <| MV Z Z <| rw_len Z tyE_S_impl_Range Z <| rw_lss Z Z Z <| ND <| ?_
    refine gw_cond Z (fun h1 => ?_) (fun h1 => ?_)
    · have hi2 := lt_of_dec h1
      obtain ⟨x3, hx3⟩ := get_of_lt hi2
      have hd3 := drop_cons hx3
      refine SK <| SQ <| BK <| SQ <| gw_draw' [dd 0, dd 1, dd 2, dd 3, dd 4, dd 5, dd 6, dd 7, dd 8, dd 9, dd 10, dd 11, dd 12, dd 13, dd 14, dd 15, dd 16, dd 17, dd 18, dd 19, dd 20] [21, 22, 23] mixed Z (FD Z) (ts := [_, _, _]) Z <| DM Z Z Z <| DM Z Z Z <| ?_
      have hq4 := hA.plain hx3
      refine DT Z Z (fun K hk => rw_indexAddr (i) Z tyE_S_impl_Range Z Z Z (hA.some hi2) hi2 hk) <| DT Z Z (fun K hk => rw_loadX_s [_, _] Z tyS_impl_Range Z Z (fun w hs => hq4.lds0 (n := 2) hs Z) hk) <| DT Z Z (fun K hk => CV1 Z fun_spec_l3Fine Z (fun w hs => spec_l3Fine _ w) hk) <| DT Z Z (fun K hk => NT Z Z hk) <| DM Z Z Z <| ?_
      refine dw_caseN (j := 16) Z (fun h2 => ?_) (fun h2 => ?_)
      · refine DSK Z <| dw_nil <| SKP Z <| PT Z Z Z Z <| ND <| CT Z Z <| SQ <| RG <| AS Z Z <| ND <| RT Try.func55 Z Z <| ?_
        rw [hI, hd3]; simp [rangesFrom, h2]
      refine DT Z Z (fun K hk => ON Z Z Z (MV Z Z hk)) <| DT Z Z (fun K hk => ON Z Z Z (rw_gtr Z Z Z hk)) <| DT Z Z (fun K hk => ON Z Z Z (MV Z Z hk)) <| ?_
      refine dw_caseL (j := 19) Z (fun h3 => ?_) (fun h3 => ?_)
      · have hp5 := pos_of h3
        refine DT Z Z (fun K hk => ON Z Z Z (MV Z Z hk)) <| DT Z Z (fun K hk => ON Z Z Z (MV Z Z hk)) <| DT Z Z (fun K hk => ON Z Z Z (rw_sub Z Z Z hk)) <| ?_
        have hi6 : i - 1 < l.length := by omega
        obtain ⟨x7, hx7⟩ := get_of_lt hi6
        have hd7 := drop_cons hx7
        have hq8 := hA.plain hx7
        refine DT Z Z (fun K hk => ON Z Z Z (rw_indexAddr (i - 1) Z tyE_S_impl_Range Z Z (pred_of h3 (by omega)) (hA.some hi6) hi6 hk)) <| DT Z Z (fun K hk => ON Z Z Z (FX Z tyF_impl_Range_1 Z hk)) <| DT Z Z (fun K hk => ON Z Z Z (rw_loadX _ Z tyP_int Z (fun w hs => hq8.ld hs Z) hk)) <| DT Z Z (fun K hk => ON Z Z Z (MV Z Z hk)) <| DT Z Z (fun K hk => ON Z Z Z (MV Z Z hk)) <| DT Z Z (fun K hk => ON Z Z Z (rw_indexAddr (i) Z tyE_S_impl_Range Z Z Z (hA.some hi2) hi2 hk)) <| ?_
        refine DT Z Z (fun K hk => ON Z Z Z (FX Z tyF_impl_Range_0 Z hk)) <| DT Z Z (fun K hk => ON Z Z Z (rw_loadX _ Z tyP_int Z (fun w hs => hq4.ld hs Z) hk)) <| dw_nil <| ON Z Z Z <| rw_geq Z Z Z <| ON Z Z Z <| PT Z Z Z Z <| PF Z Z Z Z <| ND <| ?_
        refine gw_cond Z (fun h4 => ?_) (fun h4 => ?_)
        · refine SQ <| RG <| AS Z Z <| ND <| RT Try.func55 Z Z <| ?_
          rw [hI, hd3]; simp [rangesFrom, h2, h4, prevOf_pos hp5 hx7]
        refine SK <| IB <| RG <| MV Z Z <| rw_add Z Z Z <| AS Z Z <| ND <| ?_
        refine gw_sub (Sub.consE (i := 3) Z (int_succ (by omega)) (Sub.cons (i := 0) Z (Sub.nil _))) (ih1 (i + 1) ?_ ?_)
        · exact ⟨by omega, by rw [hI, hd3, prevOf_succ, hx3]; simp [rangesFrom, h2, h4, prevOf_pos hp5 hx7]⟩
        · show l.length - (i + 1) < l.length - i; omega
      have hz9 := zero_of h3
      refine DSK Z <| dw_nil <| OF Z Z Z Z <| ON Z Z Z <| PF Z Z Z Z <| PF Z Z Z Z <| ND <| CF Z Z <| SK <| IB <| RG <| MV Z Z <| rw_add Z Z Z <| AS Z Z <| ND <| ?_
      refine gw_sub (Sub.consE (i := 3) Z (int_succ (by omega)) (Sub.cons (i := 0) Z (Sub.nil _))) (ih1 (i + 1) ?_ ?_)
      · exact ⟨by omega, by rw [hI, hd3, prevOf_succ, hx3]; simp [rangesFrom, h2, prevOf_z (l := l) hz9]⟩
      · show l.length - (i + 1) < l.length - i; omega
    have hn10 := nil_of_dec h1
    refine EX Z <| SQ <| RG <| AS Z Z <| ND <| RT Try.func55 Z Z <| ?_
    rw [hI, hn10]; rfl

theorem spec_l4Quic (a : Int) (w : World) : CV Try.prog 57 [.int .i64 a] w (.bool (isQuic a)) := by
  refine cv_of Try.func57 Z Z Z <| SQ <| RG <| AS Z Z <| ND <| SQ <| RG <| MV Z Z <| CV1 Z fun_spec_l1In Z (fun w hs => spec_l1In _ _ _ w) <| AS Z Z <| ND <| RT Try.func57 Z Z <| ?_
  rfl

theorem spec_l3Copy {w : World} {v : Value} {l : List Range} (hv : RdS w 2 (Pl Range.cells) v l) (hb : l.length ≤ 4194304) : CN Try.prog 53 [v] w (fun v ch => OwA 61 2 (PlO Range.cells) v l ch) := by
  obtain ⟨A, c, rfl, hA⟩ := hv
  refine cn_of Try.func53 Z Z Z <| SQ <| RG <| AS Z Z <| ND <| SQ <| RG <| rw_slice0 Z tyM_S_impl_Range (PlO Range.cells) <| fun v1 how1 => MV Z Z <| rw_appendP Z tyM_S_impl_Range eRange (fun _ => Z) Z Z how1 (fun w hs => hA.sat Pl.keeps hs) (.refl _) (by first | omega | (simp; omega)) <| fun v2 ch2 how2 => AS Z Z <| ND <| ?_
  refine ret_cn ch2 Try.func53 (res1 Try.func53 Z (rv_tmp Z)) ?_ ?_
  · exact how2
  · simp

theorem spec_AddRange {w : World} {v : Value} {l : List Range} (hv : RdS w 2 (Pl Range.cells) v l) (hb : l.length ≤ 4194304) (r : Range) : CN Try.prog 27 [v, .agg r.cells.toArray] w (fun v ch => OwS 61 2 (PlO Range.cells) v (addRange l r) ch) := by
  obtain ⟨A, c, rfl, hA⟩ := hv
  refine cn_of Try.func27 Z Z Z <| SQ <| RG <| BX [_, _] Z Z Z <| fun b1 => AS Z Z <| ND <| SQ <| SQ <| RG <| MV Z Z <| CV1 Z fun_spec_IsRanges Z (fun w hs => spec_IsRanges (hA.s Pl.keeps hs) (by omega)) <| NT Z Z <| MV Z Z <| ?_
  refine rw_caseN (j := 11) Z (fun h1 => ?_) (fun h1 => ?_)
  · refine SKP Z <| PT Z Z Z Z <| ND <| CT Z Z <| SQ <| RG <| MV Z Z <| CN1 Z fun_spec_l3Copy Z (fun w hs => spec_l3Copy (hA.s Pl.keeps hs) (by omega)) <| fun v1 ch1 how1 => AS Z Z <| ND <| ?_
    refine ret_cn ch1 Try.func27 (res1 Try.func27 Z (rv_tmp Z)) ?_ ?_
    · have hm : addRange l r = l := by simp [addRange, h1]
      rw [hm]; exact OwA.s how1
    · simp
  refine ON Z Z Z <| LS (i := 0) [_, _] Z tyS_impl_Range Z Z Z Z <| ON Z Z Z <| CV1 Z fun_spec_l3Fine Z (fun w hs => spec_l3Fine _ w) <| ON Z Z Z <| NT Z Z <| PF Z Z Z Z <| ND <| ?_
  refine gw_condN Z (fun h2 => ?_) (fun h2 => ?_)
  · refine SQ <| RG <| MV Z Z <| CN1 Z fun_spec_l3Copy Z (fun w hs => spec_l3Copy (hA.s Pl.keeps hs) (by omega)) <| fun v2 ch2 how2 => AS Z Z <| ND <| ?_
    refine ret_cn ch2 Try.func27 (res1 Try.func27 Z (rv_tmp Z)) ?_ ?_
    · have hm : addRange l r = l := by simp [addRange, h1, h2]
      rw [hm]; exact OwA.s how2
    · simp
  refine SK <| SQ <| RG <| rw_slice0 Z tyM_S_impl_Range (PlO Range.cells) <| fun v3 how3 => AS Z Z <| ND <| SQ <| RG <| AS Z Z <| ND <| SQ <| SQ <| RG <| AS Z Z <| ND <| BK <| ?_
  refine gw_loopX (α := Nat × Range × Bool × List Range × Value × List Ck) (fun z_ => z_.1 ≤ l.length ∧ z_.2.2.2.1.length + (bif z_.2.2.1 then 0 else 1) ≤ z_.1 + 1 ∧ OwA 61 2 (PlO Range.cells) z_.2.2.2.2.1 z_.2.2.2.1 z_.2.2.2.2.2 ∧ addRange l r = z_.2.2.2.1 ++ addGo z_.2.1 z_.2.2.1 (l.drop z_.1)) (fun z_ => l.length - z_.1) (fun e z_ => (7, .int .i64 (z_.1 : Int)) :: (6, .bool z_.2.2.1) :: (5, z_.2.2.2.2.1) :: e) (fun B z_ => B.set 0 ⟨b1, 61, z_.2.1.cells⟩) (fun F z_ => z_.2.2.2.2.2 ++ F) (0, r, false, [], v3, []) [(0, _), (3, _), (4, _)] (Sub.consE Z Z (Sub.consE Z Z (Sub.consE Z Z (Sub.cons (i := 0) Z (Sub.cons (i := 3) Z (Sub.cons (i := 4) Z (Sub.nil _))))))) Z Z ?_ ?_
  · exact ⟨Nat.zero_le _, Nat.le_refl _, how3, by simp [addRange, h1, h2]⟩
  · rintro ⟨i, r, pl, o, v, ch⟩ hI4 ih4
    dsimp only at hI4
    dsimp only [List.set]
    obtain ⟨hle, ho, hO, hI⟩ := hI4
    refine SQ <| SQ <| RG <| MV Z Z <| MV Z Z <| rw_len Z tyE_S_impl_Range Z <| rw_lss Z Z Z <| ND <| ?_
    refine gw_cond Z (fun h3 => ?_) (fun h3 => ?_)
    · have hi5 := lt_of_dec h3
      obtain ⟨x6, hx6⟩ := get_of_lt hi5
      have hd6 := drop_cons hx6
      refine SK <| SQ <| BK <| BK <| SQ <| gw_draw' [dd 0, dd 1, dd 2, dd 3, dd 4, dd 5, dd 6] [7, 8] mixed Z (FD Z) (ts := [_, _]) Z <| DM Z Z Z <| DM Z Z Z <| ?_
      have hq7 := hA.plain hx6
      refine DT Z Z (fun K hk => rw_indexAddr (i) Z tyE_S_impl_Range Z Z Z (hA.some hi5) hi5 hk) <| DT Z Z (fun K hk => FX Z tyF_impl_Range_1 Z hk) <| DT Z Z (fun K hk => rw_loadX _ Z tyP_int Z (fun w hs => hq7.ld hs Z) hk) <| DT Z Z (fun K hk => FA Z tyF_impl_Range_0 Z hk) <| DT Z Z (fun K hk => LD (i := 0) Z tyP_int Z Z Z hk) <| dw_nil <| rw_lss Z Z Z <| AS Z Z <| ND <| ?_
      refine gw_cond Z (fun h4 => ?_) (fun h4 => ?_)
      · refine RG <| MV Z Z <| MV Z Z <| MV Z Z <| rw_indexAddr (i) Z tyE_S_impl_Range Z Z Z (hA.some hi5) hi5 <| rw_loadX_s [_, _] Z tyS_impl_Range Z Z (fun w hs => hq7.lds0 (n := 2) hs Z) <| rw_slice (xs := [(0, _)]) [_, _] Z tyM_S_impl_Range Z Z Z Z <| fun b2 => rw_append1 (i := 0) (a := x6) Z tyM_S_impl_Range eRange Z Z Z hO ⟨Z, Z⟩ (.refl _) (by simp [] at ho ⊢; omega) <| fun v8 ch8 how8 => AS Z Z <| ND <| IB <| IB <| RG <| MV Z Z <| rw_add Z Z Z <| AS Z Z <| ?_
        refine ND <| ?_
        refine gw_dropN 1 <| ?_
        refine gw_sub (Sub.consE (i := 7) Z (int_succ (by omega)) (Sub.consE (i := 6) Z Z (Sub.consE (i := 5) Z Z (Sub.cons (i := 0) Z (Sub.cons (i := 3) Z (Sub.cons (i := 4) Z (Sub.nil _))))))) (ih4 (i + 1, r, pl, (o ++ [x6]), v8, ch8) ?_ ?_)
        · refine ⟨by omega, ?_, how8, ?_⟩
          · simp [] at ho ⊢; omega
          · rw [hI, hd6]; simp [addGo, h4]
        · show l.length - (i + 1) < l.length - i; omega
      refine SQ <| gw_draw' [dd 0, dd 1, dd 2, dd 3, dd 4, dd 5, dd 6] [7, 8] mixed Z (FD Z) (ts := [_, _]) Z <| DM Z Z Z <| DM Z Z Z <| DT Z Z (fun K hk => rw_indexAddr (i) Z tyE_S_impl_Range Z Z Z (hA.some hi5) hi5 hk) <| DT Z Z (fun K hk => FX Z tyF_impl_Range_0 Z hk) <| DT Z Z (fun K hk => rw_loadX _ Z tyP_int Z (fun w hs => hq7.ld hs Z) hk) <| DT Z Z (fun K hk => FA Z tyF_impl_Range_1 Z hk) <| ?_
      refine DT Z Z (fun K hk => LD (i := 0) Z tyP_int Z Z Z hk) <| dw_nil <| rw_gtr Z Z Z <| AS Z Z <| ND <| ?_
      refine gw_cond Z (fun h5 => ?_) (fun h5 => ?_)
      · refine SQ <| SQ <| RG <| MV Z Z <| NT Z Z <| ND <| ?_
        refine gw_condN Z (fun h6 => ?_) (fun h6 => ?_)
        · refine SQ <| RG <| MV Z Z <| LS (i := 0) [_, _] Z tyS_impl_Range Z Z Z Z <| rw_slice (xs := [(0, _)]) [_, _] Z tyM_S_impl_Range Z Z Z Z <| fun b3 => rw_append1 (i := 0) (a := r) Z tyM_S_impl_Range eRange Z Z Z hO ⟨Z, Z⟩ (.refl _) (by simp [h6] at ho ⊢; omega) <| fun v9 ch9 how9 => AS Z Z <| ND <| RG <| AS Z Z <| ND <| RG <| MV Z Z <| MV Z Z <| MV Z Z <| rw_indexAddr (i) Z tyE_S_impl_Range Z Z Z (hA.some hi5) hi5 <| rw_loadX_s [_, _] Z tyS_impl_Range Z Z (fun w hs => hq7.lds0 (n := 2) hs Z) <| ?_
          refine rw_slice (xs := [(0, _)]) [_, _] Z tyM_S_impl_Range Z Z Z Z <| fun b4 => rw_append1 (i := 0) (a := x6) Z tyM_S_impl_Range eRange Z Z Z how9 ⟨Z, Z⟩ (.refl _) (by simp [h6] at ho ⊢; omega) <| fun v10 ch10 how10 => AS Z Z <| ND <| IB <| IB <| RG <| MV Z Z <| rw_add Z Z Z <| AS Z Z <| ND <| ?_
          refine gw_dropN 2 <| ?_
          refine gw_sub (Sub.consE (i := 7) Z (int_succ (by omega)) (Sub.consE (i := 6) Z Z (Sub.consE (i := 5) Z Z (Sub.cons (i := 0) Z (Sub.cons (i := 3) Z (Sub.cons (i := 4) Z (Sub.nil _))))))) (ih4 (i + 1, r, true, (o ++ [r] ++ [x6]), v10, ch10) ?_ ?_)
          · refine ⟨by omega, ?_, how10, ?_⟩
            · simp [h6] at ho ⊢; omega
            · rw [hI, hd6]; simp [addGo, h4, h5, h6]
          · show l.length - (i + 1) < l.length - i; omega
        refine SK <| RG <| MV Z Z <| MV Z Z <| MV Z Z <| rw_indexAddr (i) Z tyE_S_impl_Range Z Z Z (hA.some hi5) hi5 <| rw_loadX_s [_, _] Z tyS_impl_Range Z Z (fun w hs => hq7.lds0 (n := 2) hs Z) <| rw_slice (xs := [(0, _)]) [_, _] Z tyM_S_impl_Range Z Z Z Z <| fun b5 => rw_append1 (i := 0) (a := x6) Z tyM_S_impl_Range eRange Z Z Z hO ⟨Z, Z⟩ (.refl _) (by simp [h6] at ho ⊢; omega) <| fun v11 ch11 how11 => AS Z Z <| ND <| IB <| IB <| RG <| MV Z Z <| rw_add Z Z Z <| AS Z Z <| ?_
        refine ND <| ?_
        refine gw_dropN 1 <| ?_
        refine gw_sub (Sub.consE (i := 7) Z (int_succ (by omega)) (Sub.consE (i := 6) Z Z (Sub.consE (i := 5) Z Z (Sub.cons (i := 0) Z (Sub.cons (i := 3) Z (Sub.cons (i := 4) Z (Sub.nil _))))))) (ih4 (i + 1, r, pl, (o ++ [x6]), v11, ch11) ?_ ?_)
        · refine ⟨by omega, ?_, how11, ?_⟩
          · simp [h6] at ho ⊢; omega
          · rw [hI, hd6]; simp [addGo, h4, h5, h6]
        · show l.length - (i + 1) < l.length - i; omega
      refine SQ <| gw_draw' [dd 0, dd 1, dd 2, dd 3, dd 4, dd 5, dd 6] [7, 8, 9] mixed Z (FD Z) (ts := [_, _, _]) Z <| DT Z Z (fun K hk => FA Z tyF_impl_Range_0 Z hk) <| DT Z Z (fun K hk => LD (i := 0) Z tyP_int Z Z Z hk) <| DM Z Z Z <| DM Z Z Z <| DT Z Z (fun K hk => rw_indexAddr (i) Z tyE_S_impl_Range Z Z Z (hA.some hi5) hi5 hk) <| DT Z Z (fun K hk => FX Z tyF_impl_Range_0 Z hk) <| ?_
      refine DT Z Z (fun K hk => rw_loadX _ Z tyP_int Z (fun w hs => hq7.ld hs Z) hk) <| dw_nil <| rw_min Z Z Z <| FA Z tyF_impl_Range_0 Z <| ST (i := 0) [_] [_, _] tyP_int.sz Z Z Z Z Z Z Z Z <| ND <| gw_draw' [dd 0, dd 1, dd 2, dd 3, dd 4, dd 5, dd 6] [7, 8, 9] mixed Z (FD Z) (ts := [_, _, _]) Z <| DT Z Z (fun K hk => FA Z tyF_impl_Range_1 Z hk) <| DT Z Z (fun K hk => LD (i := 0) Z tyP_int Z Z Z hk) <| DM Z Z Z <| ?_
      refine DM Z Z Z <| DT Z Z (fun K hk => rw_indexAddr (i) Z tyE_S_impl_Range Z Z Z (hA.some hi5) hi5 hk) <| DT Z Z (fun K hk => FX Z tyF_impl_Range_1 Z hk) <| DT Z Z (fun K hk => rw_loadX _ Z tyP_int Z (fun w hs => hq7.ld hs Z) hk) <| dw_nil <| rw_max Z Z Z <| FA Z tyF_impl_Range_1 Z <| ST (i := 0) [_] [_, _] tyP_int.sz Z Z Z Z Z Z Z Z <| ND <| IB <| IB <| RG <| MV Z Z <| rw_add Z Z Z <| AS Z Z <| ?_
      refine ND <| ?_
      refine gw_sub (Sub.consE (i := 7) Z (int_succ (by omega)) (Sub.consE (i := 6) Z Z (Sub.consE (i := 5) Z Z (Sub.cons (i := 0) Z (Sub.cons (i := 3) Z (Sub.cons (i := 4) Z (Sub.nil _))))))) (ih4 (i + 1, ⟨min r.low x6.low, max r.high x6.high⟩, pl, o, v, ch) ?_ ?_)
      · refine ⟨by omega, ?_, hO, ?_⟩
        · simp [] at ho ⊢; omega
        · rw [hI, hd6]; simp [addGo, h4, h5]
      · show l.length - (i + 1) < l.length - i; omega
    have hn12 := nil_of_dec h3
    refine EX Z <| SQ <| SQ <| RG <| MV Z Z <| NT Z Z <| ND <| ?_
    refine gw_condN Z (fun h7 => ?_) (fun h7 => ?_)
    · refine RG <| MV Z Z <| LS (i := 0) [_, _] Z tyS_impl_Range Z Z Z Z <| rw_slice (xs := [(0, _)]) [_, _] Z tyM_S_impl_Range Z Z Z Z <| fun b6 => rw_append1 (i := 0) (a := r) Z tyM_S_impl_Range eRange Z Z Z hO ⟨Z, Z⟩ (.refl _) (by simp [h7] at ho ⊢; omega) <| fun v13 ch13 how13 => AS Z Z <| ND <| SQ <| RG <| MV Z Z <| AS Z Z <| ND <| ?_
      refine ret_cn ch13 Try.func27 (res1 Try.func27 Z (rv_tmp Z)) ?_ ?_
      · rw [hI, hn12]; simp only [addGo, cond_false, h7]; exact OwA.s how13
      · simp
    refine SK <| SQ <| RG <| MV Z Z <| AS Z Z <| ND <| ?_
    refine ret_cn ch Try.func27 (res1 Try.func27 Z (rv_tmp Z)) ?_ ?_
    · rw [hI, hn12]; simp only [addGo, cond_true, List.append_nil, h7]; exact OwA.s hO
    · simp

theorem spec_CountNumbers {w : World} {v : Value} {l : List Range} (hv : RdS w 2 (Pl Range.cells) v l) (hb : l.length ≤ 4194304) : CV Try.prog 58 [v] w (.int .i64 (countNumbers l)) := by
  obtain ⟨A, c, rfl, hA⟩ := hv
  refine cv_of Try.func58 Z Z Z <| SQ <| RG <| AS Z Z <| ND <| SQ <| SQ <| RG <| MV Z Z <| CV1 Z fun_spec_IsRanges Z (fun w hs => spec_IsRanges (hA.s Pl.keeps hs) (by omega)) <| NT Z Z <| ND <| ?_
  refine gw_condN Z (fun h1 => ?_) (fun h1 => ?_)
  · refine SQ <| RG <| AS Z Z <| ND <| RT Try.func58 Z Z <| ?_
    simp [countNumbers, h1]
  refine SK <| SQ <| RG <| AS Z Z <| ND <| SQ <| SQ <| RG <| AS Z Z <| ND <| BK <| ?_
  refine gw_loopC (α := Nat × Int) (fun z_ => z_.1 ≤ l.length ∧ countNumbers l = countFrom z_.2 (l.drop z_.1)) (fun z_ => l.length - z_.1) (fun e z_ => (4, .int .i64 (z_.1 : Int)) :: (3, .int .i64 z_.2) :: e) (0, 0) [(0, _), (2, _)] (Sub.consE Z Z (Sub.consE Z Z (Sub.cons (i := 0) Z (Sub.cons (i := 2) Z (Sub.nil _))))) ?_ ?_
  · exact ⟨Nat.zero_le _, by simp [countNumbers, h1]⟩
  · rintro ⟨i, n⟩ hI1 ih1
    dsimp only at hI1
    dsimp only
    obtain ⟨hle, hI⟩ := hI1
    refine SQ <| SQ <| RG <| MV Z Z <| MV Z Z <| rw_len Z tyE_S_impl_Range Z <| rw_lss Z Z Z <| ND <| ?_
    refine gw_cond Z (fun h2 => ?_) (fun h2 => ?_)
    · have hi2 := lt_of_dec h2
      obtain ⟨x3, hx3⟩ := get_of_lt hi2
      have hd3 := drop_cons hx3
      refine SK <| SQ <| BK <| gw_draw' [dd 0, dd 1, dd 2, dd 3, dd 4, dd 5, dd 6, dd 7, dd 8, dd 9, dd 10, dd 11] [12, 13] mixed Z (FD Z) (ts := [_, _]) Z <| DM Z Z Z <| DM Z Z Z <| DM Z Z Z <| ?_
      have hq4 := hA.plain hx3
      refine DT Z Z (fun K hk => rw_indexAddr (i) Z tyE_S_impl_Range Z Z Z (hA.some hi2) hi2 hk) <| DT Z Z (fun K hk => FX Z tyF_impl_Range_1 Z hk) <| DT Z Z (fun K hk => rw_loadX _ Z tyP_int Z (fun w hs => hq4.ld hs Z) hk) <| DT Z Z (fun K hk => rw_add Z Z Z hk) <| DM Z Z Z <| DM Z Z Z <| DT Z Z (fun K hk => rw_indexAddr (i) Z tyE_S_impl_Range Z Z Z (hA.some hi2) hi2 hk) <| DT Z Z (fun K hk => FX Z tyF_impl_Range_0 Z hk) <| ?_
      refine DT Z Z (fun K hk => rw_loadX _ Z tyP_int Z (fun w hs => hq4.ld hs Z) hk) <| dw_nil <| rw_sub Z Z Z <| AS Z Z <| ND <| IB <| RG <| MV Z Z <| rw_add Z Z Z <| AS Z Z <| ND <| ?_
      refine gw_sub (Sub.consE (i := 4) Z (int_succ (by omega)) (Sub.consE (i := 3) Z Z (Sub.cons (i := 0) Z (Sub.cons (i := 2) Z (Sub.nil _))))) (ih1 (i + 1, w64 (w64 (n + x3.high) - x3.low)) ?_ ?_)
      · exact ⟨by omega, by rw [hI, hd3]; simp [countFrom, w64_sub2]⟩
      · show l.length - (i + 1) < l.length - i; omega
    have hn5 := nil_of_dec h2
    refine EX Z <| SQ <| RG <| MV Z Z <| AS Z Z <| ND <| RT Try.func58 Z Z <| ?_
    rw [hI, hn5]; rfl

theorem spec_FirstGap {w : World} {v : Value} {l : List Range} (hv : RdS w 2 (Pl Range.cells) v l) (hb : l.length ≤ 4194304) (n0 : Int) : CV Try.prog 59 [v, .int .i64 n0] w (.int .i64 (firstGap l n0)) := by
  obtain ⟨A, c, rfl, hA⟩ := hv
  refine cv_of Try.func59 Z Z Z <| SQ <| RG <| AS Z Z <| ND <| SQ <| SQ <| RG <| MV Z Z <| CV1 Z fun_spec_IsRanges Z (fun w hs => spec_IsRanges (hA.s Pl.keeps hs) (by omega)) <| NT Z Z <| MV Z Z <| ?_
  refine rw_caseN (j := 9) Z (fun h1 => ?_) (fun h1 => ?_)
  · refine SKP Z <| PT Z Z Z Z <| ND <| CT Z Z <| SQ <| RG <| AS Z Z <| ND <| RT Try.func59 Z Z <| ?_
    simp [firstGap, h1]
  refine ON Z Z Z <| MV Z Z <| ON Z Z Z <| rw_lss Z Z Z <| PF Z Z Z Z <| ND <| ?_
  refine gw_cond Z (fun h2 => ?_) (fun h2 => ?_)
  · refine SQ <| RG <| AS Z Z <| ND <| RT Try.func59 Z Z <| ?_
    simp [firstGap, h1, h2]
  refine SK <| SQ <| SQ <| RG <| AS Z Z <| ND <| BK <| ?_
  refine gw_loopC (α := Nat × Int) (fun z_ => z_.1 ≤ l.length ∧ firstGap l n0 = gapFrom z_.2 (l.drop z_.1)) (fun z_ => l.length - z_.1) (fun e z_ => (5, .int .i64 (z_.1 : Int)) :: (1, .int .i64 z_.2) :: e) (0, n0) [(0, _), (4, _)] (Sub.consE Z Z (Sub.consE Z Z (Sub.cons (i := 0) Z (Sub.cons (i := 4) Z (Sub.nil _))))) ?_ ?_
  · exact ⟨Nat.zero_le _, by simp [firstGap, h1, h2]⟩
  · rintro ⟨i, n⟩ hI1 ih1
    dsimp only at hI1
    dsimp only
    obtain ⟨hle, hI⟩ := hI1
    refine SQ <| SQ <| RG <| MV Z Z <| MV Z Z <| rw_len Z tyE_S_impl_Range Z <| rw_lss Z Z Z <| ND <| ?_
    refine gw_cond Z (fun h3 => ?_) (fun h3 => ?_)
    · have hi2 := lt_of_dec h3
      obtain ⟨x3, hx3⟩ := get_of_lt hi2
      have hd3 := drop_cons hx3
      refine SK <| SQ <| BK <| SQ <| RG <| MV Z Z <| MV Z Z <| MV Z Z <| ?_
      have hq4 := hA.plain hx3
      refine rw_indexAddr (i) Z tyE_S_impl_Range Z Z Z (hA.some hi2) hi2 <| FX Z tyF_impl_Range_0 Z <| rw_loadX _ Z tyP_int Z (fun w hs => hq4.ld hs Z) <| rw_geq Z Z Z <| MV Z Z <| ?_
      refine rw_caseL (j := 26) Z (fun h4 => ?_) (fun h4 => ?_)
      · refine ON Z Z Z <| MV Z Z <| ON Z Z Z <| MV Z Z <| ON Z Z Z <| MV Z Z <| ON Z Z Z <| rw_indexAddr (i) Z tyE_S_impl_Range Z Z Z (hA.some hi2) hi2 <| ON Z Z Z <| FX Z tyF_impl_Range_1 Z <| ON Z Z Z <| rw_loadX _ Z tyP_int Z (fun w hs => hq4.ld hs Z) <| ON Z Z Z <| rw_lss Z Z Z <| PT Z Z Z Z <| ND <| ?_
        refine gw_cond Z (fun h5 => ?_) (fun h5 => ?_)
        · refine RG <| MV Z Z <| MV Z Z <| rw_indexAddr (i) Z tyE_S_impl_Range Z Z Z (hA.some hi2) hi2 <| FX Z tyF_impl_Range_1 Z <| rw_loadX _ Z tyP_int Z (fun w hs => hq4.ld hs Z) <| AS Z Z <| ND <| IB <| RG <| MV Z Z <| rw_add Z Z Z <| AS Z Z <| ND <| ?_
          refine gw_sub (Sub.consE (i := 5) Z (int_succ (by omega)) (Sub.consE (i := 1) Z Z (Sub.cons (i := 0) Z (Sub.cons (i := 4) Z (Sub.nil _))))) (ih1 (i + 1, x3.high) ?_ ?_)
          · exact ⟨by omega, by rw [hI, hd3]; simp [gapFrom, h4, h5]⟩
          · show l.length - (i + 1) < l.length - i; omega
        refine SK <| IB <| RG <| MV Z Z <| rw_add Z Z Z <| AS Z Z <| ND <| ?_
        refine gw_sub (Sub.consE (i := 5) Z (int_succ (by omega)) (Sub.consE (i := 1) Z Z (Sub.cons (i := 0) Z (Sub.cons (i := 4) Z (Sub.nil _))))) (ih1 (i + 1, n) ?_ ?_)
        · exact ⟨by omega, by rw [hI, hd3]; simp [gapFrom, h4, h5]⟩
        · show l.length - (i + 1) < l.length - i; omega
      refine SKP Z <| PF Z Z Z Z <| ND <| CF Z Z <| SK <| IB <| RG <| MV Z Z <| rw_add Z Z Z <| AS Z Z <| ND <| ?_
      refine gw_sub (Sub.consE (i := 5) Z (int_succ (by omega)) (Sub.consE (i := 1) Z Z (Sub.cons (i := 0) Z (Sub.cons (i := 4) Z (Sub.nil _))))) (ih1 (i + 1, n) ?_ ?_)
      · exact ⟨by omega, by rw [hI, hd3]; simp [gapFrom, h4]⟩
      · show l.length - (i + 1) < l.length - i; omega
    have hn5 := nil_of_dec h3
    refine EX Z <| SQ <| RG <| MV Z Z <| AS Z Z <| ND <| RT Try.func59 Z Z <| ?_
    rw [hI, hn5]; rfl

theorem spec_l9State {w : World} {cs : List Value} {x : Sender} (hv : RdSender w cs x)  : CV Try.prog 60 [.agg cs.toArray] w (.int .i64 (followingS x)) := by
  obtain ⟨v0, v1, v2, v3, rfl, k0, k1, k2, k3⟩ := hv
  obtain ⟨A0, c0, rfl, hA0⟩ := k0
  obtain ⟨A1, c1, rfl, hA1⟩ := k1
  obtain ⟨A2, c2, rfl, hA2⟩ := k2
  obtain ⟨A3, c3, rfl, hA3⟩ := k3
  refine cv_of Try.func60 Z Z Z <| SQ <| RG <| BX [_, _, _, _, _, _, _, _, _, _, _, _] Z Z Z <| fun b1 => AS Z Z <| ND <| SQ <| BK <| SQ <| RG <| FA Z tyF_impl_Sender_6 Z <| LD (i := 0) Z tyP_int Z Z Z <| EQ1 Z Z Z <| MV Z Z <| ?_
  refine rw_caseL (j := 7) Z (fun h1 => ?_) (fun h1 => ?_)
  · refine ON Z Z Z <| FA Z tyF_impl_Sender_1 Z <| ON Z Z Z <| FA Z tyF_impl_Ring_1 Z <| ON Z Z Z <| LD (i := 0) Z tyP_int Z Z Z <| ON Z Z Z <| FA Z tyF_impl_Sender_1 Z <| ON Z Z Z <| FA Z tyF_impl_Ring_2 Z <| ON Z Z Z <| LD (i := 0) Z tyP_int Z Z Z <| ON Z Z Z <| EQ1 Z Z Z <| PT Z Z Z Z <| AS Z Z <| ND <| ?_
    refine gw_cond Z (fun h2 => ?_) (fun h2 => ?_)
    · refine SQ <| RG <| AS Z Z <| ND <| RT Try.func60 Z Z <| ?_
      simp [followingS, h1, h2]
    refine SQ <| RG <| FA Z tyF_impl_Sender_6 Z <| LD (i := 0) Z tyP_int Z Z Z <| rw_gtr Z Z Z <| MV Z Z <| ?_
    refine rw_caseL (j := 20) Z (fun h3 => ?_) (fun h3 => ?_)
    · refine SKP Z <| PT Z Z Z Z <| AS Z Z <| ND <| CT Z Z <| SQ <| RG <| AS Z Z <| ND <| RT Try.func60 Z Z <| ?_
      simp [followingS, h1, h2, h3]
    refine ON Z Z Z <| FA Z tyF_impl_Sender_6 Z <| ON Z Z Z <| LD (i := 0) Z tyP_int Z Z Z <| ON Z Z Z <| EQ1 Z Z Z <| ON Z Z Z <| MV Z Z <| ?_
    refine rw_caseL (j := 24) Z (fun h4 => ?_) (fun h4 => ?_)
    · refine ON Z Z Z <| FA Z tyF_impl_Sender_0 Z <| ON Z Z Z <| LD (i := 0) Z tyP_int Z Z Z <| ON Z Z Z <| EQ1 Z Z Z <| ON Z Z Z <| PT Z Z Z Z <| PF Z Z Z Z <| AS Z Z <| ND <| ?_
      refine gw_cond Z (fun h5 => ?_) (fun h5 => ?_)
      · refine SQ <| RG <| AS Z Z <| ND <| RT Try.func60 Z Z <| ?_
        simp [followingS, h1, h2, h3, h4, h5]
      refine SQ <| RG <| FA Z tyF_impl_Sender_7 Z <| LD (i := 0) Z tyP_int Z Z Z <| rw_gtr Z Z Z <| MV Z Z <| ?_
      refine rw_caseL (j := 34) Z (fun h6 => ?_) (fun h6 => ?_)
      · refine SKP Z <| PT Z Z Z Z <| AS Z Z <| ND <| CT Z Z <| SQ <| RG <| AS Z Z <| ND <| RT Try.func60 Z Z <| ?_
        simp [followingS, h1, h2, h3, h4, h5, h6]
      refine ON Z Z Z <| FA Z tyF_impl_Sender_6 Z <| ON Z Z Z <| LD (i := 0) Z tyP_int Z Z Z <| ON Z Z Z <| EQ1 Z Z Z <| ON Z Z Z <| MV Z Z <| ?_
      refine rw_caseL (j := 38) Z (fun h7 => ?_) (fun h7 => ?_)
      · refine ON Z Z Z <| FA Z tyF_impl_Sender_0 Z <| ON Z Z Z <| LD (i := 0) Z tyP_int Z Z Z <| ON Z Z Z <| EQ1 Z Z Z <| ON Z Z Z <| PT Z Z Z Z <| PF Z Z Z Z <| AS Z Z <| ND <| ?_
        refine gw_cond Z (fun h8 => ?_) (fun h8 => ?_)
        · refine SQ <| RG <| AS Z Z <| ND <| RT Try.func60 Z Z <| ?_
          simp [followingS, h1, h2, h3, h4, h5, h6, h8]
        refine SK <| IB <| SQ <| RG <| AS Z Z <| ND <| RT Try.func60 Z Z <| ?_
        simp [followingS, h1, h2, h3, h4, h5, h6, h8]
      refine SKP Z <| ON Z Z Z <| PF Z Z Z Z <| PF Z Z Z Z <| AS Z Z <| ND <| CF Z Z <| SK <| IB <| SQ <| RG <| AS Z Z <| ND <| RT Try.func60 Z Z <| ?_
      simp_all []
    refine SKP Z <| ON Z Z Z <| PF Z Z Z Z <| PF Z Z Z Z <| AS Z Z <| ND <| CF Z Z <| SQ <| RG <| FA Z tyF_impl_Sender_7 Z <| LD (i := 0) Z tyP_int Z Z Z <| rw_gtr Z Z Z <| MV Z Z <| ?_
    refine rw_caseL (j := 34) Z (fun h9 => ?_) (fun h9 => ?_)
    · refine SKP Z <| PT Z Z Z Z <| AS Z Z <| ND <| CT Z Z <| SQ <| RG <| AS Z Z <| ND <| RT Try.func60 Z Z <| ?_
      simp [followingS, h1, h2, h3, h4, h9]
    refine ON Z Z Z <| FA Z tyF_impl_Sender_6 Z <| ON Z Z Z <| LD (i := 0) Z tyP_int Z Z Z <| ON Z Z Z <| EQ1 Z Z Z <| ON Z Z Z <| MV Z Z <| ?_
    refine rw_caseL (j := 38) Z (fun h10 => ?_) (fun h10 => ?_)
    · refine ON Z Z Z <| FA Z tyF_impl_Sender_0 Z <| ON Z Z Z <| LD (i := 0) Z tyP_int Z Z Z <| ON Z Z Z <| EQ1 Z Z Z <| ON Z Z Z <| PT Z Z Z Z <| PF Z Z Z Z <| AS Z Z <| ND <| ?_
      refine gw_cond Z (fun h11 => ?_) (fun h11 => ?_)
      · refine SQ <| RG <| AS Z Z <| ND <| RT Try.func60 Z Z <| ?_
        simp_all []
      refine SK <| IB <| SQ <| RG <| AS Z Z <| ND <| RT Try.func60 Z Z <| ?_
      simp [followingS, h1, h2, h3, h4, h9, h11]
    refine SKP Z <| ON Z Z Z <| PF Z Z Z Z <| PF Z Z Z Z <| AS Z Z <| ND <| CF Z Z <| SK <| IB <| SQ <| RG <| AS Z Z <| ND <| RT Try.func60 Z Z <| ?_
    simp [followingS, h1, h2, h3, h4, h9]
  refine SKP Z <| PF Z Z Z Z <| AS Z Z <| ND <| CF Z Z <| SQ <| RG <| FA Z tyF_impl_Sender_6 Z <| LD (i := 0) Z tyP_int Z Z Z <| rw_gtr Z Z Z <| MV Z Z <| ?_
  refine rw_caseL (j := 20) Z (fun h12 => ?_) (fun h12 => ?_)
  · refine SKP Z <| PT Z Z Z Z <| AS Z Z <| ND <| CT Z Z <| SQ <| RG <| AS Z Z <| ND <| RT Try.func60 Z Z <| ?_
    simp [followingS, h1, h12]
  refine ON Z Z Z <| FA Z tyF_impl_Sender_6 Z <| ON Z Z Z <| LD (i := 0) Z tyP_int Z Z Z <| ON Z Z Z <| EQ1 Z Z Z <| ON Z Z Z <| MV Z Z <| ?_
  refine rw_caseL (j := 24) Z (fun h13 => ?_) (fun h13 => ?_)
  · refine ON Z Z Z <| FA Z tyF_impl_Sender_0 Z <| ON Z Z Z <| LD (i := 0) Z tyP_int Z Z Z <| ON Z Z Z <| EQ1 Z Z Z <| ON Z Z Z <| PT Z Z Z Z <| PF Z Z Z Z <| AS Z Z <| ND <| ?_
    refine gw_cond Z (fun h14 => ?_) (fun h14 => ?_)
    · refine SQ <| RG <| AS Z Z <| ND <| RT Try.func60 Z Z <| ?_
      simp [followingS, h1, h12, h13, h14]
    refine SQ <| RG <| FA Z tyF_impl_Sender_7 Z <| LD (i := 0) Z tyP_int Z Z Z <| rw_gtr Z Z Z <| MV Z Z <| ?_
    refine rw_caseL (j := 34) Z (fun h15 => ?_) (fun h15 => ?_)
    · refine SKP Z <| PT Z Z Z Z <| AS Z Z <| ND <| CT Z Z <| SQ <| RG <| AS Z Z <| ND <| RT Try.func60 Z Z <| ?_
      simp [followingS, h1, h12, h13, h14, h15]
    refine ON Z Z Z <| FA Z tyF_impl_Sender_6 Z <| ON Z Z Z <| LD (i := 0) Z tyP_int Z Z Z <| ON Z Z Z <| EQ1 Z Z Z <| ON Z Z Z <| MV Z Z <| ?_
    refine rw_caseL (j := 38) Z (fun h16 => ?_) (fun h16 => ?_)
    · refine ON Z Z Z <| FA Z tyF_impl_Sender_0 Z <| ON Z Z Z <| LD (i := 0) Z tyP_int Z Z Z <| ON Z Z Z <| EQ1 Z Z Z <| ON Z Z Z <| PT Z Z Z Z <| PF Z Z Z Z <| AS Z Z <| ND <| ?_
      refine gw_cond Z (fun h17 => ?_) (fun h17 => ?_)
      · refine SQ <| RG <| AS Z Z <| ND <| RT Try.func60 Z Z <| ?_
        simp [followingS, h1, h12, h13, h14, h15, h17]
      refine SK <| IB <| SQ <| RG <| AS Z Z <| ND <| RT Try.func60 Z Z <| ?_
      simp [followingS, h1, h12, h13, h14, h15, h17]
    refine SKP Z <| ON Z Z Z <| PF Z Z Z Z <| PF Z Z Z Z <| AS Z Z <| ND <| CF Z Z <| SK <| IB <| SQ <| RG <| AS Z Z <| ND <| RT Try.func60 Z Z <| ?_
    simp_all []
  refine SKP Z <| ON Z Z Z <| PF Z Z Z Z <| PF Z Z Z Z <| AS Z Z <| ND <| CF Z Z <| SQ <| RG <| FA Z tyF_impl_Sender_7 Z <| LD (i := 0) Z tyP_int Z Z Z <| rw_gtr Z Z Z <| MV Z Z <| ?_
  refine rw_caseL (j := 34) Z (fun h18 => ?_) (fun h18 => ?_)
  · refine SKP Z <| PT Z Z Z Z <| AS Z Z <| ND <| CT Z Z <| SQ <| RG <| AS Z Z <| ND <| RT Try.func60 Z Z <| ?_
    simp [followingS, h1, h12, h13, h18]
  refine ON Z Z Z <| FA Z tyF_impl_Sender_6 Z <| ON Z Z Z <| LD (i := 0) Z tyP_int Z Z Z <| ON Z Z Z <| EQ1 Z Z Z <| ON Z Z Z <| MV Z Z <| ?_
  refine rw_caseL (j := 38) Z (fun h19 => ?_) (fun h19 => ?_)
  · refine ON Z Z Z <| FA Z tyF_impl_Sender_0 Z <| ON Z Z Z <| LD (i := 0) Z tyP_int Z Z Z <| ON Z Z Z <| EQ1 Z Z Z <| ON Z Z Z <| PT Z Z Z Z <| PF Z Z Z Z <| AS Z Z <| ND <| ?_
    refine gw_cond Z (fun h20 => ?_) (fun h20 => ?_)
    · refine SQ <| RG <| AS Z Z <| ND <| RT Try.func60 Z Z <| ?_
      simp_all []
    refine SK <| IB <| SQ <| RG <| AS Z Z <| ND <| RT Try.func60 Z Z <| ?_
    simp [followingS, h1, h12, h13, h18, h20]
  refine SKP Z <| ON Z Z Z <| PF Z Z Z Z <| PF Z Z Z Z <| AS Z Z <| ND <| CF Z Z <| SK <| IB <| SQ <| RG <| AS Z Z <| ND <| RT Try.func60 Z Z <| ?_
  simp [followingS, h1, h12, h13, h18]

set_option maxRecDepth 20000 in
theorem spec_IsSender {w : World} {cs : List Value} {x : Sender} (hv : RdSender w cs x) (hb : x.le 1048576) : CV Try.prog 25 [.agg cs.toArray] w (.bool (isSenderS x)) := by
  obtain ⟨v0, v1, v2, v3, rfl, k0, k1, k2, k3⟩ := hv
  obtain ⟨A0, c0, rfl, hA0⟩ := k0
  obtain ⟨A1, c1, rfl, hA1⟩ := k1
  obtain ⟨A2, c2, rfl, hA2⟩ := k2
  obtain ⟨A3, c3, rfl, hA3⟩ := k3
  obtain ⟨hb0, hb1, hb2, hb3⟩ := hb
  refine cv_of Try.func25 Z Z Z <| SQ <| RG <| BX [_, _, _, _, _, _, _, _, _, _, _, _] Z Z Z <| fun b1 => AS Z Z <| ND <| SQ <| SQ <| RG <| FA Z tyF_impl_Sender_1 Z <| LS (i := 0) [_, _, _, _] Z tyS_impl_Ring Z Z Z Z <| CV1 Z fun_spec_IsRing Z (fun w hs => spec_IsRing ⟨_, Z, (hA0.s Pl.keeps hs)⟩ (show _ ≤ _ from hb0)) <| NT Z Z <| MV Z Z <| ?_
  refine rw_caseN (j := 13) Z (fun h1 => ?_) (fun h1 => ?_)
  · refine SKP Z <| PT Z Z Z Z <| MV Z Z <| SKP Z <| PT Z Z Z Z <| MV Z Z <| SKP Z <| PT Z Z Z Z <| MV Z Z <| SKP Z <| PT Z Z Z Z <| MV Z Z <| SKP Z <| PT Z Z Z Z <| MV Z Z <| SKP Z <| PT Z Z Z Z <| ND <| CT Z Z <| SQ <| RG <| AS Z Z <| ND <| RT Try.func25 Z Z <| ?_
    simp [isSenderS, senderBase, senderReset, h1]
  refine ON Z Z Z <| FA Z tyF_impl_Sender_2 Z <| ON Z Z Z <| LD (i := 0) Z tyP_S_impl_Range Z Z Z <| ON Z Z Z <| CV1 Z fun_spec_IsRanges Z (fun w hs => spec_IsRanges (hA1.s Pl.keeps hs) (by omega)) <| ON Z Z Z <| NT Z Z <| PF Z Z Z Z <| MV Z Z <| ?_
  refine rw_caseN (j := 19) Z (fun h2 => ?_) (fun h2 => ?_)
  · refine SKP Z <| PT Z Z Z Z <| MV Z Z <| SKP Z <| PT Z Z Z Z <| MV Z Z <| SKP Z <| PT Z Z Z Z <| MV Z Z <| SKP Z <| PT Z Z Z Z <| MV Z Z <| SKP Z <| PT Z Z Z Z <| ND <| CT Z Z <| SQ <| RG <| AS Z Z <| ND <| RT Try.func25 Z Z <| ?_
    simp [isSenderS, senderBase, senderReset, h1, h2]
  refine ON Z Z Z <| FA Z tyF_impl_Sender_3 Z <| ON Z Z Z <| LD (i := 0) Z tyP_S_impl_Range Z Z Z <| ON Z Z Z <| CV1 Z fun_spec_IsRanges Z (fun w hs => spec_IsRanges (hA2.s Pl.keeps hs) (by omega)) <| ON Z Z Z <| NT Z Z <| PF Z Z Z Z <| MV Z Z <| ?_
  refine rw_caseN (j := 25) Z (fun h3 => ?_) (fun h3 => ?_)
  · refine SKP Z <| PT Z Z Z Z <| MV Z Z <| SKP Z <| PT Z Z Z Z <| MV Z Z <| SKP Z <| PT Z Z Z Z <| MV Z Z <| SKP Z <| PT Z Z Z Z <| ND <| CT Z Z <| SQ <| RG <| AS Z Z <| ND <| RT Try.func25 Z Z <| ?_
    simp [isSenderS, senderBase, senderReset, h1, h2, h3]
  refine ON Z Z Z <| FA Z tyF_impl_Sender_4 Z <| ON Z Z Z <| LD (i := 0) Z tyP_S_impl_Range Z Z Z <| ON Z Z Z <| CV1 Z fun_spec_IsRanges Z (fun w hs => spec_IsRanges (hA3.s Pl.keeps hs) (by omega)) <| ON Z Z Z <| NT Z Z <| PF Z Z Z Z <| MV Z Z <| ?_
  refine rw_caseN (j := 31) Z (fun h4 => ?_) (fun h4 => ?_)
  · refine SKP Z <| PT Z Z Z Z <| MV Z Z <| SKP Z <| PT Z Z Z Z <| MV Z Z <| SKP Z <| PT Z Z Z Z <| ND <| CT Z Z <| SQ <| RG <| AS Z Z <| ND <| RT Try.func25 Z Z <| ?_
    simp [isSenderS, senderBase, senderReset, h1, h2, h3, h4]
  refine ON Z Z Z <| FA Z tyF_impl_Sender_7 Z <| ON Z Z Z <| LD (i := 0) Z tyP_int Z Z Z <| ON Z Z Z <| FA Z tyF_impl_Sender_1 Z <| ON Z Z Z <| FA Z tyF_impl_Ring_2 Z <| ON Z Z Z <| LD (i := 0) Z tyP_int Z Z Z <| ON Z Z Z <| CV1 Z fun_spec_l1In Z (fun w hs => spec_l1In _ _ _ w) <| ON Z Z Z <| NT Z Z <| PF Z Z Z Z <| MV Z Z <| ?_
  refine rw_caseN (j := 40) Z (fun h5 => ?_) (fun h5 => ?_)
  · refine SKP Z <| PT Z Z Z Z <| MV Z Z <| SKP Z <| PT Z Z Z Z <| ND <| CT Z Z <| SQ <| RG <| AS Z Z <| ND <| RT Try.func25 Z Z <| ?_
    simp [isSenderS, senderBase, senderReset, h1, h2, h3, h4, h5]
  refine ON Z Z Z <| FA Z tyF_impl_Sender_8 Z <| ON Z Z Z <| LD (i := 0) Z tyP_int Z Z Z <| ON Z Z Z <| CV1 Z fun_spec_l4Quic Z (fun w hs => spec_l4Quic _ w) <| ON Z Z Z <| NT Z Z <| PF Z Z Z Z <| MV Z Z <| ?_
  refine rw_caseN (j := 46) Z (fun h6 => ?_) (fun h6 => ?_)
  · refine SKP Z <| PT Z Z Z Z <| ND <| CT Z Z <| SQ <| RG <| AS Z Z <| ND <| RT Try.func25 Z Z <| ?_
    simp [isSenderS, senderBase, senderReset, h1, h2, h3, h4, h5, h6]
  refine ON Z Z Z <| FA Z tyF_impl_Sender_6 Z <| ON Z Z Z <| LD (i := 0) Z tyP_int Z Z Z <| ON Z Z Z <| CV1 Z fun_spec_l1In Z (fun w hs => spec_l1In _ _ _ w) <| ON Z Z Z <| NT Z Z <| PF Z Z Z Z <| ND <| ?_
  refine gw_condN Z (fun h7 => ?_) (fun h7 => ?_)
  · refine SQ <| RG <| AS Z Z <| ND <| RT Try.func25 Z Z <| ?_
    simp [isSenderS, senderBase, senderReset, h1, h2, h3, h4, h5, h6, h7]
  refine SK <| SQ <| SQ <| RG <| FA Z tyF_impl_Sender_0 Z <| LD (i := 0) Z tyP_int Z Z Z <| EQ1 Z Z Z <| MV Z Z <| ?_
  refine rw_caseL (j := 55) Z (fun h8 => ?_) (fun h8 => ?_)
  · refine SKP Z <| PT Z Z Z Z <| ND <| CT Z Z <| SQ <| RG <| FA Z tyF_impl_Sender_1 Z <| FA Z tyF_impl_Ring_1 Z <| LD (i := 0) Z tyP_int Z Z Z <| FA Z tyF_impl_Sender_1 Z <| FA Z tyF_impl_Ring_2 Z <| LD (i := 0) Z tyP_int Z Z Z <| EQ1 Z Z Z <| MV Z Z <| ?_
    refine rw_caseL (j := 67) Z (fun h9 => ?_) (fun h9 => ?_)
    · refine ON Z Z Z <| FA Z tyF_impl_Sender_2 Z <| ON Z Z Z <| LD (i := 0) Z tyP_S_impl_Range Z Z Z <| ON Z Z Z <| rw_len Z tyE_S_impl_Range Z <| ON Z Z Z <| EQ1 Z Z Z <| PT Z Z Z Z <| MV Z Z <| ?_
      refine rw_caseL (j := 73) Z (fun h10 => ?_) (fun h10 => ?_)
      · have hnil1 := nil_of_eq h10
        refine ON Z Z Z <| FA Z tyF_impl_Sender_3 Z <| ON Z Z Z <| LD (i := 0) Z tyP_S_impl_Range Z Z Z <| ON Z Z Z <| rw_len Z tyE_S_impl_Range Z <| ON Z Z Z <| EQ1 Z Z Z <| PT Z Z Z Z <| MV Z Z <| ?_
        refine rw_caseL (j := 79) Z (fun h11 => ?_) (fun h11 => ?_)
        · have hnil2 := nil_of_eq h11
          refine ON Z Z Z <| FA Z tyF_impl_Sender_4 Z <| ON Z Z Z <| LD (i := 0) Z tyP_S_impl_Range Z Z Z <| ON Z Z Z <| rw_len Z tyE_S_impl_Range Z <| ON Z Z Z <| EQ1 Z Z Z <| PT Z Z Z Z <| MV Z Z <| ?_
          refine rw_caseL (j := 85) Z (fun h12 => ?_) (fun h12 => ?_)
          · have hnil3 := nil_of_eq h12
            refine ON Z Z Z <| FA Z tyF_impl_Sender_5 Z <| ON Z Z Z <| LD (i := 0) Z tyP_int Z Z Z <| ON Z Z Z <| FA Z tyF_impl_Sender_7 Z <| ON Z Z Z <| LD (i := 0) Z tyP_int Z Z Z <| ON Z Z Z <| EQ1 Z Z Z <| PT Z Z Z Z <| MV Z Z <| ?_
            refine rw_caseL (j := 92) Z (fun h13 => ?_) (fun h13 => ?_)
            · refine ON Z Z Z <| FA Z tyF_impl_Sender_6 Z <| ON Z Z Z <| LD (i := 0) Z tyP_int Z Z Z <| ON Z Z Z <| EQ1 Z Z Z <| PT Z Z Z Z <| MV Z Z <| ?_
              refine rw_caseL (j := 97) Z (fun h14 => ?_) (fun h14 => ?_)
              · refine ON Z Z Z <| FA Z tyF_impl_Sender_7 Z <| ON Z Z Z <| LD (i := 0) Z tyP_int Z Z Z <| ON Z Z Z <| FA Z tyF_impl_Sender_1 Z <| ON Z Z Z <| FA Z tyF_impl_Ring_2 Z <| ON Z Z Z <| LD (i := 0) Z tyP_int Z Z Z <| ON Z Z Z <| EQ1 Z Z Z <| PT Z Z Z Z <| AS Z Z <| ND <| RT Try.func25 Z Z <| ?_
                simp [isSenderS, senderBase, senderReset, h1, h2, h3, h4, h5, h6, h7, h8, h9, h10, h11, h12, h13, h14]
              refine SKP Z <| PF Z Z Z Z <| AS Z Z <| ND <| RT Try.func25 Z Z <| ?_
              simp [isSenderS, senderBase, senderReset, h1, h2, h3, h4, h5, h6, h7, h8, h9, h10, h11, h12, h13, h14]
            refine SKP Z <| PF Z Z Z Z <| MV Z Z <| SKP Z <| PF Z Z Z Z <| AS Z Z <| ND <| RT Try.func25 Z Z <| ?_
            simp [isSenderS, senderBase, senderReset, h1, h2, h3, h4, h5, h6, h7, h8, h9, h10, h11, h12, h13]
          have hpos4 := pos_of_ne h12
          refine SKP Z <| PF Z Z Z Z <| MV Z Z <| SKP Z <| PF Z Z Z Z <| MV Z Z <| SKP Z <| PF Z Z Z Z <| AS Z Z <| ND <| RT Try.func25 Z Z <| ?_
          simp [isSenderS, senderBase, senderReset, h1, h2, h3, h4, h5, h6, h7, h8, h9, h10, h11, h12]
        have hpos5 := pos_of_ne h11
        refine SKP Z <| PF Z Z Z Z <| MV Z Z <| SKP Z <| PF Z Z Z Z <| MV Z Z <| SKP Z <| PF Z Z Z Z <| MV Z Z <| SKP Z <| PF Z Z Z Z <| AS Z Z <| ND <| RT Try.func25 Z Z <| ?_
        simp [isSenderS, senderBase, senderReset, h1, h2, h3, h4, h5, h6, h7, h8, h9, h10, h11]
      have hpos6 := pos_of_ne h10
      refine SKP Z <| PF Z Z Z Z <| MV Z Z <| SKP Z <| PF Z Z Z Z <| MV Z Z <| SKP Z <| PF Z Z Z Z <| MV Z Z <| SKP Z <| PF Z Z Z Z <| MV Z Z <| SKP Z <| PF Z Z Z Z <| AS Z Z <| ND <| RT Try.func25 Z Z <| ?_
      simp [isSenderS, senderBase, senderReset, h1, h2, h3, h4, h5, h6, h7, h8, h9, h10]
    refine SKP Z <| PF Z Z Z Z <| MV Z Z <| SKP Z <| PF Z Z Z Z <| MV Z Z <| SKP Z <| PF Z Z Z Z <| MV Z Z <| SKP Z <| PF Z Z Z Z <| MV Z Z <| SKP Z <| PF Z Z Z Z <| MV Z Z <| SKP Z <| PF Z Z Z Z <| AS Z Z <| ND <| RT Try.func25 Z Z <| ?_
    simp [isSenderS, senderBase, senderReset, h1, h2, h3, h4, h5, h6, h7, h8, h9]
  refine ON Z Z Z <| FA Z tyF_impl_Sender_0 Z <| ON Z Z Z <| LD (i := 0) Z tyP_int Z Z Z <| ON Z Z Z <| EQ1 Z Z Z <| PF Z Z Z Z <| ND <| ?_
  refine gw_cond Z (fun h15 => ?_) (fun h15 => ?_)
  · refine SQ <| RG <| FA Z tyF_impl_Sender_1 Z <| FA Z tyF_impl_Ring_1 Z <| LD (i := 0) Z tyP_int Z Z Z <| FA Z tyF_impl_Sender_1 Z <| FA Z tyF_impl_Ring_2 Z <| LD (i := 0) Z tyP_int Z Z Z <| EQ1 Z Z Z <| MV Z Z <| ?_
    refine rw_caseL (j := 67) Z (fun h16 => ?_) (fun h16 => ?_)
    · refine ON Z Z Z <| FA Z tyF_impl_Sender_2 Z <| ON Z Z Z <| LD (i := 0) Z tyP_S_impl_Range Z Z Z <| ON Z Z Z <| rw_len Z tyE_S_impl_Range Z <| ON Z Z Z <| EQ1 Z Z Z <| PT Z Z Z Z <| MV Z Z <| ?_
      refine rw_caseL (j := 73) Z (fun h17 => ?_) (fun h17 => ?_)
      · have hnil7 := nil_of_eq h17
        refine ON Z Z Z <| FA Z tyF_impl_Sender_3 Z <| ON Z Z Z <| LD (i := 0) Z tyP_S_impl_Range Z Z Z <| ON Z Z Z <| rw_len Z tyE_S_impl_Range Z <| ON Z Z Z <| EQ1 Z Z Z <| PT Z Z Z Z <| MV Z Z <| ?_
        refine rw_caseL (j := 79) Z (fun h18 => ?_) (fun h18 => ?_)
        · have hnil8 := nil_of_eq h18
          refine ON Z Z Z <| FA Z tyF_impl_Sender_4 Z <| ON Z Z Z <| LD (i := 0) Z tyP_S_impl_Range Z Z Z <| ON Z Z Z <| rw_len Z tyE_S_impl_Range Z <| ON Z Z Z <| EQ1 Z Z Z <| PT Z Z Z Z <| MV Z Z <| ?_
          refine rw_caseL (j := 85) Z (fun h19 => ?_) (fun h19 => ?_)
          · have hnil9 := nil_of_eq h19
            refine ON Z Z Z <| FA Z tyF_impl_Sender_5 Z <| ON Z Z Z <| LD (i := 0) Z tyP_int Z Z Z <| ON Z Z Z <| FA Z tyF_impl_Sender_7 Z <| ON Z Z Z <| LD (i := 0) Z tyP_int Z Z Z <| ON Z Z Z <| EQ1 Z Z Z <| PT Z Z Z Z <| MV Z Z <| ?_
            refine rw_caseL (j := 92) Z (fun h20 => ?_) (fun h20 => ?_)
            · refine ON Z Z Z <| FA Z tyF_impl_Sender_6 Z <| ON Z Z Z <| LD (i := 0) Z tyP_int Z Z Z <| ON Z Z Z <| EQ1 Z Z Z <| PT Z Z Z Z <| MV Z Z <| ?_
              refine rw_caseL (j := 97) Z (fun h21 => ?_) (fun h21 => ?_)
              · refine ON Z Z Z <| FA Z tyF_impl_Sender_7 Z <| ON Z Z Z <| LD (i := 0) Z tyP_int Z Z Z <| ON Z Z Z <| FA Z tyF_impl_Sender_1 Z <| ON Z Z Z <| FA Z tyF_impl_Ring_2 Z <| ON Z Z Z <| LD (i := 0) Z tyP_int Z Z Z <| ON Z Z Z <| EQ1 Z Z Z <| PT Z Z Z Z <| AS Z Z <| ND <| RT Try.func25 Z Z <| ?_
                simp [isSenderS, senderBase, senderReset, h1, h2, h3, h4, h5, h6, h7, h8, h15, h16, h17, h18, h19, h20, h21]
              refine SKP Z <| PF Z Z Z Z <| AS Z Z <| ND <| RT Try.func25 Z Z <| ?_
              simp [isSenderS, senderBase, senderReset, h1, h2, h3, h4, h5, h6, h7, h8, h15, h16, h17, h18, h19, h20, h21]
            refine SKP Z <| PF Z Z Z Z <| MV Z Z <| SKP Z <| PF Z Z Z Z <| AS Z Z <| ND <| RT Try.func25 Z Z <| ?_
            simp [isSenderS, senderBase, senderReset, h1, h2, h3, h4, h5, h6, h7, h8, h15, h16, h17, h18, h19, h20]
          have hpos10 := pos_of_ne h19
          refine SKP Z <| PF Z Z Z Z <| MV Z Z <| SKP Z <| PF Z Z Z Z <| MV Z Z <| SKP Z <| PF Z Z Z Z <| AS Z Z <| ND <| RT Try.func25 Z Z <| ?_
          simp [isSenderS, senderBase, senderReset, h1, h2, h3, h4, h5, h6, h7, h8, h15, h16, h17, h18, h19]
        have hpos11 := pos_of_ne h18
        refine SKP Z <| PF Z Z Z Z <| MV Z Z <| SKP Z <| PF Z Z Z Z <| MV Z Z <| SKP Z <| PF Z Z Z Z <| MV Z Z <| SKP Z <| PF Z Z Z Z <| AS Z Z <| ND <| RT Try.func25 Z Z <| ?_
        simp [isSenderS, senderBase, senderReset, h1, h2, h3, h4, h5, h6, h7, h8, h15, h16, h17, h18]
      have hpos12 := pos_of_ne h17
      refine SKP Z <| PF Z Z Z Z <| MV Z Z <| SKP Z <| PF Z Z Z Z <| MV Z Z <| SKP Z <| PF Z Z Z Z <| MV Z Z <| SKP Z <| PF Z Z Z Z <| MV Z Z <| SKP Z <| PF Z Z Z Z <| AS Z Z <| ND <| RT Try.func25 Z Z <| ?_
      simp [isSenderS, senderBase, senderReset, h1, h2, h3, h4, h5, h6, h7, h8, h15, h16, h17]
    refine SKP Z <| PF Z Z Z Z <| MV Z Z <| SKP Z <| PF Z Z Z Z <| MV Z Z <| SKP Z <| PF Z Z Z Z <| MV Z Z <| SKP Z <| PF Z Z Z Z <| MV Z Z <| SKP Z <| PF Z Z Z Z <| MV Z Z <| SKP Z <| PF Z Z Z Z <| AS Z Z <| ND <| RT Try.func25 Z Z <| ?_
    simp [isSenderS, senderBase, senderReset, h1, h2, h3, h4, h5, h6, h7, h8, h15, h16]
  refine SK <| SQ <| RG <| FA Z tyF_impl_Sender_2 Z <| LD (i := 0) Z tyP_S_impl_Range Z Z Z <| AS Z Z <| ND <| SQ <| SQ <| RG <| AS Z Z <| ND <| BK <| ?_
  refine gw_loopX (α := Nat × Option Addr × Nat × List Ck) (fun z_ => z_.1 ≤ x.flight.length ∧ RdB w 2 (Pl Range.cells) z_.2.1 (addAll x.pending (x.flight.take z_.1)) z_.2.2.2) (fun z_ => x.flight.length - z_.1) (fun e z_ => (4, .int .i64 (z_.1 : Int)) :: (3, .slice z_.2.1 (addAll x.pending (x.flight.take z_.1)).length z_.2.2.1) :: e) (fun B _ => B) (fun F z_ => z_.2.2.2 ++ []) (0, A1, c1, []) [(1, _), (2, _)] (Sub.consE Z Z (Sub.consE Z Z (Sub.cons (i := 1) Z (Sub.cons (i := 2) Z (Sub.nil _))))) Z Z ?_ ?_
  · exact ⟨Nat.zero_le _, RdB.ext Pl.keeps hA1⟩
  · rintro ⟨i, A11, cp1, ch_1⟩ hI13 ih13
    dsimp only at hI13
    dsimp only
    obtain ⟨hle1, hB1⟩ := hI13
    have hal1 := addAll_len (x.flight.take i) x.pending
    simp only [List.length_take] at hal1
    refine SQ <| SQ <| RG <| MV Z Z <| FA Z tyF_impl_Sender_3 Z <| LD (i := 0) Z tyP_S_impl_Range Z Z Z <| rw_len Z tyE_S_impl_Range Z <| rw_lss Z Z Z <| ND <| ?_
    refine gw_cond Z (fun h22 => ?_) (fun h22 => ?_)
    · have hi14 := lt_of_dec h22
      obtain ⟨x15, hx15⟩ := get_of_lt hi14
      have hd15 := drop_cons hx15
      refine SK <| SQ <| BK <| RG <| MV Z Z <| FA Z tyF_impl_Sender_3 Z <| LD (i := 0) Z tyP_S_impl_Range Z Z Z <| MV Z Z <| ?_
      have hq16 := hA2.plain hx15
      refine rw_indexAddr (i) Z tyE_S_impl_Range Z Z Z (hA2.some hi14) hi14 <| rw_loadX_s [_, _] Z tyS_impl_Range Z Z (fun w hs => hq16.lds0 (n := 2) hs Z) <| CN1 Z fun_spec_AddRange Z (fun w hs => spec_AddRange ⟨_, _, Z, hB1.2 _ hs.below (fun c hc => hs.at_ c (MR (ML hc)))⟩ (by omega) _) <| fun v17 ch17 how17 => ?_
      obtain ⟨R17, rc17, rfl, hR17, hrd17⟩ := how17.shape eRange
      refine AS Z Z <| ND <| IB <| RG <| MV Z Z <| rw_add Z Z Z <| AS Z Z <| ND <| ?_
      refine gw_dropF (F' := ch17 ++ ([])) (List.Sublist.append_left (List.nil_sublist _) _) <| ?_
      refine gw_sub (Sub.consE (i := 4) Z (int_succ (by omega)) (Sub.consE (i := 3) Z (by rw [addAll_take hx15]) (Sub.cons (i := 1) Z (Sub.cons (i := 2) Z (Sub.nil _))))) (ih13 (i + 1, R17, rc17, ch17) ?_ ?_)
      · exact ⟨by omega, by rw [addAll_take hx15]; exact RdB.own hR17 hrd17⟩
      · show x.flight.length - (i + 1) < x.flight.length - i; omega
    have hn18 := nil_of_dec h22
    refine EX Z <| SQ <| SQ <| RG <| AS Z Z <| ND <| BK <| ?_
    refine gw_loopX (α := Nat × Option Addr × Nat × List Ck) (fun z_ => z_.1 ≤ x.acked.length ∧ RdB w 2 (Pl Range.cells) z_.2.1 (addAll (addAll x.pending x.flight) (x.acked.take z_.1)) z_.2.2.2) (fun z_ => x.acked.length - z_.1) (fun e z_ => (5, .int .i64 (z_.1 : Int)) :: (3, .slice z_.2.1 (addAll (addAll x.pending x.flight) (x.acked.take z_.1)).length z_.2.2.1) :: e) (fun B _ => B) (fun F z_ => z_.2.2.2 ++ []) (0, A11, cp1, ch_1) [(1, _), (2, _)] (Sub.consE Z Z (Sub.consE Z (by rw [take_all hn18]; rfl) (Sub.cons (i := 1) Z (Sub.cons (i := 2) Z (Sub.nil _))))) Z Z ?_ ?_
    · exact ⟨Nat.zero_le _, (by rw [take_all hn18] at hB1; exact hB1)⟩
    · rintro ⟨i, A12, cp2, ch_2⟩ hI19 ih19
      dsimp only at hI19
      dsimp only
      obtain ⟨hle2, hB2⟩ := hI19
      have hal2 := addAll_len (x.acked.take i) (addAll x.pending x.flight)
      simp only [List.length_take] at hal2
      have hal0 := addAll_len x.flight x.pending
      refine SQ <| SQ <| RG <| MV Z Z <| FA Z tyF_impl_Sender_4 Z <| LD (i := 0) Z tyP_S_impl_Range Z Z Z <| rw_len Z tyE_S_impl_Range Z <| rw_lss Z Z Z <| ND <| ?_
      refine gw_cond Z (fun h23 => ?_) (fun h23 => ?_)
      · have hi20 := lt_of_dec h23
        obtain ⟨x21, hx21⟩ := get_of_lt hi20
        have hd21 := drop_cons hx21
        refine SK <| SQ <| BK <| RG <| MV Z Z <| FA Z tyF_impl_Sender_4 Z <| LD (i := 0) Z tyP_S_impl_Range Z Z Z <| MV Z Z <| ?_
        have hq22 := hA3.plain hx21
        refine rw_indexAddr (i) Z tyE_S_impl_Range Z Z Z (hA3.some hi20) hi20 <| rw_loadX_s [_, _] Z tyS_impl_Range Z Z (fun w hs => hq22.lds0 (n := 2) hs Z) <| CN1 Z fun_spec_AddRange Z (fun w hs => spec_AddRange ⟨_, _, Z, hB2.2 _ hs.below (fun c hc => hs.at_ c (MR (ML hc)))⟩ (by omega) _) <| fun v23 ch23 how23 => ?_
        obtain ⟨R23, rc23, rfl, hR23, hrd23⟩ := how23.shape eRange
        refine AS Z Z <| ND <| IB <| RG <| MV Z Z <| rw_add Z Z Z <| AS Z Z <| ND <| ?_
        refine gw_dropF (F' := ch23 ++ ([])) (List.Sublist.append_left (List.nil_sublist _) _) <| ?_
        refine gw_sub (Sub.consE (i := 5) Z (int_succ (by omega)) (Sub.consE (i := 3) Z (by rw [addAll_take hx21]) (Sub.cons (i := 1) Z (Sub.cons (i := 2) Z (Sub.nil _))))) (ih19 (i + 1, R23, rc23, ch23) ?_ ?_)
        · exact ⟨by omega, by rw [addAll_take hx21]; exact RdB.own hR23 hrd23⟩
        · show x.acked.length - (i + 1) < x.acked.length - i; omega
      have hn24 := nil_of_dec h23
      refine EX Z <| SQ <| gw_draw' [dd 0, dd 1, dd 2, dd 3, dd 4, dd 5, dd 6, dd 7, dd 8, dd 9] [10, 11] mixed Z (FD Z) (ts := [_, _]) Z <| DT Z Z (fun K hk => FA Z tyF_impl_Sender_2 Z hk) <| DT Z Z (fun K hk => LD (i := 0) Z tyP_S_impl_Range Z Z Z hk) <| DT Z Z (fun K hk => CV1 Z fun_spec_CountNumbers Z (fun w hs => spec_CountNumbers (hA1.s Pl.keeps hs) (by omega)) hk) <| DT Z Z (fun K hk => FA Z tyF_impl_Sender_3 Z hk) <| DT Z Z (fun K hk => LD (i := 0) Z tyP_S_impl_Range Z Z Z hk) <| ?_
      refine DT Z Z (fun K hk => CV1 Z fun_spec_CountNumbers Z (fun w hs => spec_CountNumbers (hA2.s Pl.keeps hs) (by omega)) hk) <| DT Z Z (fun K hk => rw_add Z Z Z hk) <| DT Z Z (fun K hk => FA Z tyF_impl_Sender_4 Z hk) <| DT Z Z (fun K hk => LD (i := 0) Z tyP_S_impl_Range Z Z Z hk) <| DT Z Z (fun K hk => CV1 Z fun_spec_CountNumbers Z (fun w hs => spec_CountNumbers (hA3.s Pl.keeps hs) (by omega)) hk) <| dw_nil <| rw_add Z Z Z <| AS Z Z <| ND <| SQ <| SQ <| gw_draw' [dd 0, dd 1, dd 2, dd 3, dd 4, dd 5, dd 6, dd 7, dd 8, dd 9, dd 10, dd 11, dd 12, dd 13, dd 14, dd 15, dd 16, dd 17, dd 18, dd 19, dd 20, dd 21, dd 22, dd 23, dd 24, dd 25, dd 26, dd 27, dd 28, dd 29, dd 30, dd 31, dd 32, dd 33, dd 34, dd 35] [36, 37, 38, 39, 40, 41, 42] mixed Z (FD Z) (ts := [_, _, _, _, _, _, _]) Z <| ?_
      refine DM Z Z Z <| DT Z Z (fun K hk => CV1 Z fun_spec_CountNumbers Z (fun w hs => spec_CountNumbers ⟨_, _, Z, hB2.2 _ hs.below (fun c hc => hs.at_ c (MR (ML hc)))⟩ (by omega)) hk) <| DT Z Z (fun K hk => FA Z tyF_impl_Sender_1 Z hk) <| DT Z Z (fun K hk => FA Z tyF_impl_Ring_2 Z hk) <| DT Z Z (fun K hk => LD (i := 0) Z tyP_int Z Z Z hk) <| DT Z Z (fun K hk => rw_neq Z Z Z hk) <| DM Z Z Z <| ?_
      refine dw_caseN (j := 152) Z (fun h24 => ?_) (fun h24 => ?_)
      · refine DSK Z <| DT Z Z (fun K hk => PT Z Z Z Z hk) <| DM Z Z Z <| DSK Z <| DT Z Z (fun K hk => PT Z Z Z Z hk) <| DM Z Z Z <| DSK Z <| dw_nil <| OF Z Z Z Z <| PT Z Z Z Z <| MV Z Z <| SKP Z <| PT Z Z Z Z <| ND <| CT Z Z <| SQ <| RG <| AS Z Z <| ND <| RT Try.func25 Z Z <| ?_
        simp only [take_all hn24] at *
        simp [isSenderS, senderBase, senderReset, sAll, h1, h2, h3, h4, h5, h6, h7, h8, h15, h24]
      refine DT Z Z (fun K hk => ON Z Z Z (MV Z Z hk)) <| DT Z Z (fun K hk => ON Z Z Z (FA Z tyF_impl_Sender_1 Z hk)) <| DT Z Z (fun K hk => ON Z Z Z (FA Z tyF_impl_Ring_2 Z hk)) <| DT Z Z (fun K hk => ON Z Z Z (LD (i := 0) Z tyP_int Z Z Z hk)) <| DT Z Z (fun K hk => ON Z Z Z (rw_neq Z Z Z hk)) <| DT Z Z (fun K hk => PF Z Z Z Z hk) <| DM Z Z Z <| ?_
      refine dw_caseN (j := 159) Z (fun h25 => ?_) (fun h25 => ?_)
      · refine DSK Z <| DT Z Z (fun K hk => PT Z Z Z Z hk) <| DM Z Z Z <| DSK Z <| dw_nil <| OF Z Z Z Z <| PT Z Z Z Z <| MV Z Z <| SKP Z <| PT Z Z Z Z <| ND <| CT Z Z <| SQ <| RG <| AS Z Z <| ND <| RT Try.func25 Z Z <| ?_
        simp only [take_all hn24] at *
        simp [isSenderS, senderBase, senderReset, sAll, h1, h2, h3, h4, h5, h6, h7, h8, h15, h24, h25]
      refine DT Z Z (fun K hk => ON Z Z Z (FA Z tyF_impl_Sender_1 Z hk)) <| DT Z Z (fun K hk => ON Z Z Z (FA Z tyF_impl_Ring_2 Z hk)) <| DT Z Z (fun K hk => ON Z Z Z (LD (i := 0) Z tyP_int Z Z Z hk)) <| DT Z Z (fun K hk => ON Z Z Z (rw_gtr Z Z Z hk)) <| DT Z Z (fun K hk => ON Z Z Z (MV Z Z hk)) <| ?_
      refine dw_caseL (j := 164) Z (fun h26 => ?_) (fun h26 => ?_)
      · refine DT Z Z (fun K hk => ON Z Z Z (MV Z Z hk)) <| ?_
        have hi25 := count_pos h24 h26
        obtain ⟨x26, hx26⟩ := get_of_lt hi25
        have hd26 := drop_cons hx26
        refine DT Z Z (fun K hk => ON Z Z Z (rw_indexAddr (0) Z tyE_S_impl_Range Z Z Z (hB2.1 (Nat.zero_lt_of_lt hi25)) hi25 hk)) <| DT Z Z (fun K hk => ON Z Z Z (FX Z tyF_impl_Range_1 Z hk)) <| DT Z Z (fun K hk => ON Z Z Z (rw_loadX _ Z tyP_int Z (fun w hs => ((hB2.2 _ hs.below (fun c hc => hs.at_ c (MR (ML hc)))).plain hx26).cell Z) hk)) <| DT Z Z (fun K hk => ON Z Z Z (FA Z tyF_impl_Sender_1 Z hk)) <| DT Z Z (fun K hk => ON Z Z Z (FA Z tyF_impl_Ring_2 Z hk)) <| ?_
        refine DT Z Z (fun K hk => ON Z Z Z (LD (i := 0) Z tyP_int Z Z Z hk)) <| DT Z Z (fun K hk => ON Z Z Z (rw_neq Z Z Z hk)) <| DT Z Z (fun K hk => ON Z Z Z (PT Z Z Z Z hk)) <| DT Z Z (fun K hk => PF Z Z Z Z hk) <| DM Z Z Z <| ?_
        refine dw_caseN (j := 175) Z (fun h27 => ?_) (fun h27 => ?_)
        · refine DSK Z <| dw_nil <| OF Z Z Z Z <| PT Z Z Z Z <| MV Z Z <| SKP Z <| PT Z Z Z Z <| ND <| CT Z Z <| SQ <| RG <| AS Z Z <| ND <| RT Try.func25 Z Z <| ?_
          simp only [take_all hn24] at *
          simp [isSenderS, senderBase, senderReset, sAll, h1, h2, h3, h4, h5, h6, h7, h8, h15, h24, h25, h26, h27, head_of hx26]
        refine DT Z Z (fun K hk => ON Z Z Z (FA Z tyF_impl_Sender_4 Z hk)) <| DT Z Z (fun K hk => ON Z Z Z (LD (i := 0) Z tyP_S_impl_Range Z Z Z hk)) <| DT Z Z (fun K hk => ON Z Z Z (CV1 Z fun_spec_FirstGap Z (fun w hs => spec_FirstGap (hA3.s Pl.keeps hs) (by omega) _) hk)) <| DT Z Z (fun K hk => ON Z Z Z (FA Z tyF_impl_Sender_1 Z hk)) <| DT Z Z (fun K hk => ON Z Z Z (FA Z tyF_impl_Ring_1 Z hk)) <| ?_
        refine DT Z Z (fun K hk => ON Z Z Z (LD (i := 0) Z tyP_int Z Z Z hk)) <| dw_nil <| ON Z Z Z <| rw_neq Z Z Z <| PF Z Z Z Z <| MV Z Z <| ?_
        refine rw_caseN (j := 184) Z (fun h28 => ?_) (fun h28 => ?_)
        · refine SKP Z <| PT Z Z Z Z <| ND <| CT Z Z <| SQ <| RG <| AS Z Z <| ND <| RT Try.func25 Z Z <| ?_
          simp only [take_all hn24] at *
          simp [isSenderS, senderBase, senderReset, sAll, h1, h2, h3, h4, h5, h6, h7, h8, h15, h24, h25, h26, h27, h28, head_of hx26]
        refine ON Z Z Z <| FA Z tyF_impl_Sender_8 Z <| ON Z Z Z <| LD (i := 0) Z tyP_int Z Z Z <| ON Z Z Z <| rw_neq Z Z Z <| PF Z Z Z Z <| ND <| ?_
        refine gw_condN Z (fun h29 => ?_) (fun h29 => ?_)
        · refine SQ <| RG <| AS Z Z <| ND <| RT Try.func25 Z Z <| ?_
          simp only [take_all hn24] at *
          simp [isSenderS, senderBase, senderReset, sAll, h1, h2, h3, h4, h5, h6, h7, h8, h15, h24, h25, h26, h27, h28, h29, head_of hx26]
        refine SK <| SQ <| SQ <| RG <| AS Z Z <| ND <| BK <| ?_
        refine gw_loopC (α := Nat) (fun z_ => z_ ≤ x.flight.length ∧ x.flight.all (fun r => !decide (x.sent < r.high)) = (x.flight.drop z_).all (fun r => !decide (x.sent < r.high))) (fun z_ => x.flight.length - z_) (fun e z_ => (7, .int .i64 (z_ : Int)) :: e) 0 [(1, _)] (Sub.consE Z Z (Sub.cons (i := 1) Z (Sub.nil _))) ?_ ?_
        · exact ⟨Nat.zero_le _, rfl⟩
        · rintro i hI27 ih27
          try dsimp only
          obtain ⟨hle, hJ1⟩ := hI27
          refine SQ <| SQ <| RG <| MV Z Z <| FA Z tyF_impl_Sender_3 Z <| LD (i := 0) Z tyP_S_impl_Range Z Z Z <| rw_len Z tyE_S_impl_Range Z <| rw_lss Z Z Z <| ND <| ?_
          refine gw_cond Z (fun h30 => ?_) (fun h30 => ?_)
          · have hi28 := lt_of_dec h30
            obtain ⟨x29, hx29⟩ := get_of_lt hi28
            have hd29 := drop_cons hx29
            refine SK <| SQ <| BK <| SQ <| gw_draw' [dd 0, dd 1, dd 2, dd 3, dd 4, dd 5, dd 6, dd 7] [8] mixed Z (FD Z) (ts := [_]) Z <| DT Z Z (fun K hk => FA Z tyF_impl_Sender_3 Z hk) <| DT Z Z (fun K hk => LD (i := 0) Z tyP_S_impl_Range Z Z Z hk) <| DM Z Z Z <| ?_
            have hq30 := hA2.plain hx29
            refine DT Z Z (fun K hk => rw_indexAddr (i) Z tyE_S_impl_Range Z Z Z (hA2.some hi28) hi28 hk) <| DT Z Z (fun K hk => FX Z tyF_impl_Range_1 Z hk) <| DT Z Z (fun K hk => rw_loadX _ Z tyP_int Z (fun w hs => hq30.ld hs Z) hk) <| DT Z Z (fun K hk => FA Z tyF_impl_Sender_7 Z hk) <| DT Z Z (fun K hk => LD (i := 0) Z tyP_int Z Z Z hk) <| dw_nil <| rw_gtr Z Z Z <| ND <| ?_
            refine gw_cond Z (fun h31 => ?_) (fun h31 => ?_)
            · refine SQ <| RG <| AS Z Z <| ND <| RT Try.func25 Z Z <| ?_
              simp only [take_all hn24] at *
              simp [isSenderS, senderBase, senderReset, sAll, h1, h2, h3, h4, h5, h6, h7, h8, h15, h24, h25, h26, h27, h28, h29, h31, head_of hx26, hJ1, hd29]
            refine SK <| IB <| RG <| MV Z Z <| rw_add Z Z Z <| AS Z Z <| ND <| ?_
            refine gw_sub (Sub.consE (i := 7) Z (int_succ (by omega)) (Sub.cons (i := 1) Z (Sub.nil _))) (ih27 (i + 1) ?_ ?_)
            · exact ⟨by omega, by rw [hJ1, hd29]; simp [h31]⟩
            · show x.flight.length - (i + 1) < x.flight.length - i; omega
          have hn31 := nil_of_dec h30
          refine EX Z <| SQ <| SQ <| RG <| AS Z Z <| ND <| BK <| ?_
          refine gw_loopC (α := Nat) (fun z_ => z_ ≤ x.acked.length ∧ x.acked.all (fun r => !decide (x.sent < r.high)) = (x.acked.drop z_).all (fun r => !decide (x.sent < r.high))) (fun z_ => x.acked.length - z_) (fun e z_ => (8, .int .i64 (z_ : Int)) :: e) 0 [(1, _)] (Sub.consE Z Z (Sub.cons (i := 1) Z (Sub.nil _))) ?_ ?_
          · exact ⟨Nat.zero_le _, rfl⟩
          · rintro i hI32 ih32
            try dsimp only
            obtain ⟨hle, hJ2⟩ := hI32
            refine SQ <| SQ <| RG <| MV Z Z <| FA Z tyF_impl_Sender_4 Z <| LD (i := 0) Z tyP_S_impl_Range Z Z Z <| rw_len Z tyE_S_impl_Range Z <| rw_lss Z Z Z <| ND <| ?_
            refine gw_cond Z (fun h32 => ?_) (fun h32 => ?_)
            · have hi33 := lt_of_dec h32
              obtain ⟨x34, hx34⟩ := get_of_lt hi33
              have hd34 := drop_cons hx34
              refine SK <| SQ <| BK <| SQ <| gw_draw' [dd 0, dd 1, dd 2, dd 3, dd 4, dd 5, dd 6, dd 7] [8] mixed Z (FD Z) (ts := [_]) Z <| DT Z Z (fun K hk => FA Z tyF_impl_Sender_4 Z hk) <| DT Z Z (fun K hk => LD (i := 0) Z tyP_S_impl_Range Z Z Z hk) <| DM Z Z Z <| ?_
              have hq35 := hA3.plain hx34
              refine DT Z Z (fun K hk => rw_indexAddr (i) Z tyE_S_impl_Range Z Z Z (hA3.some hi33) hi33 hk) <| DT Z Z (fun K hk => FX Z tyF_impl_Range_1 Z hk) <| DT Z Z (fun K hk => rw_loadX _ Z tyP_int Z (fun w hs => hq35.ld hs Z) hk) <| DT Z Z (fun K hk => FA Z tyF_impl_Sender_7 Z hk) <| DT Z Z (fun K hk => LD (i := 0) Z tyP_int Z Z Z hk) <| dw_nil <| rw_gtr Z Z Z <| ND <| ?_
              refine gw_cond Z (fun h33 => ?_) (fun h33 => ?_)
              · refine SQ <| RG <| AS Z Z <| ND <| RT Try.func25 Z Z <| ?_
                simp only [take_all hn24] at *
                have hF : (x.flight.all fun r => !decide (x.sent < r.high)) = true := by rw [hJ1, hn31]; rfl
                simp [isSenderS, senderBase, senderReset, sAll, h1, h2, h3, h4, h5, h6, h7, h8, h15, h24, h25, h26, h27, h28, h29, h33, head_of hx26, hF, hJ2, hd34]
              refine SK <| IB <| RG <| MV Z Z <| rw_add Z Z Z <| AS Z Z <| ND <| ?_
              refine gw_sub (Sub.consE (i := 8) Z (int_succ (by omega)) (Sub.cons (i := 1) Z (Sub.nil _))) (ih32 (i + 1) ?_ ?_)
              · exact ⟨by omega, by rw [hJ2, hd34]; simp [h33]⟩
              · show x.acked.length - (i + 1) < x.acked.length - i; omega
            have hn36 := nil_of_dec h32
            refine EX Z <| SQ <| SQ <| RG <| FA Z tyF_impl_Sender_6 Z <| LD (i := 0) Z tyP_int Z Z Z <| EQ1 Z Z Z <| FA Z tyF_impl_Sender_5 Z <| LD (i := 0) Z tyP_int Z Z Z <| EQ1 Z Z Z <| rw_neqB (by kernel_rfl) Z Z Z <| MV Z Z <| ?_
            refine rw_caseN (j := 228) Z (fun h34 => ?_) (fun h34 => ?_)
            · refine SKP Z <| PT Z Z Z Z <| ND <| CT Z Z <| SQ <| RG <| AS Z Z <| ND <| RT Try.func25 Z Z <| ?_
              simp only [take_all hn24] at *
              have hF : (x.flight.all fun r => !decide (x.sent < r.high)) = true := by rw [hJ1, hn31]; rfl
              have hC : (x.acked.all fun r => !decide (x.sent < r.high)) = true := by rw [hJ2, hn36]; rfl
              simp [isSenderS, senderBase, senderReset, sAll, h1, h2, h3, h4, h5, h6, h7, h8, h15, h24, h25, h26, h27, h28, h29, h34, head_of hx26, hF, hC]
            have hse37 := eq_of_beq h34
            refine ON Z Z Z <| FA Z tyF_impl_Sender_5 Z <| ON Z Z Z <| LD (i := 0) Z tyP_int Z Z Z <| ON Z Z Z <| rw_neq Z Z Z <| ON Z Z Z <| MV Z Z <| ?_
            refine rw_caseN (j := 232) Z (fun h35 => ?_) (fun h35 => ?_)
            · refine ON Z Z Z <| FA Z tyF_impl_Sender_5 Z <| ON Z Z Z <| LD (i := 0) Z tyP_int Z Z Z <| ON Z Z Z <| FA Z tyF_impl_Sender_1 Z <| ON Z Z Z <| FA Z tyF_impl_Ring_2 Z <| ON Z Z Z <| LD (i := 0) Z tyP_int Z Z Z <| ON Z Z Z <| rw_neq Z Z Z <| ON Z Z Z <| PT Z Z Z Z <| PF Z Z Z Z <| ND <| ?_
              refine gw_condN Z (fun h36 => ?_) (fun h36 => ?_)
              · refine SQ <| RG <| AS Z Z <| ND <| RT Try.func25 Z Z <| ?_
                simp only [take_all hn24] at *
                have hF : (x.flight.all fun r => !decide (x.sent < r.high)) = true := by rw [hJ1, hn31]; rfl
                have hC : (x.acked.all fun r => !decide (x.sent < r.high)) = true := by rw [hJ2, hn36]; rfl
                simp [isSenderS, senderBase, senderReset, sAll, h1, h2, h3, h4, h5, h6, h7, h8, h15, h24, h25, h26, h27, h28, h29, hse37, h35, h36, head_of hx26, hF, hC]
              refine SK <| SQ <| gw_draw' [dd 0, dd 1, dd 2, dd 3] [4, 5] mixed Z (FD Z) (ts := [_, _]) Z <| DT Z Z (fun K hk => FA Z tyF_impl_Sender_0 Z hk) <| DT Z Z (fun K hk => LD (i := 0) Z tyP_int Z Z Z hk) <| DT Z Z (fun K hk => LS (i := 0) [_, _, _, _, _, _, _, _, _, _, _, _] Z tyS_impl_Sender Z Z Z Z hk) <| DT Z Z (fun K hk => CV1 Z fun_spec_l9State Z (fun w hs => spec_l9State (rdSender_mk (hA0.s Pl.keeps hs) (hA1.s Pl.keeps hs) (hA2.s Pl.keeps hs) (hA3.s Pl.keeps hs))) hk) <| dw_nil <| ?_
              refine EQ1 Z Z Z <| AS Z Z <| ND <| RT Try.func25 Z Z <| ?_
              simp only [take_all hn24] at *
              have hF : (x.flight.all fun r => !decide (x.sent < r.high)) = true := by rw [hJ1, hn31]; rfl
              have hC : (x.acked.all fun r => !decide (x.sent < r.high)) = true := by rw [hJ2, hn36]; rfl
              simp [isSenderS, senderBase, senderReset, sAll, h1, h2, h3, h4, h5, h6, h7, h8, h15, h24, h25, h26, h27, h28, h29, hse37, h35, h36, head_of hx26, hF, hC]
            refine SKP Z <| ON Z Z Z <| PF Z Z Z Z <| PF Z Z Z Z <| ND <| CF Z Z <| SK <| SQ <| gw_draw' [dd 0, dd 1, dd 2, dd 3] [4, 5] mixed Z (FD Z) (ts := [_, _]) Z <| DT Z Z (fun K hk => FA Z tyF_impl_Sender_0 Z hk) <| DT Z Z (fun K hk => LD (i := 0) Z tyP_int Z Z Z hk) <| DT Z Z (fun K hk => LS (i := 0) [_, _, _, _, _, _, _, _, _, _, _, _] Z tyS_impl_Sender Z Z Z Z hk) <| DT Z Z (fun K hk => CV1 Z fun_spec_l9State Z (fun w hs => spec_l9State (rdSender_mk (hA0.s Pl.keeps hs) (hA1.s Pl.keeps hs) (hA2.s Pl.keeps hs) (hA3.s Pl.keeps hs))) hk) <| ?_
            refine dw_nil <| EQ1 Z Z Z <| AS Z Z <| ND <| RT Try.func25 Z Z <| ?_
            simp only [take_all hn24] at *
            have hF : (x.flight.all fun r => !decide (x.sent < r.high)) = true := by rw [hJ1, hn31]; rfl
            have hC : (x.acked.all fun r => !decide (x.sent < r.high)) = true := by rw [hJ2, hn36]; rfl
            simp [isSenderS, senderBase, senderReset, sAll, h1, h2, h3, h4, h5, h6, h7, h8, h15, h24, h25, h26, h27, h28, h29, hse37, h35, head_of hx26, hF, hC]
      refine DSK Z <| DT Z Z (fun K hk => ON Z Z Z (PF Z Z Z Z hk)) <| DT Z Z (fun K hk => PF Z Z Z Z hk) <| DM Z Z Z <| DT Z Z (fun K hk => ON Z Z Z (FA Z tyF_impl_Sender_4 Z hk)) <| DT Z Z (fun K hk => ON Z Z Z (LD (i := 0) Z tyP_S_impl_Range Z Z Z hk)) <| DT Z Z (fun K hk => ON Z Z Z (CV1 Z fun_spec_FirstGap Z (fun w hs => spec_FirstGap (hA3.s Pl.keeps hs) (by omega) _) hk)) <| ?_
      refine DT Z Z (fun K hk => ON Z Z Z (FA Z tyF_impl_Sender_1 Z hk)) <| DT Z Z (fun K hk => ON Z Z Z (FA Z tyF_impl_Ring_1 Z hk)) <| DT Z Z (fun K hk => ON Z Z Z (LD (i := 0) Z tyP_int Z Z Z hk)) <| dw_nil <| ON Z Z Z <| rw_neq Z Z Z <| PF Z Z Z Z <| MV Z Z <| ?_
      refine rw_caseN (j := 184) Z (fun h37 => ?_) (fun h37 => ?_)
      · refine SKP Z <| PT Z Z Z Z <| ND <| CT Z Z <| SQ <| RG <| AS Z Z <| ND <| RT Try.func25 Z Z <| ?_
        simp only [take_all hn24] at *
        simp [isSenderS, senderBase, senderReset, sAll, h1, h2, h3, h4, h5, h6, h7, h8, h15, h24, h25, h26, h37]
      refine ON Z Z Z <| FA Z tyF_impl_Sender_8 Z <| ON Z Z Z <| LD (i := 0) Z tyP_int Z Z Z <| ON Z Z Z <| rw_neq Z Z Z <| PF Z Z Z Z <| ND <| ?_
      refine gw_condN Z (fun h38 => ?_) (fun h38 => ?_)
      · refine SQ <| RG <| AS Z Z <| ND <| RT Try.func25 Z Z <| ?_
        simp only [take_all hn24] at *
        simp [isSenderS, senderBase, senderReset, sAll, h1, h2, h3, h4, h5, h6, h7, h8, h15, h24, h25, h26, h37, h38]
      refine SK <| SQ <| SQ <| RG <| AS Z Z <| ND <| BK <| ?_
      refine gw_loopC (α := Nat) (fun z_ => z_ ≤ x.flight.length ∧ x.flight.all (fun r => !decide (x.sent < r.high)) = (x.flight.drop z_).all (fun r => !decide (x.sent < r.high))) (fun z_ => x.flight.length - z_) (fun e z_ => (7, .int .i64 (z_ : Int)) :: e) 0 [(1, _)] (Sub.consE Z Z (Sub.cons (i := 1) Z (Sub.nil _))) ?_ ?_
      · exact ⟨Nat.zero_le _, rfl⟩
      · rintro i hI38 ih38
        try dsimp only
        obtain ⟨hle, hJ1⟩ := hI38
        refine SQ <| SQ <| RG <| MV Z Z <| FA Z tyF_impl_Sender_3 Z <| LD (i := 0) Z tyP_S_impl_Range Z Z Z <| rw_len Z tyE_S_impl_Range Z <| rw_lss Z Z Z <| ND <| ?_
        refine gw_cond Z (fun h39 => ?_) (fun h39 => ?_)
        · have hi39 := lt_of_dec h39
          obtain ⟨x40, hx40⟩ := get_of_lt hi39
          have hd40 := drop_cons hx40
          refine SK <| SQ <| BK <| SQ <| gw_draw' [dd 0, dd 1, dd 2, dd 3, dd 4, dd 5, dd 6, dd 7] [8] mixed Z (FD Z) (ts := [_]) Z <| DT Z Z (fun K hk => FA Z tyF_impl_Sender_3 Z hk) <| DT Z Z (fun K hk => LD (i := 0) Z tyP_S_impl_Range Z Z Z hk) <| DM Z Z Z <| ?_
          have hq41 := hA2.plain hx40
          refine DT Z Z (fun K hk => rw_indexAddr (i) Z tyE_S_impl_Range Z Z Z (hA2.some hi39) hi39 hk) <| DT Z Z (fun K hk => FX Z tyF_impl_Range_1 Z hk) <| DT Z Z (fun K hk => rw_loadX _ Z tyP_int Z (fun w hs => hq41.ld hs Z) hk) <| DT Z Z (fun K hk => FA Z tyF_impl_Sender_7 Z hk) <| DT Z Z (fun K hk => LD (i := 0) Z tyP_int Z Z Z hk) <| dw_nil <| rw_gtr Z Z Z <| ND <| ?_
          refine gw_cond Z (fun h40 => ?_) (fun h40 => ?_)
          · refine SQ <| RG <| AS Z Z <| ND <| RT Try.func25 Z Z <| ?_
            simp only [take_all hn24] at *
            simp [isSenderS, senderBase, senderReset, sAll, h1, h2, h3, h4, h5, h6, h7, h8, h15, h24, h25, h26, h37, h38, h40, hJ1, hd40]
          refine SK <| IB <| RG <| MV Z Z <| rw_add Z Z Z <| AS Z Z <| ND <| ?_
          refine gw_sub (Sub.consE (i := 7) Z (int_succ (by omega)) (Sub.cons (i := 1) Z (Sub.nil _))) (ih38 (i + 1) ?_ ?_)
          · exact ⟨by omega, by rw [hJ1, hd40]; simp [h40]⟩
          · show x.flight.length - (i + 1) < x.flight.length - i; omega
        have hn42 := nil_of_dec h39
        refine EX Z <| SQ <| SQ <| RG <| AS Z Z <| ND <| BK <| ?_
        refine gw_loopC (α := Nat) (fun z_ => z_ ≤ x.acked.length ∧ x.acked.all (fun r => !decide (x.sent < r.high)) = (x.acked.drop z_).all (fun r => !decide (x.sent < r.high))) (fun z_ => x.acked.length - z_) (fun e z_ => (8, .int .i64 (z_ : Int)) :: e) 0 [(1, _)] (Sub.consE Z Z (Sub.cons (i := 1) Z (Sub.nil _))) ?_ ?_
        · exact ⟨Nat.zero_le _, rfl⟩
        · rintro i hI43 ih43
          try dsimp only
          obtain ⟨hle, hJ2⟩ := hI43
          refine SQ <| SQ <| RG <| MV Z Z <| FA Z tyF_impl_Sender_4 Z <| LD (i := 0) Z tyP_S_impl_Range Z Z Z <| rw_len Z tyE_S_impl_Range Z <| rw_lss Z Z Z <| ND <| ?_
          refine gw_cond Z (fun h41 => ?_) (fun h41 => ?_)
          · have hi44 := lt_of_dec h41
            obtain ⟨x45, hx45⟩ := get_of_lt hi44
            have hd45 := drop_cons hx45
            refine SK <| SQ <| BK <| SQ <| gw_draw' [dd 0, dd 1, dd 2, dd 3, dd 4, dd 5, dd 6, dd 7] [8] mixed Z (FD Z) (ts := [_]) Z <| DT Z Z (fun K hk => FA Z tyF_impl_Sender_4 Z hk) <| DT Z Z (fun K hk => LD (i := 0) Z tyP_S_impl_Range Z Z Z hk) <| DM Z Z Z <| ?_
            have hq46 := hA3.plain hx45
            refine DT Z Z (fun K hk => rw_indexAddr (i) Z tyE_S_impl_Range Z Z Z (hA3.some hi44) hi44 hk) <| DT Z Z (fun K hk => FX Z tyF_impl_Range_1 Z hk) <| DT Z Z (fun K hk => rw_loadX _ Z tyP_int Z (fun w hs => hq46.ld hs Z) hk) <| DT Z Z (fun K hk => FA Z tyF_impl_Sender_7 Z hk) <| DT Z Z (fun K hk => LD (i := 0) Z tyP_int Z Z Z hk) <| dw_nil <| rw_gtr Z Z Z <| ND <| ?_
            refine gw_cond Z (fun h42 => ?_) (fun h42 => ?_)
            · refine SQ <| RG <| AS Z Z <| ND <| RT Try.func25 Z Z <| ?_
              simp only [take_all hn24] at *
              have hF : (x.flight.all fun r => !decide (x.sent < r.high)) = true := by rw [hJ1, hn42]; rfl
              simp [isSenderS, senderBase, senderReset, sAll, h1, h2, h3, h4, h5, h6, h7, h8, h15, h24, h25, h26, h37, h38, h42, hF, hJ2, hd45]
            refine SK <| IB <| RG <| MV Z Z <| rw_add Z Z Z <| AS Z Z <| ND <| ?_
            refine gw_sub (Sub.consE (i := 8) Z (int_succ (by omega)) (Sub.cons (i := 1) Z (Sub.nil _))) (ih43 (i + 1) ?_ ?_)
            · exact ⟨by omega, by rw [hJ2, hd45]; simp [h42]⟩
            · show x.acked.length - (i + 1) < x.acked.length - i; omega
          have hn47 := nil_of_dec h41
          refine EX Z <| SQ <| SQ <| RG <| FA Z tyF_impl_Sender_6 Z <| LD (i := 0) Z tyP_int Z Z Z <| EQ1 Z Z Z <| FA Z tyF_impl_Sender_5 Z <| LD (i := 0) Z tyP_int Z Z Z <| EQ1 Z Z Z <| rw_neqB (by kernel_rfl) Z Z Z <| MV Z Z <| ?_
          refine rw_caseN (j := 228) Z (fun h43 => ?_) (fun h43 => ?_)
          · refine SKP Z <| PT Z Z Z Z <| ND <| CT Z Z <| SQ <| RG <| AS Z Z <| ND <| RT Try.func25 Z Z <| ?_
            simp only [take_all hn24] at *
            have hF : (x.flight.all fun r => !decide (x.sent < r.high)) = true := by rw [hJ1, hn42]; rfl
            have hC : (x.acked.all fun r => !decide (x.sent < r.high)) = true := by rw [hJ2, hn47]; rfl
            simp [isSenderS, senderBase, senderReset, sAll, h1, h2, h3, h4, h5, h6, h7, h8, h15, h24, h25, h26, h37, h38, h43, hF, hC]
          have hse48 := eq_of_beq h43
          refine ON Z Z Z <| FA Z tyF_impl_Sender_5 Z <| ON Z Z Z <| LD (i := 0) Z tyP_int Z Z Z <| ON Z Z Z <| rw_neq Z Z Z <| ON Z Z Z <| MV Z Z <| ?_
          refine rw_caseN (j := 232) Z (fun h44 => ?_) (fun h44 => ?_)
          · refine ON Z Z Z <| FA Z tyF_impl_Sender_5 Z <| ON Z Z Z <| LD (i := 0) Z tyP_int Z Z Z <| ON Z Z Z <| FA Z tyF_impl_Sender_1 Z <| ON Z Z Z <| FA Z tyF_impl_Ring_2 Z <| ON Z Z Z <| LD (i := 0) Z tyP_int Z Z Z <| ON Z Z Z <| rw_neq Z Z Z <| ON Z Z Z <| PT Z Z Z Z <| PF Z Z Z Z <| ND <| ?_
            refine gw_condN Z (fun h45 => ?_) (fun h45 => ?_)
            · refine SQ <| RG <| AS Z Z <| ND <| RT Try.func25 Z Z <| ?_
              simp only [take_all hn24] at *
              have hF : (x.flight.all fun r => !decide (x.sent < r.high)) = true := by rw [hJ1, hn42]; rfl
              have hC : (x.acked.all fun r => !decide (x.sent < r.high)) = true := by rw [hJ2, hn47]; rfl
              simp [isSenderS, senderBase, senderReset, sAll, h1, h2, h3, h4, h5, h6, h7, h8, h15, h24, h25, h26, h37, h38, hse48, h44, h45, hF, hC]
            refine SK <| SQ <| gw_draw' [dd 0, dd 1, dd 2, dd 3] [4, 5] mixed Z (FD Z) (ts := [_, _]) Z <| DT Z Z (fun K hk => FA Z tyF_impl_Sender_0 Z hk) <| DT Z Z (fun K hk => LD (i := 0) Z tyP_int Z Z Z hk) <| DT Z Z (fun K hk => LS (i := 0) [_, _, _, _, _, _, _, _, _, _, _, _] Z tyS_impl_Sender Z Z Z Z hk) <| DT Z Z (fun K hk => CV1 Z fun_spec_l9State Z (fun w hs => spec_l9State (rdSender_mk (hA0.s Pl.keeps hs) (hA1.s Pl.keeps hs) (hA2.s Pl.keeps hs) (hA3.s Pl.keeps hs))) hk) <| dw_nil <| ?_
            refine EQ1 Z Z Z <| AS Z Z <| ND <| RT Try.func25 Z Z <| ?_
            simp only [take_all hn24] at *
            have hF : (x.flight.all fun r => !decide (x.sent < r.high)) = true := by rw [hJ1, hn42]; rfl
            have hC : (x.acked.all fun r => !decide (x.sent < r.high)) = true := by rw [hJ2, hn47]; rfl
            simp [isSenderS, senderBase, senderReset, sAll, h1, h2, h3, h4, h5, h6, h7, h8, h15, h24, h25, h26, h37, h38, hse48, h44, h45, hF, hC]
          refine SKP Z <| ON Z Z Z <| PF Z Z Z Z <| PF Z Z Z Z <| ND <| CF Z Z <| SK <| SQ <| gw_draw' [dd 0, dd 1, dd 2, dd 3] [4, 5] mixed Z (FD Z) (ts := [_, _]) Z <| DT Z Z (fun K hk => FA Z tyF_impl_Sender_0 Z hk) <| DT Z Z (fun K hk => LD (i := 0) Z tyP_int Z Z Z hk) <| DT Z Z (fun K hk => LS (i := 0) [_, _, _, _, _, _, _, _, _, _, _, _] Z tyS_impl_Sender Z Z Z Z hk) <| DT Z Z (fun K hk => CV1 Z fun_spec_l9State Z (fun w hs => spec_l9State (rdSender_mk (hA0.s Pl.keeps hs) (hA1.s Pl.keeps hs) (hA2.s Pl.keeps hs) (hA3.s Pl.keeps hs))) hk) <| ?_
          refine dw_nil <| EQ1 Z Z Z <| AS Z Z <| ND <| RT Try.func25 Z Z <| ?_
          simp only [take_all hn24] at *
          have hF : (x.flight.all fun r => !decide (x.sent < r.high)) = true := by rw [hJ1, hn42]; rfl
          have hC : (x.acked.all fun r => !decide (x.sent < r.high)) = true := by rw [hJ2, hn47]; rfl
          simp [isSenderS, senderBase, senderReset, sAll, h1, h2, h3, h4, h5, h6, h7, h8, h15, h24, h25, h26, h37, h38, hse48, h44, hF, hC]

theorem spec_l8Copy {w : World} {cs : List Value} {x : Ring} (hv : RdRing w cs x) (hb : x.le 1048576) : CN Try.prog 52 [.agg cs.toArray] w (OwV OwRing x) := by
  obtain ⟨v0, rfl, k0⟩ := hv
  obtain ⟨A0, c0, rfl, hA0⟩ := k0
  have hb0 : x.cells.length ≤ 1048576 := hb
  refine cn_of Try.func52 Z Z Z <| SQ <| RG <| BX [_, _, _, _] Z Z Z <| fun b1 => AL Z tyZ_impl_Ring <| fun b2 => ND <| SQ <| gw_draw' [dd 0, dd 1, dd 2, dd 3, dd 4, dd 5, dd 7, dd 8, (6, .add), (9, .add)] [10, 11] mixed Z (FD Z) (ts := [_, _]) Z <| DT Z Z (fun K hk => FA Z tyF_impl_Ring_0 Z hk) <| DT Z Z (fun K hk => LD (i := 1) Z tyP_int Z Z Z hk) <| DT Z Z (fun K hk => FA Z tyF_impl_Ring_1 Z hk) <| DT Z Z (fun K hk => LD (i := 1) Z tyP_int Z Z Z hk) <| ?_
  refine DT Z Z (fun K hk => FA Z tyF_impl_Ring_2 Z hk) <| DT Z Z (fun K hk => LD (i := 1) Z tyP_int Z Z Z hk) <| DT Z Z (fun K hk => FA Z tyF_impl_Ring_3 Z hk) <| DT Z Z (fun K hk => LD (i := 1) Z tyP_S_int Z Z Z hk) <| DA Z Z (fun K hk => rw_slice0D Z tyM_S_int (PlO intC) hk) <| fun v1 ch1 how1 => ?_
  obtain ⟨how1, rfl⟩ := how1
  refine DA Z Z (fun K hk => rw_appendP Z tyM_S_int eInt (fun _ => Z) Z Z how1 (fun w hs => hA0.sat Pl.keeps hs) (.refl _) (by first | omega | (simp; omega)) hk) <| fun v2 ch2 how2 => ?_
  obtain ⟨R3, rc3, rfl, hR3, hrd3⟩ := (OwA.s (l := x.cells) how2).shape eInt
  refine dw_nil <| rw_build [_, _, _, _] Z tyB_impl_Ring tyZ_impl_Ring Z Z <| ST (i := 0) [_, _, _, _] [_, _, _, _] tyS_impl_Ring.sz Z Z Z Z Z Z Z Z <| ND <| ?_
  refine ret_cnP (ch := ch2) (G := ch2 ++ ([])) (F' := []) Try.func52 (res1 Try.func52 Z (rv_s (i := 0) [_, _, _, _] tyS_impl_Ring Z Z Z Z)) ?_ ?_ ?_
  · exact ⟨_, rfl, _, _, rfl, (OwA.s (l := x.cells) how2), rfl⟩
  · exact (pg PR PR)
  · simp only []

set_option maxHeartbeats 4000000 in
theorem spec_l9Copy {w : World} {cs : List Value} {x : Sender} (hv : RdSender w cs x) (hb : x.le 1048576) : CN Try.prog 24 [.agg cs.toArray] w (OwV OwSender x) := by
  obtain ⟨v0, v1, v2, v3, rfl, k0, k1, k2, k3⟩ := hv
  obtain ⟨A0, c0, rfl, hA0⟩ := k0
  obtain ⟨A1, c1, rfl, hA1⟩ := k1
  obtain ⟨A2, c2, rfl, hA2⟩ := k2
  obtain ⟨A3, c3, rfl, hA3⟩ := k3
  obtain ⟨hb0, hb1, hb2, hb3⟩ := hb
  refine cn_of Try.func24 Z Z Z <| SQ <| RG <| BX [_, _, _, _, _, _, _, _, _, _, _, _] Z Z Z <| fun b1 => AL Z tyZ_impl_Sender <| fun b2 => ND <| SQ <| gw_draw' [dd 0, dd 1, dd 2, dd 3, dd 5, dd 6, dd 8, dd 9, dd 11, dd 12, dd 14, dd 15, dd 16, dd 17, dd 18, dd 19, dd 20, dd 21, (4, .add), (7, .add), (10, .add), (13, .add)] [22, 23] mixed Z (FD Z) (ts := [_, _]) Z <| DT Z Z (fun K hk => FA Z tyF_impl_Sender_0 Z hk) <| DT Z Z (fun K hk => LD (i := 1) Z tyP_int Z Z Z hk) <| ?_
  refine DT Z Z (fun K hk => FA Z tyF_impl_Sender_1 Z hk) <| DT Z Z (fun K hk => LS (i := 1) [_, _, _, _] Z tyS_impl_Ring Z Z Z Z hk) <| DT Z Z (fun K hk => FA Z tyF_impl_Sender_2 Z hk) <| DT Z Z (fun K hk => LD (i := 1) Z tyP_S_impl_Range Z Z Z hk) <| DT Z Z (fun K hk => FA Z tyF_impl_Sender_3 Z hk) <| DT Z Z (fun K hk => LD (i := 1) Z tyP_S_impl_Range Z Z Z hk) <| DT Z Z (fun K hk => FA Z tyF_impl_Sender_4 Z hk) <| ?_
  refine DT Z Z (fun K hk => LD (i := 1) Z tyP_S_impl_Range Z Z Z hk) <| DT Z Z (fun K hk => FA Z tyF_impl_Sender_5 Z hk) <| DT Z Z (fun K hk => LD (i := 1) Z tyP_int Z Z Z hk) <| DT Z Z (fun K hk => FA Z tyF_impl_Sender_6 Z hk) <| DT Z Z (fun K hk => LD (i := 1) Z tyP_int Z Z Z hk) <| DT Z Z (fun K hk => FA Z tyF_impl_Sender_7 Z hk) <| DT Z Z (fun K hk => LD (i := 1) Z tyP_int Z Z Z hk) <| DT Z Z (fun K hk => FA Z tyF_impl_Sender_8 Z hk) <| ?_
  refine DT Z Z (fun K hk => LD (i := 1) Z tyP_int Z Z Z hk) <| DA Z Z (fun K hk => CN1 Z fun_spec_l8Copy Z (fun w hs => spec_l8Copy ⟨_, Z, (hA0.s Pl.keeps hs)⟩ (show _ ≤ _ from hb0)) hk) <| fun vv1 ch1 how1 => ?_
  obtain ⟨cs1, rfl, v1_0, c1_0, rfl, h1_0, rfl⟩ := how1
  obtain ⟨R1_0, b1_0, rfl, hR1_0, hrd1_0⟩ := h1_0.shape eInt
  refine DA Z Z (fun K hk => CN1 Z fun_spec_l3Copy Z (fun w hs => spec_l3Copy (hA1.s Pl.keeps hs) (by omega)) hk) <| fun v2 ch2 how2 => ?_
  obtain ⟨R3, rc3, rfl, hR3, hrd3⟩ := (OwA.s (l := x.pending) how2).shape eRange
  refine DA Z Z (fun K hk => CN1 Z fun_spec_l3Copy Z (fun w hs => spec_l3Copy (hA2.s Pl.keeps hs) (by omega)) hk) <| fun v4 ch4 how4 => ?_
  obtain ⟨R5, rc5, rfl, hR5, hrd5⟩ := (OwA.s (l := x.flight) how4).shape eRange
  refine DA Z Z (fun K hk => CN1 Z fun_spec_l3Copy Z (fun w hs => spec_l3Copy (hA3.s Pl.keeps hs) (by omega)) hk) <| fun v6 ch6 how6 => ?_
  obtain ⟨R7, rc7, rfl, hR7, hrd7⟩ := (OwA.s (l := x.acked) how6).shape eRange
  refine dw_nil <| rw_build [_, _, _, _, _, _, _, _, _, _, _, _] Z tyB_impl_Sender tyZ_impl_Sender Z Z <| rw_storeN (i := 0) [_, _, _, _, _, _, _, _, _, _, _, _] [_, _, _, _, _, _, _, _, _, _, _, _] [_, _] tyS_impl_Sender.sz Z Z Z Z Z Z Z Z Z <| ND <| ?_
  refine ret_cnP (ch := ch1 ++ (ch2 ++ (ch4 ++ (ch6)))) (G := ch1 ++ (ch2 ++ (ch4 ++ (ch6 ++ ([]))))) (F' := []) Try.func24 (res1 Try.func24 Z (rv_s (i := 0) [_, _, _, _, _, _, _, _, _, _, _, _] tyS_impl_Sender Z Z Z Z)) ?_ ?_ ?_
  · exact ⟨_, rfl, _, _, _, _, _, _, _, _, rfl, h1_0, (OwA.s (l := x.pending) how2), (OwA.s (l := x.flight) how4), (OwA.s (l := x.acked) how6), rfl⟩
  · exact (pg (pp (pp (pp PR))) (pg (pp (pp PR)) (pg (pp PR) (pg PR PR))))
  · simp only [List.append_assoc]

theorem spec_RoomOf {w : World} {cs : List Value} {x : Ring} (hv : RdRing w cs x) (hb : x.le 1048576) : CV Try.prog 61 [.agg cs.toArray] w (.int .i64 (roomOf x)) := by
  obtain ⟨v0, rfl, k0⟩ := hv
  obtain ⟨A0, c0, rfl, hA0⟩ := k0
  have hb0 : x.cells.length ≤ 1048576 := hb
  refine cv_of Try.func61 Z Z Z <| SQ <| RG <| BX [_, _, _, _] Z Z Z <| fun b1 => AS Z Z <| ND <| SQ <| SQ <| RG <| LS (i := 0) [_, _, _, _] Z tyS_impl_Ring Z Z Z Z <| CV1 Z fun_spec_IsRing Z (fun w hs => spec_IsRing ⟨_, Z, (hA0.s Pl.keeps hs)⟩ (show _ ≤ _ from hb0)) <| NT Z Z <| ND <| ?_
  refine gw_condN Z (fun h1 => ?_) (fun h1 => ?_)
  · refine SQ <| RG <| AS Z Z <| ND <| RT Try.func61 Z Z <| ?_
    simp [roomOf, h1]
  refine SK <| SQ <| RG <| FA Z tyF_impl_Ring_0 Z <| LD (i := 0) Z tyP_int Z Z Z <| FA Z tyF_impl_Ring_2 Z <| LD (i := 0) Z tyP_int Z Z Z <| FA Z tyF_impl_Ring_1 Z <| LD (i := 0) Z tyP_int Z Z Z <| rw_sub Z Z Z <| rw_sub Z Z Z <| FA Z tyF_impl_Ring_2 Z <| LD (i := 0) Z tyP_int Z Z Z <| rw_sub Z Z Z <| rw_min Z Z Z <| AS Z Z <| ND <| RT Try.func61 Z Z <| ?_
  simp [roomOf, h1]

theorem spec_WriteRing {w : World} {cs : List Value} {x : Ring} (hv : RdRing w cs x) (hb : x.le 1048576) {D : List UInt8} (hD : D.length ≤ 1000) : CN Try.prog 26 [.agg cs.toArray, .string (mkS D)] w (fun v ch => ∃ cs' L, v = .tuple #[.agg cs'.toArray, .int .i64 (min (roomOf x) (D.length : Int))] ∧ OwRing cs' { x with fin := w64 (x.fin + (min (roomOf x) (D.length : Int))), cells := L } ch ∧ L.length = x.cells.length) := by
  obtain ⟨v0, rfl, k0⟩ := hv
  obtain ⟨A0, c0, rfl, hA0⟩ := k0
  have hb0 : x.cells.length ≤ 1048576 := hb
  refine cn_of Try.func26 Z Z Z <| SQ <| RG <| BX [_, _, _, _] Z Z Z <| fun b1 => AL Z tyZ_impl_Ring <| fun b2 => AS Z Z <| ND <| SQ <| RG <| LS (i := 1) [_, _, _, _] Z tyS_impl_Ring Z Z Z Z <| CN1 Z fun_spec_l8Copy Z (fun w hs => spec_l8Copy ⟨_, Z, (hA0.s Pl.keeps hs)⟩ (show _ ≤ _ from hb0)) <| fun vv1 ch1 how1 => ?_
  obtain ⟨cs1, rfl, v1_0, c1_0, rfl, h1_0, rfl⟩ := how1
  obtain ⟨R1_0, b1_0, rfl, hR1_0, hrd1_0⟩ := h1_0.shape eInt
  refine AL Z tyZ_impl_Ring <| fun b3 => ST (i := 0) [_, _, _, _] [_, _, _, _] tyS_impl_Ring.sz Z Z Z Z Z Z Z Z <| ND <| SQ <| RG <| LS (i := 2) [_, _, _, _] Z tyS_impl_Ring Z Z Z Z <| CV1 Z fun_spec_RoomOf Z (fun w hs => spec_RoomOf ⟨_, Z, (hA0.s Pl.keeps hs)⟩ (show _ ≤ _ from hb0)) <| MV Z Z <| rw_lenL Z tyStr_string Z <| rw_min Z Z Z <| AS Z Z <| ND <| SQ <| SQ <| RG <| AS Z Z <| ND <| BK <| ?_
  refine gw_loopX (α := Nat × List Int × List Ck) (fun z_ => z_.1 ≤ D.length ∧ z_.2.1.length = x.cells.length ∧ OwS 3 1 (PlO intC) (.slice R1_0 x.cells.length b1_0) z_.2.1 z_.2.2) (fun z_ => D.length - z_.1) (fun e z_ => (8, .int .i64 (z_.1 : Int)) :: e) (fun B _ => B) (fun F z_ => z_.2.2 ++ ([])) (0, x.cells, ch1) [(1, _), (2, _), (4, _), (5, _), (6, _), (7, _)] (Sub.consE Z Z (Sub.cons (i := 1) Z (Sub.cons (i := 2) Z (Sub.cons (i := 4) Z (Sub.cons (i := 5) Z (Sub.cons (i := 6) Z (Sub.cons (i := 7) Z (Sub.nil _)))))))) Z Z ?_ ?_
  · exact ⟨Nat.zero_le _, rfl, h1_0⟩
  · rintro ⟨i, L, ch⟩ hI2 ih2
    dsimp only at hI2
    dsimp only
    obtain ⟨hle, hL, hO⟩ := hI2
    refine SQ <| SQ <| RG <| MV Z Z <| MV Z Z <| rw_lss Z Z Z <| ND <| ?_
    refine gw_cond Z (fun h1 => ?_) (fun h1 => ?_)
    · obtain ⟨k3, hk3, hkl3⟩ := ring_at h1
      have hiD3 : i < D.length := by have := of_decide_eq_true h1; omega
      obtain ⟨y3, hy3⟩ := get_of_lt hiD3
      refine SK <| SQ <| BK <| gw_draw' [dd 0, dd 1, dd 2, dd 3, dd 4, dd 5, dd 6, dd 7, dd 8, dd 9, dd 10, dd 11, dd 12] [13, 14] mixed Z (FD Z) (ts := [_, _]) Z <| DT Z Z (fun K hk => FA Z tyF_impl_Ring_3 Z hk) <| DT Z Z (fun K hk => LD (i := 0) Z tyP_S_int Z Z Z hk) <| DT Z Z (fun K hk => FA Z tyF_impl_Ring_2 Z hk) <| DT Z Z (fun K hk => LD (i := 2) Z tyP_int Z Z Z hk) <| DM Z Z Z <| DT Z Z (fun K hk => rw_add Z Z Z hk) <| ?_
      refine DT Z Z (fun K hk => FA Z tyF_impl_Ring_0 Z hk) <| DT Z Z (fun K hk => LD (i := 2) Z tyP_int Z Z Z hk) <| DT Z Z (fun K hk => rw_rem Z Z Z (ring_ne h1) hk) <| DM Z Z Z <| DM Z Z Z <| DT Z Z (fun K hk => rw_idxL i Z tyStr_string Z Z Z hy3 hk) <| DT Z Z (fun K hk => rw_convI Z tyCI_uint8_int Z hk) <| dw_nil <| rw_indexAddr (k3) Z tyE_S_int Z Z hk3 (hR1_0 (Nat.zero_lt_of_lt hkl3)) hkl3 <| rw_storeOw (F' := []) tyP_int.sz hO (by rw [hL]; exact hkl3) Z Z ((pg PR PR)) <| fun ch4 how4 => ?_
      refine ND <| IB <| RG <| MV Z Z <| rw_add Z Z Z <| AS Z Z <| ND <| ?_
      refine gw_sub (Sub.consE (i := 8) Z (int_succ (by have := of_decide_eq_true h1; omega)) (Sub.cons (i := 1) Z (Sub.cons (i := 2) Z (Sub.cons (i := 4) Z (Sub.cons (i := 5) Z (Sub.cons (i := 6) Z (Sub.cons (i := 7) Z (Sub.nil _)))))))) (ih2 (i + 1, (L.set k3 (IntKind.i64.wrap ((y3.toNat : Nat) : Int))), ch4) ?_ ?_)
      · exact ⟨by have := hiD3; omega, by rw [List.length_set]; exact hL, how4⟩
      · show D.length - (i + 1) < D.length - i; have := hiD3; omega
    refine EX Z <| SQ <| RG <| FA Z tyF_impl_Ring_2 Z <| LD (i := 2) Z tyP_int Z Z Z <| MV Z Z <| rw_add Z Z Z <| FA Z tyF_impl_Ring_2 Z <| ST (i := 0) [_] [_, _, _, _] tyP_int.sz Z Z Z Z Z Z Z Z <| ND <| SQ <| RG <| LS (i := 0) [_, _, _, _] Z tyS_impl_Ring Z Z Z Z <| MV Z Z <| ST (i := 1) [_, _, _, _] [_, _, _, _] tyS_impl_Ring.sz Z Z Z Z Z Z Z Z <| AS Z Z <| ND <| ?_
    refine ret_cn ch Try.func26 (res2 Try.func26 Z (rv_s (i := 1) [_, _, _, _] tyS_impl_Ring Z Z Z Z) (rv_tmp Z)) ?_ ?_
    · exact ⟨_, L, rfl, ⟨_, _, rfl, hO, rfl⟩, hL⟩
    · exact (List.sublist_append_left _ _).trans (List.sublist_append_right _ _)

theorem spec_NewRing {w : World} (r : Int) (n : Nat) (hn : r = (n : Int)) (hr : isRingSize (n : Int) = true) (h64 : n ≤ 64) : CN Try.prog 23 [.int .i64 r] w (fun v ch => ∃ sv, v = .tuple #[.agg (Ring.row (newRing n) sv).toArray, .bool true] ∧ OwS 3 1 (PlO intC) sv (List.replicate n 0) ch) := by
  subst hn
  refine cn_of Try.func23 Z Z Z <| SQ <| RG <| AL Z tyZ_impl_Ring <| fun b1 => AS Z Z <| ND <| SQ <| SQ <| RG <| MV Z Z <| CV1 Z fun_spec_l8Power Z (fun w hs => spec_l8Power _ w) <| NT Z Z <| ND <| CF Z (not_T hr) <| SK <| SQ <| RG <| MV Z Z <| MV Z Z <| rw_makeO (f := intC) (a := (0 : Int)) Z tyM_S_int Z Z (by omega) <| fun vm1 ch1 how1 => ?_
  obtain ⟨R1, rc1, rfl, hR1, hrd1⟩ := (OwA.s how1).shape eInt
  refine rw_build [_, _, _, _] Z tyB_impl_Ring tyZ_impl_Ring Z Z <| ST (i := 0) [_, _, _, _] [_, _, _, _] tyS_impl_Ring.sz Z Z Z Z Z Z Z Z <| AS Z Z <| ND <| ?_
  refine ret_cn ch1 Try.func23 (res2 Try.func23 Z (rv_s (i := 0) [_, _, _, _] tyS_impl_Ring Z Z Z Z) (rv_tmp Z)) ?_ ?_
  · exact ⟨_, rfl, (OwA.s how1)⟩
  · exact (List.sublist_append_left _ _).trans (List.sublist_append_right _ _)

theorem spec_NewSender {w : World} (r : Int) (n : Nat) (hn : r = (n : Int)) (hr : isRingSize (n : Int) = true) (h64 : n ≤ 64) : CN Try.prog 8 [.int .i64 r] w (fun v ch => ∃ sv, v = .tuple #[.agg (Sender.row (newSender n) sv (.slice none 0 0) (.slice none 0 0) (.slice none 0 0)).toArray, .bool true] ∧ OwS 3 1 (PlO intC) sv (List.replicate n 0) ch) := by
  refine cn_of Try.func8 Z Z Z <| SQ <| RG <| AL Z tyZ_impl_Sender <| fun b1 => AS Z Z <| ND <| SQ <| RG <| MV Z Z <| CN1 Z fun_spec_NewRing Z (fun w hs => spec_NewRing _ n hn hr h64) <| fun vv1 ch1 how1 => ?_
  obtain ⟨sv1, rfl, hO1⟩ := how1
  obtain ⟨R1, rc1, rfl, hR1, hrd1⟩ := hO1.shape eInt
  refine MV Z Z <| XT Z Z Z <| XT Z Z Z <| AL Z tyZ_impl_Ring <| fun b2 => ST (i := 0) [_, _, _, _] [_, _, _, _] tyS_impl_Ring.sz Z Z Z Z Z Z Z Z <| AS Z Z <| ND <| SQ <| SQ <| RG <| MV Z Z <| NT Z Z <| ND <| CF Z Z <| SK <| SQ <| RG <| LS (i := 0) [_, _, _, _] Z tyS_impl_Ring Z Z Z Z <| rw_build [_, _, _, _, _, _, _, _, _, _, _, _] Z tyB_impl_Sender tyZ_impl_Sender Z Z <| rw_storeN (i := 1) [_, _, _, _, _, _, _, _, _, _, _, _] [_, _, _, _, _, _, _, _, _, _, _, _] [_, _] tyS_impl_Sender.sz Z Z Z Z Z Z Z Z Z <| ?_
  refine AS Z Z <| ND <| ?_
  refine ret_cn ch1 Try.func8 (res2 Try.func8 Z (rv_s (i := 1) [_, _, _, _, _, _, _, _, _, _, _, _] tyS_impl_Sender Z Z Z Z) (rv_tmp Z)) ?_ ?_
  · exact ⟨_, rfl, hO1⟩
  · exact (List.sublist_append_left _ _).trans (List.sublist_append_right _ _)

theorem impl_NewRing {w : World} (r : Int) (n : Nat) (hn : r = (n : Int)) (hr : isRingSize (n : Int) = true) (h64 : n ≤ 64) : CN Try.prog 18 [.int .i64 r] w (fun v ch => ∃ sv, v = .tuple #[.agg (Ring.row (newRing n) sv).toArray, .bool true] ∧ OwS 3 1 (PlO intC) sv (List.replicate n 0) ch) := by
  subst hn
  refine cn_of Try.func18 Z Z Z <| SQ <| RG <| AL Z tyZ_impl_Ring <| fun b1 => AS Z Z <| ND <| SQ <| SQ <| RG <| MV Z Z <| CV1 Z fun_impl_isRingSize Z (fun w hs => impl_isRingSize _ w) <| NT Z Z <| ND <| CF Z (not_T hr) <| SK <| SQ <| RG <| MV Z Z <| MV Z Z <| rw_makeO (f := intC) (a := (0 : Int)) Z tyM_S_int Z Z (by omega) <| fun vm1 ch1 how1 => ?_
  obtain ⟨R1, rc1, rfl, hR1, hrd1⟩ := (OwA.s how1).shape eInt
  refine rw_build [_, _, _, _] Z tyB_impl_Ring tyZ_impl_Ring Z Z <| ST (i := 0) [_, _, _, _] [_, _, _, _] tyS_impl_Ring.sz Z Z Z Z Z Z Z Z <| AS Z Z <| ND <| ?_
  refine ret_cn ch1 Try.func18 (res2 Try.func18 Z (rv_s (i := 0) [_, _, _, _] tyS_impl_Ring Z Z Z Z) (rv_tmp Z)) ?_ ?_
  · exact ⟨_, rfl, (OwA.s how1)⟩
  · exact (List.sublist_append_left _ _).trans (List.sublist_append_right _ _)

theorem impl_NewSender {w : World} (r : Int) (n : Nat) (hn : r = (n : Int)) (hr : isRingSize (n : Int) = true) (h64 : n ≤ 64) : CN Try.prog 5 [.int .i64 r] w (fun v ch => ∃ sv, v = .tuple #[.agg (Sender.row (newSender n) sv (.slice none 0 0) (.slice none 0 0) (.slice none 0 0)).toArray, .bool true] ∧ OwS 3 1 (PlO intC) sv (List.replicate n 0) ch) := by
  refine cn_of Try.func5 Z Z Z <| SQ <| RG <| AL Z tyZ_impl_Sender <| fun b1 => AS Z Z <| ND <| SQ <| RG <| MV Z Z <| CN1 Z fun_impl_NewRing Z (fun w hs => impl_NewRing _ n hn hr h64) <| fun vv1 ch1 how1 => ?_
  obtain ⟨sv1, rfl, hO1⟩ := how1
  obtain ⟨R1, rc1, rfl, hR1, hrd1⟩ := hO1.shape eInt
  refine MV Z Z <| XT Z Z Z <| XT Z Z Z <| AL Z tyZ_impl_Ring <| fun b2 => ST (i := 0) [_, _, _, _] [_, _, _, _] tyS_impl_Ring.sz Z Z Z Z Z Z Z Z <| AS Z Z <| ND <| SQ <| SQ <| RG <| MV Z Z <| NT Z Z <| ND <| CF Z Z <| SK <| SQ <| RG <| LS (i := 0) [_, _, _, _] Z tyS_impl_Ring Z Z Z Z <| rw_build [_, _, _, _, _, _, _, _, _, _, _, _] Z tyB_impl_Sender tyZ_impl_Sender Z Z <| rw_storeN (i := 1) [_, _, _, _, _, _, _, _, _, _, _, _] [_, _, _, _, _, _, _, _, _, _, _, _] [_, _] tyS_impl_Sender.sz Z Z Z Z Z Z Z Z Z <| ?_
  refine AS Z Z <| ND <| ?_
  refine ret_cn ch1 Try.func5 (res2 Try.func5 Z (rv_s (i := 1) [_, _, _, _, _, _, _, _, _, _, _, _] tyS_impl_Sender Z Z Z Z) (rv_tmp Z)) ?_ ?_
  · exact ⟨_, rfl, hO1⟩
  · exact (List.sublist_append_left _ _).trans (List.sublist_append_right _ _)

theorem impl_NewReceiver (w : World) : CV Try.prog 11 [] w (.agg (Receiver.row newReceiver (.slice none 0 0)).toArray) := by
  refine cv_of Try.func11 Z Z Z <| SQ <| RG <| AL Z tyZ_impl_Receiver <| fun b1 => ND <| SQ <| RG <| rw_build [_, _, _, _, _, _] Z tyB_impl_Receiver tyZ_impl_Receiver Z Z <| ST (i := 0) [_, _, _, _, _, _] [_, _, _, _, _, _] tyS_impl_Receiver.sz Z Z Z Z Z Z Z Z <| ND <| ret_cv Try.func11 (res1 Try.func11 Z (rv_s (i := 0) [_, _, _, _, _, _] tyS_impl_Receiver Z Z Z Z)) <| ?_
  rfl
end Go.Proofs.Ytbhnekiclbfmgaa
namespace Go.Proofs.Ytbhnekiclbfmgaa
open SL Go.RowKit
set_option maxHeartbeats 2000000 in
set_option maxRecDepth 20000 in
theorem spec_WriteSender {w : World} {cs : List Value} {x : Sender} (hv : RdSender w cs x) (hx : x = newSender 16) {D : List UInt8} (hD : D.length ≤ 16) : CN Try.prog 9 [.agg cs.toArray, .string (mkS D)] w (fun v ch => ∃ cs' s' r, v = .tuple #[.agg cs'.toArray, r] ∧ OwSender cs' s' ch ∧ s'.ring.fin = (D.length : Int)) := by
  have hb : x.le 1048576 := s_le (D := D) (.inl hx) hD
  obtain ⟨v0, v1, v2, v3, rfl, k0, k1, k2, k3⟩ := hv
  obtain ⟨A0, c0, rfl, hA0⟩ := k0
  obtain ⟨A1, c1, rfl, hA1⟩ := k1
  obtain ⟨A2, c2, rfl, hA2⟩ := k2
  obtain ⟨A3, c3, rfl, hA3⟩ := k3
  obtain ⟨hb0, hb1, hb2, hb3⟩ := hb
  have hlp_ : x.pending.length = 0 := by subst hx; rfl
  refine cn_of Try.func9 Z Z Z <| SQ <| RG <| BX [_, _, _, _, _, _, _, _, _, _, _, _] Z Z Z <| fun b1 => AL Z tyZ_impl_Sender <| fun b2 => AS Z Z <| ND <| SQ <| RG <| LS (i := 1) [_, _, _, _, _, _, _, _, _, _, _, _] Z tyS_impl_Sender Z Z Z Z <| CN1 Z fun_spec_l9Copy Z (fun w hs => spec_l9Copy ⟨_, _, _, _, Z, (hA0.s Pl.keeps hs), (hA1.s Pl.keeps hs), (hA2.s Pl.keeps hs), (hA3.s Pl.keeps hs)⟩ ⟨hb0, hb1, hb2, hb3⟩) <| fun vv1 ch1 how1 => ?_
  obtain ⟨cs1, rfl, v1_0, v1_1, v1_2, v1_3, c1_0, c1_1, c1_2, c1_3, rfl, h1_0, h1_1, h1_2, h1_3, rfl⟩ := how1
  refine rw_F (F' := c1_0 ++ (c1_1 ++ (c1_2 ++ (c1_3 ++ ([]))))) (by simp only [aA]) <| ?_
  obtain ⟨R1_0, b1_0, rfl, hR1_0, hrd1_0⟩ := h1_0.shape eInt
  obtain ⟨R1_1, b1_1, rfl, hR1_1, hrd1_1⟩ := h1_1.shape eRange
  obtain ⟨R1_2, b1_2, rfl, hR1_2, hrd1_2⟩ := h1_2.shape eRange
  obtain ⟨R1_3, b1_3, rfl, hR1_3, hrd1_3⟩ := h1_3.shape eRange
  refine AL Z tyZ_impl_Sender <| fun b3 => rw_storeN (i := 0) [_, _, _, _, _, _, _, _, _, _, _, _] [_, _, _, _, _, _, _, _, _, _, _, _] [_, _, _] tyS_impl_Sender.sz Z Z Z Z Z Z Z Z Z <| ND <| SQ <| SQ <| RG <| LS (i := 2) [_, _, _, _, _, _, _, _, _, _, _, _] Z tyS_impl_Sender Z Z Z Z <| CV1 Z fun_spec_IsSender Z (fun w hs => spec_IsSender ⟨_, _, _, _, Z, (hA0.s Pl.keeps hs), (hA1.s Pl.keeps hs), (hA2.s Pl.keeps hs), (hA3.s Pl.keeps hs)⟩ ⟨hb0, hb1, hb2, hb3⟩) <| NT Z Z <| MV Z Z <| rw_lit (j := 14) Z (not_T (by rw [hx]; exact new16_okS)) <| ?_
  refine ON Z Z Z <| FA Z tyF_impl_Sender_0 Z <| ON Z Z Z <| LD (i := 2) Z tyP_int Z Z Z <| ON Z Z Z <| rw_gtr Z Z Z <| PF Z Z Z Z <| MV Z Z <| rw_lit (j := 19) Z (by rw [hx]; rfl) <| ON Z Z Z <| FA Z tyF_impl_Sender_5 Z <| ON Z Z Z <| LD (i := 2) Z tyP_int Z Z Z <| ON Z Z Z <| rw_neq Z Z Z <| PF Z Z Z Z <| ND <| CF Z (by rw [hx]; rfl) <| SK <| SQ <| RG <| FA Z tyF_impl_Sender_1 Z <| ?_
  refine LS (i := 2) [_, _, _, _] Z tyS_impl_Ring Z Z Z Z <| MV Z Z <| CN1 Z fun_spec_WriteRing Z (fun w hs => spec_WriteRing (x := x.ring) ⟨_, Z, (hA0.s Pl.keeps hs)⟩ hb0 (Nat.le_trans hD (by decide))) <| fun v2 ch2 how2 => ?_
  obtain ⟨cs2, L2, rfl, how2, hL2⟩ := how2
  obtain ⟨v2_0, ch2, rfl, h2_0, rfl⟩ := how2
  obtain ⟨R2_0, b2_0, rfl, hR2_0, hrd2_0⟩ := h2_0.shape eInt
  refine rw_F (F' := ch2 ++ (c1_0 ++ (c1_1 ++ (c1_2 ++ (c1_3 ++ ([])))))) (by simp only [aN]) <| MV Z Z <| XT Z Z Z <| XT Z Z Z <| AL Z tyZ_impl_Ring <| fun b4 => ST (i := 0) [_, _, _, _] [_, _, _, _] tyS_impl_Ring.sz Z Z Z Z Z Z Z Z <| AS Z Z <| ND <| SQ <| SQ <| RG <| MV Z Z <| rw_gtr Z Z Z <| ND <| ?_
  refine gw_cond Z (fun h1 => ?_) (fun h1 => ?_)
  · refine RG <| FA Z tyF_impl_Sender_2 Z <| LD (i := 3) Z tyP_S_impl_Range Z Z Z <| FA Z tyF_impl_Sender_1 Z <| FA Z tyF_impl_Ring_2 Z <| LD (i := 3) Z tyP_int Z Z Z <| FA Z tyF_impl_Ring_2 Z <| LD (i := 0) Z tyP_int Z Z Z <| rw_build [_, _] Z tyB_impl_Range tyZ_impl_Range Z Z <| CN1 Z fun_spec_AddRange Z (fun w hs => spec_AddRange (hA1.s Pl.keeps hs) (by omega) ⟨_, _⟩) <| fun v3 ch3 how3 => ?_
    obtain ⟨R3, rc3, rfl, hR3, hrd3⟩ := how3.shape eRange
    refine FA Z tyF_impl_Sender_2 Z <| rw_storeN (i := 1) [_] [_, _, _, _, _, _, _, _, _, _, _, _] [_, _, _, _] tyP_S_impl_Range.sz Z Z Z Z Z Z Z Z Z <| ND <| SQ <| RG <| LS (i := 0) [_, _, _, _] Z tyS_impl_Ring Z Z Z Z <| FA Z tyF_impl_Sender_1 Z <| rw_storeN (i := 1) [_, _, _, _] [_, _, _, _, _, _, _, _, _, _, _, _] [_, _, _, _] tyS_impl_Ring.sz Z Z Z Z Z Z Z Z Z <| ND <| SQ <| RG <| LS (i := 1) [_, _, _, _, _, _, _, _, _, _, _, _] Z tyS_impl_Sender Z Z Z Z <| MV Z Z <| ?_
    refine rw_storeN (i := 2) [_, _, _, _, _, _, _, _, _, _, _, _] [_, _, _, _, _, _, _, _, _, _, _, _] [_, _, _, _] tyS_impl_Sender.sz Z Z Z Z Z Z Z Z Z <| AS Z Z <| ND <| ?_
    refine gw_FP (pg (pp PR) (pg PR (pg (pp (pp PR)) (pg (pp (pp PR)) PR)))) (gw_F (F' := (ch2 ++ (ch3 ++ (c1_2 ++ (c1_3)))) ++ (c1_0 ++ (c1_1 ++ ([])))) (by simp only [aA, aN]) ?_)
    refine ret_cn (ch2 ++ (ch3 ++ (c1_2 ++ (c1_3)))) Try.func9 (res2 Try.func9 Z (rv_s (i := 2) [_, _, _, _, _, _, _, _, _, _, _, _] tyS_impl_Sender Z Z Z Z) (rv_tmp Z)) ?_ ?_
    · refine ⟨_, _, _, Z, owSender_mk h2_0 how3 h1_2 h1_3, ?_⟩
      exact wmin16 (x := x.ring) (by rw [hx]; rfl) hD
    · exact (List.sublist_append_left _ _).trans (List.sublist_append_right _ _)
  refine SK <| SQ <| RG <| LS (i := 0) [_, _, _, _] Z tyS_impl_Ring Z Z Z Z <| FA Z tyF_impl_Sender_1 Z <| rw_storeN (i := 1) [_, _, _, _] [_, _, _, _, _, _, _, _, _, _, _, _] [_, _, _, _] tyS_impl_Ring.sz Z Z Z Z Z Z Z Z Z <| ND <| SQ <| RG <| LS (i := 1) [_, _, _, _, _, _, _, _, _, _, _, _] Z tyS_impl_Sender Z Z Z Z <| MV Z Z <| rw_storeN (i := 2) [_, _, _, _, _, _, _, _, _, _, _, _] [_, _, _, _, _, _, _, _, _, _, _, _] [_, _, _, _] tyS_impl_Sender.sz Z Z Z Z Z Z Z Z Z <| AS Z Z <| ?_
  refine ND <| ?_
  refine gw_FP (pg PR (pg (pp PR) (pg (pp PR) (pg (pp PR) PR)))) (gw_F (F' := (ch2 ++ (c1_1 ++ (c1_2 ++ (c1_3)))) ++ (c1_0 ++ ([]))) (by simp only [aA, aN]) ?_)
  refine ret_cn (ch2 ++ (c1_1 ++ (c1_2 ++ (c1_3)))) Try.func9 (res2 Try.func9 Z (rv_s (i := 2) [_, _, _, _, _, _, _, _, _, _, _, _] tyS_impl_Sender Z Z Z Z) (rv_tmp Z)) ?_ ?_
  · refine ⟨_, _, _, Z, owSender_mk h2_0 h1_1 h1_2 h1_3, ?_⟩
    exact wmin16 (x := x.ring) (by rw [hx]; rfl) hD
  · exact (List.sublist_append_left _ _).trans (List.sublist_append_right _ _)
end Go.Proofs.Ytbhnekiclbfmgaa
namespace Go.Proofs.Ytbhnekiclbfmgaa
open SL Go.RowKit
theorem bits_Len64 {n : Nat} (hn_ : n ≤ 255) (w : World) : CN Try.prog 95 [.int .u64 (n : Int)] w (fun v ch => ∃ k : Int, v = .int .i64 k ∧ ch = []) := by
  refine cn_of Try.func95 Z Z Z <| SQ <| RG <| AS Z Z <| ND <| SQ <| SQ <| RG <| MV Z Z <| rw_geq Z Z Z <| ND <| CF Z (by rw [decide_eq_false_iff_not]; omega) <| SK <| SQ <| SQ <| RG <| MV Z Z <| rw_geq Z Z Z <| ND <| CF Z (by rw [decide_eq_false_iff_not]; omega) <| SK <| SQ <| SQ <| RG <| MV Z Z <| rw_geq Z Z Z <| ND <| CF Z (by rw [decide_eq_false_iff_not]; omega) <| SK <| SQ <| RG <| MV Z Z <| MV Z Z <| rw_convI Z tyCI_uint64_uint8 Z <| ?_
  refine rw_idxC n 256 Z tyStr_string Z Z (u8_nat (by omega)) (by kernel_rfl) (by omega) <| fun u_ => rw_convI Z tyCI_uint8_int Z <| rw_add Z Z Z <| AS Z Z <| ND <| ?_
  refine ret_cn [] Try.func95 (res1 Try.func95 Z (rv_tmp Z)) ?_ ?_
  · exact ⟨_, rfl, rfl⟩
  · simp

theorem bits_Len {n : Nat} (hn_ : n ≤ 255) (w : World) : CN Try.prog 83 [.int .u64 (n : Int)] w (fun v ch => ∃ k : Int, v = .int .i64 k ∧ ch = []) := by
  refine cn_of Try.func83 Z Z Z <| SQ <| RG <| AS Z Z <| ND <| SQ <| CF Z Z <| SK <| SQ <| RG <| MV Z Z <| CN1 Z fun_math_bits_Len64 Z (fun w hs => bits_Len64 (n := n) hn_ w) <| fun v1 ch1 how1 => ?_
  obtain ⟨k1, rfl, rfl⟩ := how1
  refine rw_F (F' := []) (by simp only [aN]) <| AS Z Z <| ND <| ?_
  refine ret_cn [] Try.func83 (res1 Try.func83 Z (rv_tmp Z)) ?_ ?_
  · exact ⟨_, rfl, rfl⟩
  · simp

theorem impl_InsertData_2 (x y : Chunk) (w : World) : CV Try.prog 75 [.agg x.cells.toArray, .agg y.cells.toArray] w (.int .i64 (w64 (x.offset - y.offset))) := by
  refine cv_of Try.func75 Z Z Z <| SQ <| RG <| BX [_, _] Z Z Z <| fun b1 => BX [_, _] Z Z Z <| fun b2 => AS Z Z <| ND <| SQ <| RG <| FA Z tyF_impl_Chunk_0 Z <| LD (i := 1) Z tyP_int Z Z Z <| FA Z tyF_impl_Chunk_0 Z <| LD (i := 0) Z tyP_int Z Z Z <| rw_sub Z Z Z <| AS Z Z <| ND <| RT Try.func75 Z Z <| ?_
  rfl

theorem slices_insertionSort {w : World} {v : Value} {l : List Chunk} (hv : RdS w 2 (Pl Chunk.cells) v l) (hb : l.length ≤ 1048576) (hs_ : SortedC l) : CV Try.prog 86 [v, .int .i64 0, .int .i64 (l.length : Int), (.func (.func 75) #[] #[])] w (.tuple #[]) := by
  obtain ⟨A, c, rfl, hA⟩ := hv
  refine cv_of Try.func86 Z Z Z <| SQ <| RG <| MV Z Z <| rw_add Z Z Z <| AS Z Z <| ND <| BK <| ?_
  refine gw_loopC (α := Nat) (fun z_ => 1 ≤ z_ ∧ (z_ ≤ l.length ∨ z_ = 1)) (fun z_ => l.length - z_) (fun e z_ => (8, .int .i64 (z_ : Int)) :: e) 1 [(0, _), (1, _), (2, _), (3, _)] (Sub.consE Z Z (Sub.cons (i := 0) Z (Sub.cons (i := 1) Z (Sub.cons (i := 2) Z (Sub.cons (i := 3) Z (Sub.nil _)))))) ?_ ?_
  · exact ⟨Nat.le_refl _, .inr rfl⟩
  · rintro i hI1 ih1
    try dsimp only
    obtain ⟨hi1_, _⟩ := hI1
    refine SQ <| SQ <| RG <| MV Z Z <| MV Z Z <| rw_lss Z Z Z <| ND <| ?_
    refine gw_cond Z (fun h1 => ?_) (fun h1 => ?_)
    · have hi2 := lt_of_dec h1
      obtain ⟨x3, hx3⟩ := get_of_lt hi2
      have hd3 := drop_cons hx3
      refine SK <| SQ <| BK <| SQ <| RG <| MV Z Z <| AS Z Z <| ND <| BK <| gw_loop1 <| SQ <| SQ <| gw_draw' [dd 0, dd 1, dd 2, dd 3, dd 4, dd 5, dd 6, dd 7, dd 8, dd 9, dd 10, dd 11, dd 12, dd 13] [14, 15, 16] mixed Z (FD Z) (ts := [_, _, _]) Z <| DM Z Z Z <| DM Z Z Z <| DT Z Z (fun K hk => rw_gtr Z Z Z hk) <| DM Z Z Z <| dw_lit (j := 21) Z (by rw [decide_eq_true_iff]; omega) <| ?_
      refine DT Z Z (fun K hk => ON Z Z Z (MV Z Z hk)) <| DT Z Z (fun K hk => ON Z Z Z (MV Z Z hk)) <| DT Z Z (fun K hk => ON Z Z Z (MV Z Z hk)) <| ?_
      have hq4 := hA.plain hx3
      refine DT Z Z (fun K hk => ON Z Z Z (rw_indexAddr (i) Z tyE_S_impl_Chunk Z Z Z (hA.some hi2) hi2 hk)) <| DT Z Z (fun K hk => ON Z Z Z (rw_loadX_s [_, _] Z tyS_impl_Chunk Z Z (fun w hs => hq4.lds0 (n := 2) hs Z) hk)) <| DT Z Z (fun K hk => ON Z Z Z (MV Z Z hk)) <| DT Z Z (fun K hk => ON Z Z Z (MV Z Z hk)) <| DT Z Z (fun K hk => ON Z Z Z (rw_sub Z Z Z hk)) <| ?_
      have hi5 : i - 1 < l.length := by omega
      obtain ⟨x6, hx6⟩ := get_of_lt hi5
      have hd6 := drop_cons hx6
      have hq7 := hA.plain hx6
      refine DT Z Z (fun K hk => ON Z Z Z (rw_indexAddr (i - 1) Z tyE_S_impl_Chunk Z Z (lenpred_of (by omega) (by omega)) (hA.some hi5) hi5 hk)) <| DT Z Z (fun K hk => ON Z Z Z (rw_loadX_s [_, _] Z tyS_impl_Chunk Z Z (fun w hs => hq7.lds0 (n := 2) hs Z) hk)) <| dw_nil <| ON Z Z Z <| rw_cvF Z Z fun_impl_InsertData_2 Z (fun w hs => impl_InsertData_2 _ _ w) <| ON Z Z Z <| rw_lss Z Z Z <| PT Z Z Z Z <| ND <| CF Z (cmp_nn hs_ hi1_ hx3 hx6) <| EX Z <| IB <| RG <| MV Z Z <| ?_
      refine rw_add Z Z Z <| AS Z Z <| ND <| ?_
      refine gw_sub (Sub.consE (i := 8) Z (int_succ (by omega)) (Sub.cons (i := 0) Z (Sub.cons (i := 1) Z (Sub.cons (i := 2) Z (Sub.cons (i := 3) Z (Sub.nil _)))))) (ih1 (i + 1) ?_ ?_)
      · exact ⟨by omega, .inl (by omega)⟩
      · show l.length - (i + 1) < l.length - i; omega
    have hn8 := nil_of_dec h1
    refine EX Z <| ret_cvE Try.func86 (res0 Try.func86 Z) <| ?_
    rfl

theorem slices_pdqsort {w : World} {v : Value} {l : List Chunk} (hv : RdS w 2 (Pl Chunk.cells) v l) (hb : l.length ≤ 1048576) (hs_ : SortedC l) (h12_ : l.length ≤ 12) (k : Int) : CV Try.prog 82 [v, .int .i64 0, .int .i64 (l.length : Int), .int .i64 k, (.func (.func 75) #[] #[])] w (.tuple #[]) := by
  obtain ⟨A, c, rfl, hA⟩ := hv
  refine cv_of Try.func82 Z Z Z <| SQ <| RG <| AS Z Z <| ND <| SQ <| RG <| AS Z Z <| ND <| BK <| gw_loop1 <| BK <| SQ <| RG <| MV Z Z <| MV Z Z <| rw_sub Z Z Z <| AS Z Z <| ND <| SQ <| SQ <| RG <| MV Z Z <| rw_leq Z Z Z <| ND <| CT Z (len_le12 h12_) <| SQ <| RG <| MV Z Z <| MV Z Z <| MV Z Z <| MV Z Z <| CV1 Z fun_slices_insertionSortCmpFunc_impl_Chunk Z (fun w hs => slices_insertionSort (hA.s Pl.keeps hs) hb hs_) <| ?_
  refine ND <| ret_cv Try.func82 (res0 Try.func82 Z) <| ?_
  rfl

theorem slices_SortFunc {w : World} {v : Value} {l : List Chunk} (hv : RdS w 2 (Pl Chunk.cells) v l) (hb : l.length ≤ 1048576) (hs_ : SortedC l) (h12_ : l.length ≤ 12) : CV Try.prog 74 [v, (.func (.func 75) #[] #[])] w (.tuple #[]) := by
  obtain ⟨A, c, rfl, hA⟩ := hv
  refine cv_of Try.func74 Z Z Z <| SQ <| RG <| MV Z Z <| rw_len Z tyE_S_impl_Chunk Z <| AS Z Z <| ND <| RG <| MV Z Z <| MV Z Z <| MV Z Z <| rw_convIe (l.length : Int) Z tyCI_int_uint Z (u64_nat (by omega)) <| CN1 Z fun_math_bits_Len Z (fun w hs => bits_Len (n := l.length) (by omega) w) <| fun v1 ch1 how1 => ?_
  obtain ⟨k1, rfl, rfl⟩ := how1
  refine rw_F (F' := []) (by simp only [aN]) <| MV Z Z <| CV1 Z fun_slices_pdqsortCmpFunc_impl_Chunk Z (fun w hs => slices_pdqsort (hA.s Pl.keeps hs) hb hs_ h12_ _) <| ND <| ret_cvE Try.func74 (res0 Try.func74 Z) <| ?_
  rfl
end Go.Proofs.Ytbhnekiclbfmgaa
namespace Go.Proofs.Ytbhnekiclbfmgaa
open SL Go.RowKit
theorem impl_Chunk_end (c : Chunk) (w : World) : CV Try.prog 73 [.agg c.cells.toArray] w (.int .i64 (chunkEnd c)) := by
  refine cv_of Try.func73 Z Z Z <| SQ <| RG <| BX [_, _] Z Z Z <| fun b1 => AS Z Z <| ND <| SQ <| RG <| FA Z tyF_impl_Chunk_0 Z <| LD (i := 0) Z tyP_int Z Z Z <| FA Z tyF_impl_Chunk_1 Z <| LD (i := 0) Z tyP_string Z Z Z <| rw_lenS Z (by kernel_rfl) Z <| rw_add Z Z Z <| AS Z Z <| ND <| RT Try.func73 Z Z <| ?_
  rfl

set_option maxHeartbeats 2000000 in
set_option maxRecDepth 20000 in
theorem impl_joined {w : World} {v : Value} {l : List Chunk} (hv : RdS w 2 (Pl Chunk.cells) v l) (hb : l.length ≤ 1048576) (h12_ : l.length ≤ 12) (h16_ : ∀ c ∈ l, c.data.size ≤ 16) : CN Try.prog 76 [v] w (fun v ch => OwS 92 2 (PlO Chunk.cells) v (joinGo [] l) ch) := by
  obtain ⟨A, c, rfl, hA⟩ := hv
  refine cn_of Try.func76 Z Z Z <| SQ <| RG <| AS Z Z <| ND <| SQ <| RG <| rw_slice0 Z tyM_S_impl_Chunk (PlO Chunk.cells) <| fun v1 how1 => AS Z Z <| ND <| SQ <| SQ <| RG <| MV Z Z <| rw_len Z tyE_S_impl_Chunk Z <| MV Z Z <| ND <| BK <| ?_
  obtain ⟨R0_, rc0_, rfl, _, _⟩ := (OwA.s how1).shape eChunk
  refine gw_loopX (α := Nat × List Chunk × Option Addr × Nat × List Ck) (fun z_ => z_.1 ≤ l.length ∧ z_.2.1.length ≤ z_.1 ∧ OwA 92 2 (PlO Chunk.cells) (.slice z_.2.2.1 z_.2.1.length z_.2.2.2.1) z_.2.1 z_.2.2.2.2 ∧ (∀ c ∈ z_.2.1, c.data.size ≤ 16 * z_.1) ∧ joinGo [] l = joinGo z_.2.1 (l.drop z_.1)) (fun z_ => l.length - z_.1) (fun e z_ => (10, .int .i64 (z_.1 : Int)) :: (3, .slice z_.2.2.1 z_.2.1.length z_.2.2.2.1) :: e) (fun B _ => B) (fun F z_ => z_.2.2.2.2 ++ ([])) (0, [], R0_, rc0_, []) [(2, _), (8, _), (9, _)] (Sub.consE Z Z (Sub.consE Z Z (Sub.cons (i := 2) Z (Sub.cons (i := 8) Z (Sub.cons (i := 9) Z (Sub.nil _)))))) Z Z ?_ ?_
  · exact ⟨Nat.zero_le _, Nat.le_refl _, how1, fun _ h => (by cases h), rfl⟩
  · rintro ⟨i, o, A_, cp_, ch⟩ hI2 ih2
    dsimp only at hI2
    dsimp only
    obtain ⟨hle, ho_, hO, hs16_, hI⟩ := hI2
    have hi12_ : i ≤ 12 := by omega
    have hle12_ := hi12_
    obtain ⟨_, _, hRo_, hrdo_⟩ := (OwA.s hO).reshape eChunk
    refine SQ <| RG <| rw_lss Z Z Z <| ND <| SQ <| ?_
    refine gw_cond Z (fun h1 => ?_) (fun h1 => ?_)
    · have hi3 := lt_of_dec h1
      obtain ⟨x4, hx4⟩ := get_of_lt hi3
      have hd4 := drop_cons hx4
      refine SK <| SQ <| BK <| SQ <| RG <| ?_
      have hq5 := hA.plain hx4
      refine rw_indexAddr (i) Z tyE_S_impl_Chunk Z Z Z (hA.some hi3) hi3 <| rw_loadX_s [_, _] Z tyS_impl_Chunk Z Z (fun w hs => hq5.lds0 (n := 2) hs Z) <| AL Z tyZ_impl_Chunk <| fun b1 => ST (i := 0) [_, _] [_, _] tyS_impl_Chunk.sz Z Z Z Z Z Z Z Z <| ND <| SQ <| RG <| MV Z Z <| rw_len Z tyE_S_impl_Chunk Z <| rw_sub Z Z Z <| AS Z Z <| ND <| SQ <| gw_draw' [dd 0, dd 1, dd 2, dd 3, dd 4, dd 5, dd 6, dd 7, dd 8, dd 9] [10, 11] mixed Z (FD Z) (ts := [_, _]) Z <| ?_
      refine DM Z Z Z <| DT Z Z (fun K hk => rw_geq Z Z Z hk) <| DM Z Z Z <| ?_
      refine dw_caseL (j := 19) Z (fun h2 => ?_) (fun h2 => ?_)
      · obtain ⟨z_, hz_, hzi_⟩ := last_of (Nat.le_trans ho_ hi12_) h2
        refine DT Z Z (fun K hk => ON Z Z Z (MV Z Z hk)) <| DT Z Z (fun K hk => ON Z Z Z (MV Z Z hk)) <| DT Z Z (fun K hk => ON Z Z Z (rw_indexAddr (o.length - 1) Z tyE_S_impl_Chunk Z Z (lenpred_of (by omega) (by omega)) (hRo_ (Nat.zero_lt_of_lt hzi_)) hzi_ hk)) <| DT Z Z (fun K hk => ON Z Z Z (rw_loadX_s [_, _] Z tyS_impl_Chunk Z Z (fun w hs => ((hrdo_ _ (fun c hc => hs.at_ c (MR (ML hc)))).plain hz_).cut0 (n := 2) Z) hk)) <| ?_
        refine DT Z Z (fun K hk => ON Z Z Z (CV1 Z fun_impl_Chunk_end Z (fun w hs => impl_Chunk_end _ w) hk)) <| DT Z Z (fun K hk => ON Z Z Z (FA Z tyF_impl_Chunk_0 Z hk)) <| DT Z Z (fun K hk => ON Z Z Z (LD (i := 0) Z tyP_int Z Z Z hk)) <| dw_nil <| ON Z Z Z <| EQ1 Z Z Z <| PT Z Z Z Z <| ND <| ?_
        refine gw_cond Z (fun h3 => ?_) (fun h3 => ?_)
        · refine gw_draw' [dd 0, dd 1, dd 2, dd 3, dd 4, dd 5, dd 6] [7, 8, 9, 10] mixed Z (FD Z) (ts := [_, _, _, _]) Z <| DM Z Z Z <| DM Z Z Z <| DT Z Z (fun K hk => rw_indexAddr (o.length - 1) Z tyE_S_impl_Chunk Z Z (lenpred_of (by omega) (by omega)) (hRo_ (Nat.zero_lt_of_lt hzi_)) hzi_ hk) <| DT Z Z (fun K hk => FX Z tyF_impl_Chunk_1 Z hk) <| DT Z Z (fun K hk => rw_loadX _ Z tyP_string Z (fun w hs => ((hrdo_ _ (fun c hc => hs.at_ c (MR (ML hc)))).plain hz_).cell Z) hk) <| ?_
          refine DT Z Z (fun K hk => FA Z tyF_impl_Chunk_1 Z hk) <| DT Z Z (fun K hk => LD (i := 0) Z tyP_string Z Z Z hk) <| dw_nil <| rw_catS (a := z_.data.data.toList) (b := x4.data.data.toList) Z Z Z (jo_b1 hs16_ hz_ hle12_) (jo_b2 h16_ hx4) <| rw_indexAddr (o.length - 1) Z tyE_S_impl_Chunk Z Z (lenpred_of (by omega) (by omega)) (hRo_ (Nat.zero_lt_of_lt hzi_)) hzi_ <| FX Z tyF_impl_Chunk_1 Z <| rw_storeOwF (F' := []) (o := 1) (k := 1) (z := z_) (a := (⟨z_.offset, ⟨(z_.data.data.toList ++ x4.data.data.toList).toArray⟩⟩ : Chunk)) [_] eChunk tyP_string.sz hO hz_ Z Z Z Z (by decide) (one_s _) Z ((pg PR PR)) <| fun ch6 how6 => ?_
          refine ND <| IB <| RG <| rw_add Z Z Z <| MV Z Z <| ND <| ?_
          refine gw_dropN 1 <| ?_
          refine gw_sub (Sub.consE (i := 10) Z (int_succ (by omega)) (Sub.consE (i := 3) Z (by rw [List.length_set]) (Sub.cons (i := 2) Z (Sub.cons (i := 8) Z (Sub.cons (i := 9) Z (Sub.nil _)))))) (ih2 (i + 1, (o.set (o.length - 1) (⟨z_.offset, ⟨(z_.data.data.toList ++ x4.data.data.toList).toArray⟩⟩ : Chunk)), A_, cp_, ch6) ?_ ?_)
          · refine ⟨by omega, by show (o.set _ _).length ≤ i + 1; rw [List.length_set]; omega, ?_, js_size hs16_ hz_ (h16_ _ (List.mem_of_getElem? hx4)), ?_⟩
            · rw [List.length_set]; exact how6
            · rw [hI, hd4, joinGo, js_ext hz_ h3]
          · show l.length - (i + 1) < l.length - i; omega
        refine RG <| MV Z Z <| LS (i := 0) [_, _] Z tyS_impl_Chunk Z Z Z Z <| rw_slice (xs := [(0, _)]) [_, _] Z tyM_S_impl_Chunk Z Z Z Z <| fun b2 => rw_append1 (i := 0) (a := x4) Z tyM_S_impl_Chunk eChunk Z Z Z hO ⟨Z, Z⟩ (.refl _) (by omega) <| fun v7 ch7 how7 => AS Z Z <| ND <| IB <| RG <| rw_add Z Z Z <| MV Z Z <| ND <| ?_
        obtain ⟨R8, rc8, rfl, _, _⟩ := (OwA.s how7).shape eChunk
        refine gw_dropN 2 <| ?_
        refine gw_sub (Sub.consE (i := 10) Z (int_succ (by omega)) (Sub.consE (i := 3) Z Z (Sub.cons (i := 2) Z (Sub.cons (i := 8) Z (Sub.cons (i := 9) Z (Sub.nil _)))))) (ih2 (i + 1, o ++ [x4], R8, rc8, ch7) ?_ ?_)
        · refine ⟨by omega, by show (o ++ [_]).length ≤ i + 1; simp only [List.length_append, List.length_cons, List.length_nil]; omega, how7, js_size1 hs16_ (h16_ _ (List.mem_of_getElem? hx4)), ?_⟩
          rw [hI, hd4, joinGo, js_app hz_ h3]
        · show l.length - (i + 1) < l.length - i; omega
      have hnil_ := last_none (Nat.le_trans ho_ hi12_) h2
      refine DSK Z <| dw_nil <| OF Z Z Z Z <| PF Z Z Z Z <| ND <| CF Z Z <| RG <| MV Z Z <| LS (i := 0) [_, _] Z tyS_impl_Chunk Z Z Z Z <| rw_slice (xs := [(0, _)]) [_, _] Z tyM_S_impl_Chunk Z Z Z Z <| fun b3 => rw_append1 (i := 0) (a := x4) Z tyM_S_impl_Chunk eChunk Z Z Z hO ⟨Z, Z⟩ (.refl _) (by omega) <| fun v9 ch9 how9 => AS Z Z <| ND <| IB <| RG <| rw_add Z Z Z <| MV Z Z <| ND <| ?_
      obtain ⟨R10, rc10, rfl, _, _⟩ := (OwA.s how9).shape eChunk
      refine gw_dropN 2 <| ?_
      refine gw_sub (Sub.consE (i := 10) Z (int_succ (by omega)) (Sub.consE (i := 3) Z Z (Sub.cons (i := 2) Z (Sub.cons (i := 8) Z (Sub.cons (i := 9) Z (Sub.nil _)))))) (ih2 (i + 1, o ++ [x4], R10, rc10, ch9) ?_ ?_)
      · refine ⟨by omega, by show (o ++ [_]).length ≤ i + 1; simp only [List.length_append, List.length_cons, List.length_nil]; omega, how9, js_size1 hs16_ (h16_ _ (List.mem_of_getElem? hx4)), ?_⟩
        rw [hI, hd4, joinGo, hnil_, js_nil]
      · show l.length - (i + 1) < l.length - i; omega
    have hn11 := nil_of_dec h1
    refine EX Z <| SQ <| RG <| MV Z Z <| AS Z Z <| ND <| ?_
    refine ret_cn ch Try.func76 (res1 Try.func76 Z (rv_tmp Z)) ?_ ?_
    · rw [hI, hn11]; exact OwA.s hO
    · exact (List.sublist_append_left _ _).trans (List.sublist_append_right _ _)
end Go.Proofs.Ytbhnekiclbfmgaa
namespace Go.Proofs.Ytbhnekiclbfmgaa
open SL Go.RowKit
set_option maxHeartbeats 2000000 in
set_option maxRecDepth 20000 in
theorem impl_InsertData_1 {w : World} {b1 b2 b3 b4 b5 : Nat} (to_ : Int) {f e o : Int} {D : List UInt8} {v : Value} {L : List Chunk} {ch : List Ck} (hO : OwA 92 2 (PlO Chunk.cells) v L ch) (h0_ : 0 ≤ o) (h1_ : o ≤ f) (he_ : e = o + (D.length : Int)) (h16_ : e ≤ 16) (hL_ : L.length ≤ 1000) (hin : ∀ c ∈ (⟨b1, 3, [.int .i64 f]⟩ :: ⟨b2, 3, [.int .i64 e]⟩ :: ⟨b3, 36, [v]⟩ :: ⟨b4, 9, [.string (mkS D)]⟩ :: ⟨b5, 3, [.int .i64 o]⟩ :: ch), c.In w) (hnd : ((⟨b1, 3, [.int .i64 f]⟩ :: ⟨b2, 3, [.int .i64 e]⟩ :: ⟨b3, 36, [v]⟩ :: ⟨b4, 9, [.string (mkS D)]⟩ :: ⟨b5, 3, [.int .i64 o]⟩ :: ch).map Ck.b).Nodup) : CH Try.prog 72 [.int .i64 to_, .pointer (some ⟨b1, 0, none⟩), .pointer (some ⟨b2, 0, none⟩), .pointer (some ⟨b3, 0, none⟩), .pointer (some ⟨b4, 0, none⟩), .pointer (some ⟨b5, 0, none⟩)] w (⟨b1, 3, [.int .i64 f]⟩ :: ⟨b2, 3, [.int .i64 e]⟩ :: ⟨b3, 36, [v]⟩ :: ⟨b4, 9, [.string (mkS D)]⟩ :: ⟨b5, 3, [.int .i64 o]⟩ :: ch) (fun u G' => ∃ v' ch', u = .tuple #[] ∧ OwA 92 2 (PlO Chunk.cells) v' (L ++ putP o e D f to_) ch' ∧ G' = ⟨b1, 3, [.int .i64 f]⟩ :: ⟨b2, 3, [.int .i64 e]⟩ :: ⟨b3, 36, [v']⟩ :: ⟨b4, 9, [.string (mkS D)]⟩ :: ⟨b5, 3, [.int .i64 o]⟩ :: ch') := by
  refine ch_ofBG (B0 := [_, _, _, _, _]) (G := ch) hin hnd Try.func72 Z Z Z <| SQ <| RG <| LD (i := 0) Z tyP_int Z Z Z <| MV Z Z <| LD (i := 1) Z tyP_int Z Z Z <| rw_min Z Z Z <| rw_lss Z Z Z <| ND <| ?_
  refine gw_cond Z (fun h1 => ?_) (fun h1 => ?_)
  · obtain ⟨a_, b_, ha_, hb_, hab_, hbD_, hse_⟩ := put_at h0_ h1_ he_ h16_ h1
    refine gw_draw' [dd 0, dd 1, dd 2, dd 3, dd 4, dd 5, dd 6, dd 7, dd 8, dd 9, dd 10, dd 11, dd 12, (13, .add)] [14, 15] mixed Z (FD Z) (ts := [_, _]) Z <| DT Z Z (fun K hk => LD (i := 2) Z tyP_S_impl_Chunk Z Z Z hk) <| DT Z Z (fun K hk => LD (i := 0) Z tyP_int Z Z Z hk) <| DT Z Z (fun K hk => LD (i := 3) Z tyP_string Z Z Z hk) <| DT Z Z (fun K hk => LD (i := 0) Z tyP_int Z Z Z hk) <| DT Z Z (fun K hk => LD (i := 4) Z tyP_int Z Z Z hk) <| ?_
    refine DT Z Z (fun K hk => rw_sub Z Z Z hk) <| DM Z Z Z <| DT Z Z (fun K hk => LD (i := 1) Z tyP_int Z Z Z hk) <| DT Z Z (fun K hk => rw_min Z Z Z hk) <| DT Z Z (fun K hk => LD (i := 4) Z tyP_int Z Z Z hk) <| DT Z Z (fun K hk => rw_sub Z Z Z hk) <| DT Z Z (fun K hk => rw_sliceL (l := D) a_ b_ (seg D (f - o) (min to_ e - o)) Z tyStr_string Z Z Z ha_ hb_ hab_ hbD_ hse_ hk) <| DT Z Z (fun K hk => rw_build [_, _] Z tyB_impl_Chunk tyZ_impl_Chunk Z Z hk) <| ?_
    refine DA Z Z (fun K hk => rw_slice1F (xs := [(0, _)]) [_, _] Z tyM_S_impl_Chunk Z Z Z hk) <| fun v1 ch1 how1 => ?_
    obtain ⟨bl1, rfl, hch1⟩ := how1
    refine dw_nil <| ?_
    have hpm3 : (ch1 ++ (ch ++ ([]))).Perm (ch ++ ([] ++ (ch1 ++ ([])))) := by
      refine List.Perm.trans ((pg (pp PR) PR) : (ch1 ++ (ch ++ ([]))).Perm (ch ++ (ch1 ++ ([])))) (List.Perm.of_eq ?_)
      simp only [List.nil_append]
    refine rw_append1F (a := (⟨f, mkS (seg D (f - o) (min to_ e - o))⟩ : Chunk)) (ch2 := []) (F2 := ch1 ++ ([])) Z tyM_S_impl_Chunk eChunk Z Z (mem_ch hch1 (fun c hc => ML hc)) hO ⟨Z, Z⟩ hpm3 (by omega) <| fun v2 ch2 how2 => ?_
    obtain ⟨R4, rc4, rfl, _, _⟩ := (OwA.s how2).shape eChunk
    refine ST (i := 2) [_] [_] tyP_S_impl_Chunk.sz Z Z Z Z Z Z Z Z <| ND <| ?_
    refine ret_chE (⟨b1, 3, [.int .i64 f]⟩ :: ⟨b2, 3, [.int .i64 e]⟩ :: ⟨b3, 36, [.slice R4 (L ++ [(⟨f, mkS (seg D (f - o) (min to_ e - o))⟩ : Chunk)]).length rc4]⟩ :: ⟨b4, 9, [.string (mkS D)]⟩ :: ⟨b5, 3, [.int .i64 o]⟩ :: ch2) Try.func72 (res0 Try.func72 Z) ?_ ?_
    · refine ⟨_, _, Z, ?_, Z⟩
      have ep_ : putP o e D f to_ = [⟨f, mkS (seg D (f - o) (min to_ e - o))⟩] := by unfold putP; rw [h1]; rfl
      rw [ep_]
      exact how2
    · exact (List.sublist_append_left _ _).append_left [_, _, _, _, _]
  refine SK <| ?_
  refine ret_chE (⟨b1, 3, [.int .i64 f]⟩ :: ⟨b2, 3, [.int .i64 e]⟩ :: ⟨b3, 36, [v]⟩ :: ⟨b4, 9, [.string (mkS D)]⟩ :: ⟨b5, 3, [.int .i64 o]⟩ :: ch) Try.func72 (res0 Try.func72 Z) ?_ ?_
  · refine ⟨_, _, Z, ?_, Z⟩
    have ep_ : putP o e D f to_ = [] := by unfold putP; rw [h1]; rfl
    rw [ep_]
    exact by rw [List.append_nil]; exact hO
  · exact (List.sublist_append_left _ _).append_left [_, _, _, _, _]
end Go.Proofs.Ytbhnekiclbfmgaa
namespace Go.Proofs.Ytbhnekiclbfmgaa
open SL Go.RowKit
theorem impl_IsBuffer {w : World} {cs : List Value} {x : Buffer} (hv : RdBuffer w cs x) (hb : x.le 1048576) : CV Try.prog 69 [.agg cs.toArray] w (.bool (isBuffer x)) := by
  obtain ⟨v0, rfl, k0⟩ := hv
  obtain ⟨A0, c0, rfl, hA0⟩ := k0
  obtain ⟨hb0, hb1⟩ := hb
  refine cv_of Try.func69 Z Z Z <| SQ <| RG <| BX [_, _] Z Z Z <| fun b1 => AS Z Z <| ND <| SQ <| SQ <| RG <| FA Z tyF_impl_Buffer_0 Z <| LD (i := 0) Z tyP_int Z Z Z <| CV1 Z fun_impl_isQuic Z (fun w hs => impl_isQuic _ w) <| NT Z Z <| ND <| ?_
  refine gw_condN Z (fun h1 => ?_) (fun h1 => ?_)
  · refine SQ <| RG <| AS Z Z <| ND <| RT Try.func69 Z Z <| ?_
    simp [isBuffer, h1]
  refine SK <| SQ <| RG <| FA Z tyF_impl_Buffer_0 Z <| LD (i := 0) Z tyP_int Z Z Z <| AS Z Z <| ND <| SQ <| SQ <| RG <| FA Z tyF_impl_Buffer_1 Z <| LD (i := 0) Z tyP_S_impl_Chunk Z Z Z <| rw_len Z tyE_S_impl_Chunk Z <| MV Z Z <| ND <| BK <| ?_
  refine gw_loopC (α := Nat × Int) (fun z_ => z_.1 ≤ x.chunks.length ∧ isBuffer x = bufFrom z_.2 (x.chunks.drop z_.1)) (fun z_ => x.chunks.length - z_.1) (fun e z_ => (15, .int .i64 (z_.1 : Int)) :: (3, .int .i64 z_.2) :: e) (0, x.next) [(13, _), (14, _)] (Sub.consE Z Z (Sub.consE Z Z (Sub.cons (i := 13) Z (Sub.cons (i := 14) Z (Sub.nil _))))) ?_ ?_
  · exact ⟨Nat.zero_le _, by simp [isBuffer, h1]⟩
  · rintro ⟨i, e⟩ hI1 ih1
    dsimp only at hI1
    dsimp only
    obtain ⟨hle, hI⟩ := hI1
    refine SQ <| RG <| rw_lss Z Z Z <| ND <| SQ <| ?_
    refine gw_cond Z (fun h2 => ?_) (fun h2 => ?_)
    · have hi2 := lt_of_dec h2
      obtain ⟨x3, hx3⟩ := get_of_lt hi2
      have hd3 := drop_cons hx3
      refine SK <| SQ <| BK <| SQ <| RG <| ?_
      have hq4 := hA0.plain hx3
      refine rw_indexAddr (i) Z tyE_S_impl_Chunk Z Z Z (hA0.some hi2) hi2 <| rw_loadX_s [_, _] Z tyS_impl_Chunk Z Z (fun w hs => hq4.lds0 (n := 2) hs Z) <| AL Z tyZ_impl_Chunk <| fun b2 => ST (i := 0) [_, _] [_, _] tyS_impl_Chunk.sz Z Z Z Z Z Z Z Z <| ND <| SQ <| SQ <| RG <| FA Z tyF_impl_Chunk_1 Z <| LD (i := 0) Z tyP_string Z Z Z <| rw_lenS Z (by kernel_rfl) Z <| EQ1 Z Z Z <| MV Z Z <| ?_
      refine rw_caseL (j := 23) Z (fun h3 => ?_) (fun h3 => ?_)
      · refine SKP Z <| PT Z Z Z Z <| MV Z Z <| SKP Z <| PT Z Z Z Z <| ND <| CT Z Z <| SQ <| RG <| AS Z Z <| ND <| RT Try.func69 Z Z <| ?_
        rw [hI, hd3]; simp [bufFrom, maxQuic, h3]
      refine ON Z Z Z <| FA Z tyF_impl_Chunk_0 Z <| ON Z Z Z <| LD (i := 0) Z tyP_int Z Z Z <| ON Z Z Z <| MV Z Z <| ON Z Z Z <| rw_lss Z Z Z <| PF Z Z Z Z <| MV Z Z <| ?_
      refine rw_caseL (j := 29) Z (fun h4 => ?_) (fun h4 => ?_)
      · refine SKP Z <| PT Z Z Z Z <| ND <| CT Z Z <| SQ <| RG <| AS Z Z <| ND <| RT Try.func69 Z Z <| ?_
        rw [hI, hd3]; simp [bufFrom, maxQuic, h3, h4]
      refine ON Z Z Z <| FA Z tyF_impl_Chunk_0 Z <| ON Z Z Z <| LD (i := 0) Z tyP_int Z Z Z <| ON Z Z Z <| FA Z tyF_impl_Chunk_1 Z <| ON Z Z Z <| LD (i := 0) Z tyP_string Z Z Z <| ON Z Z Z <| rw_lenS Z (by kernel_rfl) Z <| ON Z Z Z <| rw_sub Z Z Z <| ON Z Z Z <| rw_gtr Z Z Z <| PF Z Z Z Z <| ND <| ?_
      refine gw_cond Z (fun h5 => ?_) (fun h5 => ?_)
      · refine SQ <| RG <| AS Z Z <| ND <| RT Try.func69 Z Z <| ?_
        rw [hI, hd3]; simp [bufFrom, maxQuic, h3, h4, h5]
      refine SK <| RG <| LS (i := 0) [_, _] Z tyS_impl_Chunk Z Z Z Z <| CV1 Z fun_impl_Chunk_end Z (fun w hs => impl_Chunk_end _ w) <| rw_add Z Z Z <| AS Z Z <| ND <| IB <| RG <| rw_add Z Z Z <| MV Z Z <| ND <| gw_dropN 1 <| ?_
      refine gw_sub (Sub.consE (i := 15) Z (int_succ (by omega)) (Sub.consE (i := 3) Z Z (Sub.cons (i := 13) Z (Sub.cons (i := 14) Z (Sub.nil _))))) (ih1 (i + 1, w64 (chunkEnd x3 + 1)) ?_ ?_)
      · exact ⟨by omega, by rw [hI, hd3]; simp [bufFrom, maxQuic, h3, h4, h5]⟩
      · show x.chunks.length - (i + 1) < x.chunks.length - i; omega
    have hn5 := nil_of_dec h2
    refine EX Z <| SQ <| RG <| AS Z Z <| ND <| RT Try.func69 Z Z <| ?_
    rw [hI, hn5]; rfl

theorem impl_copyBuffer {w : World} {cs : List Value} {x : Buffer} (hv : RdBuffer w cs x) (hb : x.le 1048576) : CN Try.prog 68 [.agg cs.toArray] w (OwV OwBuffer x) := by
  obtain ⟨v0, rfl, k0⟩ := hv
  obtain ⟨A0, c0, rfl, hA0⟩ := k0
  obtain ⟨hb0, hb1⟩ := hb
  refine cn_of Try.func68 Z Z Z <| SQ <| RG <| BX [_, _] Z Z Z <| fun b1 => AL Z tyZ_impl_Buffer <| fun b2 => ND <| SQ <| gw_draw' [dd 0, dd 1, dd 3, dd 4, (2, .add), (5, .add)] [6, 7] mixed Z (FD Z) (ts := [_, _]) Z <| DT Z Z (fun K hk => FA Z tyF_impl_Buffer_0 Z hk) <| DT Z Z (fun K hk => LD (i := 1) Z tyP_int Z Z Z hk) <| DT Z Z (fun K hk => FA Z tyF_impl_Buffer_1 Z hk) <| DT Z Z (fun K hk => LD (i := 1) Z tyP_S_impl_Chunk Z Z Z hk) <| ?_
  refine DA Z Z (fun K hk => rw_slice0D Z tyM_S_impl_Chunk (PlO Chunk.cells) hk) <| fun v1 ch1 how1 => ?_
  obtain ⟨how1, rfl⟩ := how1
  refine DA Z Z (fun K hk => rw_appendP Z tyM_S_impl_Chunk eChunk (fun _ => Z) Z Z how1 (fun w hs => hA0.sat Pl.keeps hs) (.refl _) (by first | omega | (simp; omega)) hk) <| fun v2 ch2 how2 => ?_
  obtain ⟨R3, rc3, rfl, hR3, hrd3⟩ := (OwA.s (l := x.chunks) how2).shape eChunk
  refine dw_nil <| rw_build [_, _] Z tyB_impl_Buffer tyZ_impl_Buffer Z Z <| ST (i := 0) [_, _] [_, _] tyS_impl_Buffer.sz Z Z Z Z Z Z Z Z <| ND <| ?_
  refine ret_cnP (ch := ch2) (G := ch2 ++ ([])) (F' := []) Try.func68 (res1 Try.func68 Z (rv_s (i := 0) [_, _] tyS_impl_Buffer Z Z Z Z)) ?_ ?_ ?_
  · exact ⟨_, rfl, _, _, rfl, (OwA.s (l := x.chunks) how2), rfl⟩
  · exact (pg PR PR)
  · simp only []

set_option maxHeartbeats 4000000 in
set_option maxRecDepth 20000 in
theorem impl_InsertData {w : World} {cs : List Value} {x : Buffer} (hv : RdBuffer w cs x) {o : Int} {D : List UInt8} (hI : InsOk x o D) : CN Try.prog 41 [.agg cs.toArray, .int .i64 o, .string (mkS D)] w (fun v ch => ∃ cs', v = .agg cs'.toArray ∧ OwBuffer cs' (insM x o (o + (D.length : Int)) D) ch) := by
  have hb := hI.le
  obtain ⟨v0, rfl, k0⟩ := hv
  obtain ⟨A0, c0, rfl, hA0⟩ := k0
  obtain ⟨hb0, hb1⟩ := hb
  have hE_ := hI.e
  have hE16_ : w64 (o + (D.length : Int)) ≤ 16 := by rw [hE_]; exact hI.hn
  have hcn_ := hI.n
  refine cn_of Try.func41 Z Z Z <| SQ <| RG <| BX [_, _] Z Z Z <| fun b1 => BX [_] Z Z Z <| fun b2 => BX [_] Z Z Z <| fun b3 => AL Z tyZ_impl_Buffer <| fun b4 => ND <| SQ <| SQ <| RG <| LS (i := 3) [_, _] Z tyS_impl_Buffer Z Z Z Z <| CV1 Z fun_impl_IsBuffer Z (fun w hs => impl_IsBuffer ⟨_, Z, (hA0.s Pl.keeps hs)⟩ ⟨hb0, hb1⟩) <| NT Z Z <| MV Z Z <| rw_lit (j := 16) Z (not_T hI.buf) <| ON Z Z Z <| LD (i := 1) Z tyP_string Z Z Z <| ON Z Z Z <| ?_
  refine rw_eqlL Z Z Z <| PF Z Z Z Z <| MV Z Z <| ?_
  refine rw_caseL (j := 20) Z (fun h1 => ?_) (fun h1 => ?_)
  · refine SKP Z <| PT Z Z Z Z <| MV Z Z <| SKP Z <| PT Z Z Z Z <| MV Z Z <| SKP Z <| PT Z Z Z Z <| ND <| CT Z Z <| SQ <| RG <| LS (i := 3) [_, _] Z tyS_impl_Buffer Z Z Z Z <| CN1 Z fun_impl_copyBuffer Z (fun w hs => impl_copyBuffer ⟨_, Z, (hA0.s Pl.keeps hs)⟩ ⟨hb0, hb1⟩) <| fun vv1 ch1 how1 => ?_
    obtain ⟨cs1, rfl, v1_0, c1_0, rfl, h1_0, rfl⟩ := how1
    obtain ⟨R1_0, b1_0, rfl, hR1_0, hrd1_0⟩ := h1_0.shape eChunk
    refine ST (i := 0) [_, _] [_, _] tyS_impl_Buffer.sz Z Z Z Z Z Z Z Z <| ND <| ?_
    refine gw_FP (pg PR PR) (gw_F (F' := (ch1) ++ ([])) (by simp only [aN]) ?_)
    refine ret_cn (ch1) Try.func41 (res1 Try.func41 Z (rv_s (i := 0) [_, _] tyS_impl_Buffer Z Z Z Z)) ?_ ?_
    · refine ⟨_, Z, ?_⟩
      rw [ins_none h1]
      exact owBuffer_mk h1_0
    · exact (List.sublist_append_left _ _).trans (List.sublist_append_right _ _)
  have hne_ := ne_of h1
  refine ON Z Z Z <| LD (i := 2) Z tyP_int Z Z Z <| ON Z Z Z <| rw_lss Z Z Z <| PF Z Z Z Z <| MV Z Z <| rw_lit (j := 24) Z hI.g22 <| ON Z Z Z <| LD (i := 2) Z tyP_int Z Z Z <| ON Z Z Z <| LD (i := 1) Z tyP_string Z Z Z <| ON Z Z Z <| rw_lenL Z tyStr_string Z <| ON Z Z Z <| rw_sub Z Z Z <| ON Z Z Z <| rw_gtr Z Z Z <| PF Z Z Z Z <| MV Z Z <| rw_lit (j := 31) Z hI.g29 <| ?_
  refine ON Z Z Z <| LD (i := 2) Z tyP_int Z Z Z <| ON Z Z Z <| LD (i := 1) Z tyP_string Z Z Z <| ON Z Z Z <| rw_lenL Z tyStr_string Z <| ON Z Z Z <| rw_add Z Z Z <| ON Z Z Z <| FA Z tyF_impl_Buffer_0 Z <| ON Z Z Z <| LD (i := 3) Z tyP_int Z Z Z <| ON Z Z Z <| rw_leq Z Z Z <| PF Z Z Z Z <| ND <| CF Z (hI.g38 hne_) <| SK <| SQ <| gw_drawT' (.det 0 (.det 1 (.det 2 (.det 3 (.detB 4 (.detB 5 (.detB 6 (.detB 7 (.both (.add 8 (.add 9 (.st 10 .nil))) (.add 9 (.add 8 (.st 10 .nil)))))))))))) [11] mixed (by kernel_rfl) (ts := [_]) Z <| ?_
  refine dz_det Z Z (fun K hk => LD (i := 2) Z tyP_int Z Z Z hk) <| dz_det Z Z (fun K hk => FA Z tyF_impl_Buffer_0 Z hk) <| dz_det Z Z (fun K hk => LD (i := 3) Z tyP_int Z Z Z hk) <| dz_det Z Z (fun K hk => rw_max Z Z Z hk) <| dz_detB Z Z (fun K hk => LD (i := 2) Z tyP_int Z Z Z hk) <| dz_detB Z Z (fun K hk => LD (i := 1) Z tyP_string Z Z Z hk) <| dz_detB Z Z (fun K hk => rw_lenL Z tyStr_string Z hk) <| dz_detB Z Z (fun K hk => rw_add Z Z Z hk) <| ?_
  refine ⟨?_, ?_⟩
  · refine dz_new Z Z tyZ_int <| fun b5 => dz_new Z Z tyZ_int <| fun b6 => dz_P (pg (pp PR) PR) <| dz_sto Z Z (fun K hk => rw_storeF [_] [_] tyP_int.sz Z Z Z Z Z Z Z hk) <| dz_nil <| rw_take <| rw_take <| ST (i := 0) [_] [_] tyP_int.sz Z Z Z Z Z Z Z Z <| ND <| SQ <| RG <| rw_slice0 Z tyM_S_impl_Chunk (PlO Chunk.cells) <| fun v2 how2 => ?_
    obtain ⟨R2, rc2, rfl, _, _⟩ := (OwA.s how2).shape eChunk
    refine AL Z tyZ_S_impl_Chunk <| fun b7 => ST (i := 0) [_] [_] tyP_S_impl_Chunk.sz Z Z Z Z Z Z Z Z <| ND <| SQ <| RG <| rw_makeFunc Z Z <| AS Z Z <| ND <| SQ <| SQ <| RG <| FA Z tyF_impl_Buffer_1 Z <| LD (i := 6) Z tyP_S_impl_Chunk Z Z Z <| rw_len Z tyE_S_impl_Chunk Z <| MV Z Z <| ND <| BK <| gw_giveB (B' := [_, _, _, _, _, _]) 5 Z Z <| gw_giveB (B' := [_, _, _, _, _]) 4 Z Z <| gw_giveB (B' := [_, _, _, _]) 0 Z Z <| gw_giveB (B' := [_, _, _]) 0 Z Z <| gw_giveB (B' := [_, _]) 0 Z Z <| ?_
    refine gw_takeB <| gw_takeB <| gw_takeB <| gw_takeB <| gw_takeB <| ?_
    refine gw_loopX (α := Nat × Int × List Chunk × Option Addr × Nat × Nat × List Ck) (fun z_ => z_.1 ≤ x.chunks.length ∧ o ≤ z_.2.1 ∧ z_.2.2.1.length ≤ 2 * z_.1 ∧ OwA 92 2 (PlO Chunk.cells) (.slice z_.2.2.2.1 z_.2.2.2.2.1 z_.2.2.2.2.2.1) z_.2.2.1 z_.2.2.2.2.2.2 ∧ piecesOf o (w64 (o + (D.length : Int))) D (max o x.next) x.chunks = z_.2.2.1 ++ piecesOf o (w64 (o + (D.length : Int))) D z_.2.1 (x.chunks.drop z_.1)) (fun z_ => x.chunks.length - z_.1) (fun e z_ => (55, .int .i64 (z_.1 : Int)) :: e) (fun B z_ => (B.set 2 ⟨b7, 36, [.slice z_.2.2.2.1 z_.2.2.2.2.1 z_.2.2.2.2.2.1]⟩).set 4 ⟨b5, 3, [.int .i64 z_.2.1]⟩) (fun F z_ => z_.2.2.2.2.2.2 ++ ([])) (0, max o x.next, [], R2, 0, rc2, []) [(3, _), (6, _), (7, _), (8, _), (9, _), (10, _), (53, _), (54, _)] (Sub.consE Z Z (Sub.cons (i := 3) Z (Sub.cons (i := 6) Z (Sub.cons (i := 7) Z (Sub.cons (i := 8) Z (Sub.cons (i := 9) Z (Sub.cons (i := 10) Z (Sub.cons (i := 53) Z (Sub.cons (i := 54) Z (Sub.nil _)))))))))) Z Z ?_ ?_
    · exact ⟨Nat.zero_le _, by show o ≤ max o _; omega, Nat.le_refl _, how2, rfl⟩
    · rintro ⟨i, f, L, A_, n_, cp_, ch⟩ hI3 ih3
      dsimp only at hI3
      dsimp only [List.set]
      obtain ⟨hle, hof_, hLl_, hO, hP_⟩ := hI3
      refine SQ <| RG <| rw_lss Z Z Z <| ND <| SQ <| ?_
      refine gw_cond Z (fun h2 => ?_) (fun h2 => ?_)
      · have hi4 := lt_of_dec h2
        obtain ⟨x5, hx5⟩ := get_of_lt hi4
        have hd5 := drop_cons hx5
        refine SK <| SQ <| BK <| SQ <| RG <| ?_
        have hq6 := hA0.plain hx5
        refine rw_indexAddr (i) Z tyE_S_impl_Chunk Z Z Z (hA0.some hi4) hi4 <| rw_loadX_s [_, _] Z tyS_impl_Chunk Z Z (fun w hs => hq6.lds0 (n := 2) hs Z) <| AL Z tyZ_impl_Chunk <| fun b8 => ST (i := 0) [_, _] [_, _] tyS_impl_Chunk.sz Z Z Z Z Z Z Z Z <| ND <| SQ <| RG <| MV Z Z <| FA Z tyF_impl_Chunk_0 Z <| LD (i := 0) Z tyP_int Z Z Z <| rw_giveB (B' := [_, _, _, _, _, _, _]) 1 Z Z <| rw_giveB (B' := [_, _, _, _, _, _]) 1 Z Z <| rw_giveB (B' := [_, _, _, _, _]) 1 Z Z <| rw_giveB (B' := [_, _, _, _]) 1 Z Z <| ?_
        refine rw_giveB (B' := [_, _, _]) 1 Z Z <| rw_chF (R := []) Z Z fun_impl_InsertData_1 Z PR (fun w hs hin hnd => impl_InsertData_1 (D := D) (f := f) (o := o) (e := (w64 (o + (D.length : Int)))) x5.offset (L := L) hO hI.h0 hof_ hE_ hE16_ (by omega) hin hnd) <| fun v7 ch7 how7 => ?_
        obtain ⟨vp7, chp7, rfl, hop7, rfl⟩ := how7
        refine rw_F (F' := [_] ++ ([_] ++ ([_] ++ ([_] ++ ([_] ++ (chp7 ++ ([]))))))) Z <| rw_take <| rw_take <| rw_take <| rw_take <| rw_take <| ND <| SQ <| RG <| LD (i := 2) Z tyP_S_impl_Chunk Z Z Z <| LS (i := 5) [_, _] Z tyS_impl_Chunk Z Z Z Z <| rw_slice1F (xs := [(0, _)]) [_, _] Z tyM_S_impl_Chunk Z Z Z <| fun v8 ch8 how8 => ?_
        obtain ⟨bl8, rfl, hch8⟩ := how8
        have hpl_ := putP_len o (w64 (o + (D.length : Int))) D f x5.offset
        have hpm10 : (ch8 ++ (chp7 ++ ([]))).Perm (chp7 ++ ([] ++ (ch8 ++ ([])))) := by
          refine List.Perm.trans ((pg (pp PR) PR) : (ch8 ++ (chp7 ++ ([]))).Perm (chp7 ++ (ch8 ++ ([])))) (List.Perm.of_eq ?_)
          simp only [List.nil_append]
        refine rw_append1F (a := x5) (ch2 := []) (F2 := ch8 ++ ([])) Z tyM_S_impl_Chunk eChunk Z Z (mem_ch hch8 (fun c hc => ML hc)) hop7 ⟨Z, Z⟩ hpm10 (by simp only [List.length_append]; omega) <| fun v9 ch9 how9 => ?_
        obtain ⟨R11, rc11, rfl, _, _⟩ := (OwA.s how9).shape eChunk
        refine ST (i := 2) [_] [_] tyP_S_impl_Chunk.sz Z Z Z Z Z Z Z Z <| ND <| gw_draw' [dd 0, dd 1, dd 2] [3, 4] mixed Z (FD Z) (ts := [_, _]) Z <| DT Z Z (fun K hk => LD (i := 4) Z tyP_int Z Z Z hk) <| DT Z Z (fun K hk => LS (i := 5) [_, _] Z tyS_impl_Chunk Z Z Z Z hk) <| DT Z Z (fun K hk => CV1 Z fun_impl_Chunk_end Z (fun w hs => impl_Chunk_end _ w) hk) <| dw_nil <| rw_max Z Z Z <| ST (i := 4) [_] [_] tyP_int.sz Z Z Z Z Z Z Z Z <| ND <| IB <| RG <| ?_
        refine rw_add Z Z Z <| MV Z Z <| ND <| ?_
        refine gw_dropF (F' := ch9 ++ ([])) (List.Sublist.append_left (List.nil_sublist _) _) <| gw_eraseB (B' := [_, _, _, _, _, _, _]) 5 Z <| ?_
        refine gw_sub (Sub.consE (i := 55) Z (int_succ (by omega)) (Sub.cons (i := 3) Z (Sub.cons (i := 6) Z (Sub.cons (i := 7) Z (Sub.cons (i := 8) Z (Sub.cons (i := 9) Z (Sub.cons (i := 10) Z (Sub.cons (i := 53) Z (Sub.cons (i := 54) Z (Sub.nil _)))))))))) (ih3 (i + 1, max f (chunkEnd x5), ((L ++ putP o (w64 (o + (D.length : Int))) D f x5.offset) ++ [x5]), R11, ((L ++ putP o (w64 (o + (D.length : Int))) D f x5.offset) ++ [x5]).length, rc11, ch9) ?_ ?_)
        · refine ⟨by have := hi4; omega, by show o ≤ max f _; omega, ?_, how9, ?_⟩
          · show (((L ++ putP o (w64 (o + (D.length : Int))) D f x5.offset) ++ [x5])).length ≤ 2 * (i + 1); simp only [List.length_append, List.length_cons, List.length_nil]; omega
          · rw [hP_, hd5, pieces_cons, ← List.append_assoc, ← List.append_assoc]
        · show x.chunks.length - (i + 1) < x.chunks.length - i; have := hi4; omega
      have hn13 := nil_of_dec h2
      refine EX Z <| SQ <| RG <| MV Z Z <| LD (i := 3) Z tyP_int Z Z Z <| rw_giveB (B' := [_, _, _, _, _, _]) 0 Z Z <| rw_giveB (B' := [_, _, _, _, _]) 0 Z Z <| rw_giveB (B' := [_, _, _, _]) 0 Z Z <| rw_giveB (B' := [_, _, _]) 0 Z Z <| rw_giveB (B' := [_, _]) 0 Z Z <| rw_chF (R := []) Z Z fun_impl_InsertData_1 Z PR (fun w hs hin hnd => impl_InsertData_1 (D := D) (f := f) (o := o) (e := (w64 (o + (D.length : Int)))) (w64 (o + (D.length : Int))) (L := L) hO hI.h0 hof_ hE_ hE16_ (by omega) hin hnd) <| fun v14 ch14 how14 => ?_
      obtain ⟨vp14, chp14, rfl, hop14, rfl⟩ := how14
      refine rw_F (F' := [_] ++ ([_] ++ ([_] ++ ([_] ++ ([_] ++ (chp14 ++ ([]))))))) Z <| rw_take <| rw_take <| rw_take <| rw_take <| rw_take <| ND <| SQ <| RG <| LD (i := 2) Z tyP_S_impl_Chunk Z Z Z <| ?_
      obtain ⟨h12_, hs_, h16_, hM_⟩ := hI.fin hne_ (L := (L ++ putP o (w64 (o + (D.length : Int))) D f (w64 (o + (D.length : Int))))) (by rw [hP_, hn13, pieces_nil])
      refine CV1 Z fun_slices_SortFunc_S_impl_Chunk_impl_Chunk Z (fun w hs => slices_SortFunc ((OwA.s hop14).rdH eChunk hs (fun c hc => MR (ML hc))) (Nat.le_trans h12_ (by decide)) hs_ h12_) <| ND <| SQ <| gw_draw' [dd 0, dd 1, dd 2, (3, .add)] [4, 5] mixed Z (FD Z) (ts := [_, _]) Z <| DT Z Z (fun K hk => FA Z tyF_impl_Buffer_0 Z hk) <| DT Z Z (fun K hk => LD (i := 6) Z tyP_int Z Z Z hk) <| DT Z Z (fun K hk => LD (i := 2) Z tyP_S_impl_Chunk Z Z Z hk) <| DA Z Z (fun K hk => CN1 Z fun_impl_joined Z (fun w hs => impl_joined ((OwA.s hop14).rdH eChunk hs (fun c hc => MR (ML hc))) (Nat.le_trans h12_ (by decide)) h12_ h16_) hk) <| fun v15 ch15 how15 => ?_
      obtain ⟨R15, rc15, rfl, hR15, hrd15⟩ := how15.shape eChunk
      refine dw_nil <| rw_build [_, _] Z tyB_impl_Buffer tyZ_impl_Buffer Z Z <| ST (i := 5) [_, _] [_, _] tyS_impl_Buffer.sz Z Z Z Z Z Z Z Z <| ND <| ?_
      refine gw_FP (pg PR PR) (gw_F (F' := (ch15) ++ (chp14 ++ ([]))) (by simp only [aN]) ?_)
      refine ret_cn (ch15) Try.func41 (res1 Try.func41 Z (rv_s (i := 5) [_, _] tyS_impl_Buffer Z Z Z Z)) ?_ ?_
      · refine ⟨_, Z, ?_⟩
        rw [hM_]
        exact owBuffer_mk how15
      · exact (List.sublist_append_left _ _).trans (List.sublist_append_right _ _)
  refine dz_new Z Z tyZ_int <| fun b9 => dz_new Z Z tyZ_int <| fun b10 => dz_sto Z Z (fun K hk => rw_storeF [_] [_] tyP_int.sz Z Z Z Z Z Z Z hk) <| dz_nil <| rw_perm' (pg (pp PR) PR) <| rw_take <| rw_take <| ST (i := 1) [_] [_] tyP_int.sz Z Z Z Z Z Z Z Z <| ND <| SQ <| RG <| rw_slice0 Z tyM_S_impl_Chunk (PlO Chunk.cells) <| fun v16 how16 => ?_
  obtain ⟨R16, rc16, rfl, _, _⟩ := (OwA.s how16).shape eChunk
  refine AL Z tyZ_S_impl_Chunk <| fun b11 => ST (i := 0) [_] [_] tyP_S_impl_Chunk.sz Z Z Z Z Z Z Z Z <| ND <| SQ <| RG <| rw_makeFunc Z Z <| AS Z Z <| ND <| SQ <| SQ <| RG <| FA Z tyF_impl_Buffer_1 Z <| LD (i := 6) Z tyP_S_impl_Chunk Z Z Z <| rw_len Z tyE_S_impl_Chunk Z <| MV Z Z <| ND <| BK <| gw_giveB (B' := [_, _, _, _, _, _]) 5 Z Z <| gw_giveB (B' := [_, _, _, _, _]) 4 Z Z <| gw_giveB (B' := [_, _, _, _]) 0 Z Z <| gw_giveB (B' := [_, _, _]) 1 Z Z <| gw_giveB (B' := [_, _]) 0 Z Z <| ?_
  refine gw_takeB <| gw_takeB <| gw_takeB <| gw_takeB <| gw_takeB <| ?_
  refine gw_loopX (α := Nat × Int × List Chunk × Option Addr × Nat × Nat × List Ck) (fun z_ => z_.1 ≤ x.chunks.length ∧ o ≤ z_.2.1 ∧ z_.2.2.1.length ≤ 2 * z_.1 ∧ OwA 92 2 (PlO Chunk.cells) (.slice z_.2.2.2.1 z_.2.2.2.2.1 z_.2.2.2.2.2.1) z_.2.2.1 z_.2.2.2.2.2.2 ∧ piecesOf o (w64 (o + (D.length : Int))) D (max o x.next) x.chunks = z_.2.2.1 ++ piecesOf o (w64 (o + (D.length : Int))) D z_.2.1 (x.chunks.drop z_.1)) (fun z_ => x.chunks.length - z_.1) (fun e z_ => (55, .int .i64 (z_.1 : Int)) :: e) (fun B z_ => (B.set 2 ⟨b11, 36, [.slice z_.2.2.2.1 z_.2.2.2.2.1 z_.2.2.2.2.2.1]⟩).set 4 ⟨b10, 3, [.int .i64 z_.2.1]⟩) (fun F z_ => z_.2.2.2.2.2.2 ++ ([])) (0, max o x.next, [], R16, 0, rc16, []) [(3, _), (6, _), (7, _), (8, _), (9, _), (10, _), (53, _), (54, _)] (Sub.consE Z Z (Sub.cons (i := 3) Z (Sub.cons (i := 6) Z (Sub.cons (i := 7) Z (Sub.cons (i := 8) Z (Sub.cons (i := 9) Z (Sub.cons (i := 10) Z (Sub.cons (i := 53) Z (Sub.cons (i := 54) Z (Sub.nil _)))))))))) Z Z ?_ ?_
  · exact ⟨Nat.zero_le _, by show o ≤ max o _; omega, Nat.le_refl _, how16, rfl⟩
  · rintro ⟨i, f, L, A_, n_, cp_, ch⟩ hI17 ih17
    dsimp only at hI17
    dsimp only [List.set]
    obtain ⟨hle, hof_, hLl_, hO, hP_⟩ := hI17
    refine SQ <| RG <| rw_lss Z Z Z <| ND <| SQ <| ?_
    refine gw_cond Z (fun h3 => ?_) (fun h3 => ?_)
    · have hi18 := lt_of_dec h3
      obtain ⟨x19, hx19⟩ := get_of_lt hi18
      have hd19 := drop_cons hx19
      refine SK <| SQ <| BK <| SQ <| RG <| ?_
      have hq20 := hA0.plain hx19
      refine rw_indexAddr (i) Z tyE_S_impl_Chunk Z Z Z (hA0.some hi18) hi18 <| rw_loadX_s [_, _] Z tyS_impl_Chunk Z Z (fun w hs => hq20.lds0 (n := 2) hs Z) <| AL Z tyZ_impl_Chunk <| fun b12 => ST (i := 0) [_, _] [_, _] tyS_impl_Chunk.sz Z Z Z Z Z Z Z Z <| ND <| SQ <| RG <| MV Z Z <| FA Z tyF_impl_Chunk_0 Z <| LD (i := 0) Z tyP_int Z Z Z <| rw_giveB (B' := [_, _, _, _, _, _, _]) 1 Z Z <| rw_giveB (B' := [_, _, _, _, _, _]) 1 Z Z <| rw_giveB (B' := [_, _, _, _, _]) 1 Z Z <| rw_giveB (B' := [_, _, _, _]) 1 Z Z <| ?_
      refine rw_giveB (B' := [_, _, _]) 1 Z Z <| rw_chF (R := []) Z Z fun_impl_InsertData_1 Z PR (fun w hs hin hnd => impl_InsertData_1 (D := D) (f := f) (o := o) (e := (w64 (o + (D.length : Int)))) x19.offset (L := L) hO hI.h0 hof_ hE_ hE16_ (by omega) hin hnd) <| fun v21 ch21 how21 => ?_
      obtain ⟨vp21, chp21, rfl, hop21, rfl⟩ := how21
      refine rw_F (F' := [_] ++ ([_] ++ ([_] ++ ([_] ++ ([_] ++ (chp21 ++ ([]))))))) Z <| rw_take <| rw_take <| rw_take <| rw_take <| rw_take <| ND <| SQ <| RG <| LD (i := 2) Z tyP_S_impl_Chunk Z Z Z <| LS (i := 5) [_, _] Z tyS_impl_Chunk Z Z Z Z <| rw_slice1F (xs := [(0, _)]) [_, _] Z tyM_S_impl_Chunk Z Z Z <| fun v22 ch22 how22 => ?_
      obtain ⟨bl22, rfl, hch22⟩ := how22
      have hpl_ := putP_len o (w64 (o + (D.length : Int))) D f x19.offset
      have hpm24 : (ch22 ++ (chp21 ++ ([]))).Perm (chp21 ++ ([] ++ (ch22 ++ ([])))) := by
        refine List.Perm.trans ((pg (pp PR) PR) : (ch22 ++ (chp21 ++ ([]))).Perm (chp21 ++ (ch22 ++ ([])))) (List.Perm.of_eq ?_)
        simp only [List.nil_append]
      refine rw_append1F (a := x19) (ch2 := []) (F2 := ch22 ++ ([])) Z tyM_S_impl_Chunk eChunk Z Z (mem_ch hch22 (fun c hc => ML hc)) hop21 ⟨Z, Z⟩ hpm24 (by simp only [List.length_append]; omega) <| fun v23 ch23 how23 => ?_
      obtain ⟨R25, rc25, rfl, _, _⟩ := (OwA.s how23).shape eChunk
      refine ST (i := 2) [_] [_] tyP_S_impl_Chunk.sz Z Z Z Z Z Z Z Z <| ND <| gw_draw' [dd 0, dd 1, dd 2] [3, 4] mixed Z (FD Z) (ts := [_, _]) Z <| DT Z Z (fun K hk => LD (i := 4) Z tyP_int Z Z Z hk) <| DT Z Z (fun K hk => LS (i := 5) [_, _] Z tyS_impl_Chunk Z Z Z Z hk) <| DT Z Z (fun K hk => CV1 Z fun_impl_Chunk_end Z (fun w hs => impl_Chunk_end _ w) hk) <| dw_nil <| rw_max Z Z Z <| ST (i := 4) [_] [_] tyP_int.sz Z Z Z Z Z Z Z Z <| ND <| IB <| RG <| ?_
      refine rw_add Z Z Z <| MV Z Z <| ND <| ?_
      refine gw_dropF (F' := ch23 ++ ([])) (List.Sublist.append_left (List.nil_sublist _) _) <| gw_eraseB (B' := [_, _, _, _, _, _, _]) 5 Z <| ?_
      refine gw_sub (Sub.consE (i := 55) Z (int_succ (by omega)) (Sub.cons (i := 3) Z (Sub.cons (i := 6) Z (Sub.cons (i := 7) Z (Sub.cons (i := 8) Z (Sub.cons (i := 9) Z (Sub.cons (i := 10) Z (Sub.cons (i := 53) Z (Sub.cons (i := 54) Z (Sub.nil _)))))))))) (ih17 (i + 1, max f (chunkEnd x19), ((L ++ putP o (w64 (o + (D.length : Int))) D f x19.offset) ++ [x19]), R25, ((L ++ putP o (w64 (o + (D.length : Int))) D f x19.offset) ++ [x19]).length, rc25, ch23) ?_ ?_)
      · refine ⟨by have := hi18; omega, by show o ≤ max f _; omega, ?_, how23, ?_⟩
        · show (((L ++ putP o (w64 (o + (D.length : Int))) D f x19.offset) ++ [x19])).length ≤ 2 * (i + 1); simp only [List.length_append, List.length_cons, List.length_nil]; omega
        · rw [hP_, hd19, pieces_cons, ← List.append_assoc, ← List.append_assoc]
      · show x.chunks.length - (i + 1) < x.chunks.length - i; have := hi18; omega
    have hn27 := nil_of_dec h3
    refine EX Z <| SQ <| RG <| MV Z Z <| LD (i := 3) Z tyP_int Z Z Z <| rw_giveB (B' := [_, _, _, _, _, _]) 0 Z Z <| rw_giveB (B' := [_, _, _, _, _]) 0 Z Z <| rw_giveB (B' := [_, _, _, _]) 0 Z Z <| rw_giveB (B' := [_, _, _]) 0 Z Z <| rw_giveB (B' := [_, _]) 0 Z Z <| rw_chF (R := []) Z Z fun_impl_InsertData_1 Z PR (fun w hs hin hnd => impl_InsertData_1 (D := D) (f := f) (o := o) (e := (w64 (o + (D.length : Int)))) (w64 (o + (D.length : Int))) (L := L) hO hI.h0 hof_ hE_ hE16_ (by omega) hin hnd) <| fun v28 ch28 how28 => ?_
    obtain ⟨vp28, chp28, rfl, hop28, rfl⟩ := how28
    refine rw_F (F' := [_] ++ ([_] ++ ([_] ++ ([_] ++ ([_] ++ (chp28 ++ ([]))))))) Z <| rw_take <| rw_take <| rw_take <| rw_take <| rw_take <| ND <| SQ <| RG <| LD (i := 2) Z tyP_S_impl_Chunk Z Z Z <| ?_
    obtain ⟨h12_, hs_, h16_, hM_⟩ := hI.fin hne_ (L := (L ++ putP o (w64 (o + (D.length : Int))) D f (w64 (o + (D.length : Int))))) (by rw [hP_, hn27, pieces_nil])
    refine CV1 Z fun_slices_SortFunc_S_impl_Chunk_impl_Chunk Z (fun w hs => slices_SortFunc ((OwA.s hop28).rdH eChunk hs (fun c hc => MR (ML hc))) (Nat.le_trans h12_ (by decide)) hs_ h12_) <| ND <| SQ <| gw_draw' [dd 0, dd 1, dd 2, (3, .add)] [4, 5] mixed Z (FD Z) (ts := [_, _]) Z <| DT Z Z (fun K hk => FA Z tyF_impl_Buffer_0 Z hk) <| DT Z Z (fun K hk => LD (i := 6) Z tyP_int Z Z Z hk) <| DT Z Z (fun K hk => LD (i := 2) Z tyP_S_impl_Chunk Z Z Z hk) <| DA Z Z (fun K hk => CN1 Z fun_impl_joined Z (fun w hs => impl_joined ((OwA.s hop28).rdH eChunk hs (fun c hc => MR (ML hc))) (Nat.le_trans h12_ (by decide)) h12_ h16_) hk) <| fun v29 ch29 how29 => ?_
    obtain ⟨R29, rc29, rfl, hR29, hrd29⟩ := how29.shape eChunk
    refine dw_nil <| rw_build [_, _] Z tyB_impl_Buffer tyZ_impl_Buffer Z Z <| ST (i := 5) [_, _] [_, _] tyS_impl_Buffer.sz Z Z Z Z Z Z Z Z <| ND <| ?_
    refine gw_FP (pg PR PR) (gw_F (F' := (ch29) ++ (chp28 ++ ([]))) (by simp only [aN]) ?_)
    refine ret_cn (ch29) Try.func41 (res1 Try.func41 Z (rv_s (i := 5) [_, _] tyS_impl_Buffer Z Z Z Z)) ?_ ?_
    · refine ⟨_, Z, ?_⟩
      rw [hM_]
      exact owBuffer_mk how29
    · exact (List.sublist_append_left _ _).trans (List.sublist_append_right _ _)
end Go.Proofs.Ytbhnekiclbfmgaa
