/- Walks: copies, marks. -/
import Derived.Test.YtildklpahfbnpaaWY
import Derived.Test.YtildklpahfbnpaaFactsZ42
namespace Go.Proofs.Ytildklpahfbnpaa
open SL Go.RowKit
def closeTo (x : Conn) (c : Int) : Conn := { x with closed := c }
set_option maxHeartbeats 4000000 in
theorem spec_l17Copy {w : World} {cs : List Value} {x : Conn} (hv : RdConn w cs x) (hb : x.le 1048576) : CN Try.prog 95 [.agg cs.toArray] w (OwV OwConn x) := by
  obtain ⟨v0, v1, rfl, k0, k1⟩ := hv
  obtain ⟨A0, c0, rfl, hA0⟩ := k0
  obtain ⟨A1, c1, rfl, hA1⟩ := k1
  obtain ⟨hb0, hb1, hb2, hb3⟩ := hb
  refine cn_of Try.func95 rfl rfl rfl <| SQ <| RG <| BX [_, _, _, _, _, _, _, _, _, _, _, _, _, _, _, _, _, _, _, _, _, _, _, _, _, _, _, _, _, _, _, _, _, _, _, _, _, _, _, _, _, _, _, _, _, _, _, _, _, _] rfl rfl rfl <| fun b1 => AL rfl tyZ_impl_Conn <| fun b2 => ND <| SQ <| RG <| LS (i := 1) [_, _, _, _, _, _, _, _, _, _, _, _, _, _, _, _, _, _, _, _, _, _, _, _, _, _, _, _, _, _, _, _, _, _, _, _, _, _, _, _, _, _, _, _, _, _, _, _, _, _] rfl tyS_impl_Conn rfl rfl rfl rfl <| AL rfl tyZ_impl_Conn <| fun b3 => rw_storeN (i := 0) [_, _, _, _, _, _, _, _, _, _, _, _, _, _, _, _, _, _, _, _, _, _, _, _, _, _, _, _, _, _, _, _, _, _, _, _, _, _, _, _, _, _, _, _, _, _, _, _, _, _] [_, _, _, _, _, _, _, _, _, _, _, _, _, _, _, _, _, _, _, _, _, _, _, _, _, _, _, _, _, _, _, _, _, _, _, _, _, _, _, _, _, _, _, _, _, _, _, _, _, _] [_, _, _] tyS_impl_Conn.sz rfl rfl rfl rfl rfl rfl rfl rfl rfl <| ?_
  refine ND <| SQ <| RG <| rw_slice0 rfl tyM_S_impl_Stream OwStream <| fun v1 how1 => ?_
  obtain ⟨R1, rc1, rfl, _, _⟩ := (OwA.s how1).shape eStream
  refine FA rfl tyF_impl_Conn_3 rfl <| rw_storeN (i := 0) [_] [_, _, _, _, _, _, _, _, _, _, _, _, _, _, _, _, _, _, _, _, _, _, _, _, _, _, _, _, _, _, _, _, _, _, _, _, _, _, _, _, _, _, _, _, _, _, _, _, _, _] [_, _, _] tyP_S_impl_Stream.sz rfl rfl rfl rfl rfl rfl rfl rfl rfl <| ND <| SQ <| SQ <| RG <| AS rfl rfl <| ND <| BK <| ?_
  refine gw_loopX (α := Nat × Option Addr × Nat × Nat × List Ck) (fun z_ => z_.1 ≤ x.streams.length ∧ OwA 56 39 OwStream (.slice z_.2.1 z_.2.2.1 z_.2.2.2.1) (x.streams.take z_.1) z_.2.2.2.2) (fun z_ => x.streams.length - z_.1) (fun e z_ => (4, .int .i64 (z_.1 : Int)) :: e) (fun B z_ => B.set 0 ⟨b3, 88, Conn.row x (.slice z_.2.1 z_.2.2.1 z_.2.2.2.1) (.slice A1 x.packets.length c1)⟩) (fun F z_ => z_.2.2.2.2 ++ ([])) (0, R1, 0, rc1, []) [(1, _), (2, _), (3, _)] (Sub.consE rfl rfl (Sub.cons (i := 1) rfl (Sub.cons (i := 2) rfl (Sub.cons (i := 3) rfl (Sub.nil _))))) rfl rfl ?_ ?_
  · exact ⟨Nat.zero_le _, how1⟩
  · rintro ⟨i, A_, n_, cp_, ch⟩ hI2 ih2
    dsimp only at hI2
    dsimp only [List.set]
    obtain ⟨hle, hO⟩ := hI2
    refine SQ <| SQ <| RG <| MV rfl rfl <| FA rfl tyF_impl_Conn_3 rfl <| LD (i := 2) rfl tyP_S_impl_Stream rfl rfl rfl <| rw_len rfl tyE_S_impl_Stream rfl <| rw_lss rfl rfl rfl <| ND <| ?_
    refine gw_cond rfl (fun h1 => ?_) (fun h1 => ?_)
    · have hi3 := lt_of_dec h1
      obtain ⟨x4, hx4⟩ := get_of_lt hi3
      have hd4 := drop_cons hx4
      refine SK <| SQ <| BK <| SQ <| RG <| FA rfl tyF_impl_Conn_3 rfl <| LD (i := 2) rfl tyP_S_impl_Stream rfl rfl rfl <| MV rfl rfl <| ?_
      obtain ⟨cse5_, hRe5_, hq5⟩ := hA0.get hx4
      obtain ⟨ve5_0, ve5_1, ve5_2, ve5_3, ve5_4, rfl, ke5_0, ke5_1, ke5_2, ke5_3, ke5_4⟩ := hRe5_
      obtain ⟨Ae5_0, ce5_0, rfl, hAe5_0⟩ := ke5_0
      obtain ⟨Ae5_1, ce5_1, rfl, hAe5_1⟩ := ke5_1
      obtain ⟨Ae5_2, ce5_2, rfl, hAe5_2⟩ := ke5_2
      obtain ⟨Ae5_3, ce5_3, rfl, hAe5_3⟩ := ke5_3
      obtain ⟨Ae5_4, ce5_4, rfl, hAe5_4⟩ := ke5_4
      obtain ⟨hbe5_0, hbe5_1, hbe5_2, hbe5_3, hbe5_4, hbe5_5⟩ := hb1 x4 (List.mem_of_getElem? hx4)
      refine rw_indexAddr (i) rfl tyE_S_impl_Stream rfl rfl rfl (hA0.some hi3) hi3 <| rw_loadX_s [_, _, _, _, _, _, _, _, _, _, _, _, _, _, _, _, _, _, _, _, _, _, _, _, _, _, _, _, _, _, _, _, _, _, _, _, _, _, _] rfl tyS_impl_Stream rfl rfl (fun w hs => hq5.lds0 (n := 39) hs rfl) <| CN1 rfl fun_spec_l15Copy rfl (fun w hs => spec_l15Copy ⟨_, _, _, _, _, rfl, (hAe5_0.s Pl.keeps hs), (hAe5_1.s Pl.keeps hs), (hAe5_2.s Pl.keeps hs), (hAe5_3.s Pl.keeps hs), (hAe5_4.s Pl.keeps hs)⟩ ⟨hbe5_0, hbe5_1, hbe5_2, hbe5_3, hbe5_4, hbe5_5⟩) <| fun vv6 ch6 how6 => ?_
      obtain ⟨cs6, rfl, v6_0, v6_1, v6_2, v6_3, v6_4, c6_0, c6_1, c6_2, c6_3, c6_4, rfl, h6_0, h6_1, h6_2, h6_3, h6_4, rfl⟩ := how6
      refine rw_F (F' := c6_0 ++ (c6_1 ++ (c6_2 ++ (c6_3 ++ (c6_4 ++ (ch ++ ([]))))))) (by simp only [List.append_assoc]) <| ?_
      obtain ⟨R6_0, b6_0, rfl, hR6_0, hrd6_0⟩ := h6_0.shape eInt
      obtain ⟨R6_1, b6_1, rfl, hR6_1, hrd6_1⟩ := h6_1.shape eRange
      obtain ⟨R6_2, b6_2, rfl, hR6_2, hrd6_2⟩ := h6_2.shape eRange
      obtain ⟨R6_3, b6_3, rfl, hR6_3, hrd6_3⟩ := h6_3.shape eRange
      obtain ⟨R6_4, b6_4, rfl, hR6_4, hrd6_4⟩ := h6_4.shape eChunk
      refine AL rfl tyZ_impl_Stream <| fun b4 => rw_storeN (i := 0) [_, _, _, _, _, _, _, _, _, _, _, _, _, _, _, _, _, _, _, _, _, _, _, _, _, _, _, _, _, _, _, _, _, _, _, _, _, _, _] [_, _, _, _, _, _, _, _, _, _, _, _, _, _, _, _, _, _, _, _, _, _, _, _, _, _, _, _, _, _, _, _, _, _, _, _, _, _, _] [_, _, _, _] tyS_impl_Stream.sz rfl rfl rfl rfl rfl rfl rfl rfl rfl <| ND <| RG <| FA rfl tyF_impl_Conn_3 rfl <| LD (i := 1) rfl tyP_S_impl_Stream rfl rfl rfl <| LS (i := 0) [_, _, _, _, _, _, _, _, _, _, _, _, _, _, _, _, _, _, _, _, _, _, _, _, _, _, _, _, _, _, _, _, _, _, _, _, _, _, _] rfl tyS_impl_Stream rfl rfl rfl rfl <| ?_
      refine rw_slice (xs := [(0, _)]) [_, _, _, _, _, _, _, _, _, _, _, _, _, _, _, _, _, _, _, _, _, _, _, _, _, _, _, _, _, _, _, _, _, _, _, _, _, _, _] rfl tyM_S_impl_Stream rfl rfl rfl rfl <| fun b5 => ?_
      have hpm8 : (c6_0 ++ (c6_1 ++ (c6_2 ++ (c6_3 ++ (c6_4 ++ (ch ++ ([]))))))).Perm (ch ++ ((c6_0 ++ (c6_1 ++ (c6_2 ++ (c6_3 ++ (c6_4))))) ++ ([]))) := by
        refine List.Perm.trans ((((((((((((((((((List.Perm.refl _)).append_left _).trans (pullc _ _ _))).append_left _).trans (pullc _ _ _))).append_left _).trans (pullc _ _ _))).append_left _).trans (pullc _ _ _))).append_left _).trans (pullc _ _ _)).trans (((List.Perm.refl _).trans (((List.Perm.refl _).trans (((List.Perm.refl _).trans (((List.Perm.refl _).trans (((List.Perm.refl _).trans ((List.Perm.refl _).append_left _)).append_left _)).append_left _)).append_left _)).append_left _)).append_left _)) : (c6_0 ++ (c6_1 ++ (c6_2 ++ (c6_3 ++ (c6_4 ++ (ch ++ ([]))))))).Perm (ch ++ (c6_0 ++ (c6_1 ++ (c6_2 ++ (c6_3 ++ (c6_4 ++ ([])))))))) (List.Perm.of_eq ?_)
        simp only [List.append_assoc, List.nil_append]
      refine rw_append1 (i := 0) (a := x4) (ch2 := c6_0 ++ (c6_1 ++ (c6_2 ++ (c6_3 ++ (c6_4))))) (F2 := []) rfl tyM_S_impl_Stream eStream rfl rfl rfl hO ⟨_, _, _, _, _, _, _, _, _, _, rfl, h6_0, h6_1, h6_2, h6_3, h6_4, rfl⟩ hpm8 (by simp only [List.length_take]; omega) <| fun v7 ch7 how7 => ?_
      obtain ⟨R9, rc9, rfl, _, _⟩ := (OwA.s how7).shape eStream
      refine FA rfl tyF_impl_Conn_3 rfl <| rw_storeN (i := 2) [_] [_, _, _, _, _, _, _, _, _, _, _, _, _, _, _, _, _, _, _, _, _, _, _, _, _, _, _, _, _, _, _, _, _, _, _, _, _, _, _, _, _, _, _, _, _, _, _, _, _, _] [_, _, _, _, _] tyP_S_impl_Stream.sz rfl rfl rfl rfl rfl rfl rfl rfl rfl <| ND <| IB <| RG <| MV rfl rfl <| rw_add rfl rfl rfl <| AS rfl rfl <| ND <| gw_dropN 2 <| ?_
      refine gw_sub (Sub.consE (i := 4) rfl (int_succ (by omega)) (Sub.cons (i := 1) rfl (Sub.cons (i := 2) rfl (Sub.cons (i := 3) rfl (Sub.nil _))))) (ih2 (i + 1, R9, ((x.streams.take i) ++ [x4]).length, rc9, ch7) ?_ ?_)
      · exact ⟨by omega, by rw [take_snoc hx4]; exact how7⟩
      · show x.streams.length - (i + 1) < x.streams.length - i; omega
    · have hn10 := nil_of_dec h1
      refine EX rfl <| SQ <| RG <| FA rfl tyF_impl_Conn_15 rfl <| LD (i := 2) rfl tyP_S_impl_Packet rfl rfl rfl <| CN1 rfl fun_spec_l17Packets rfl (fun w hs => spec_l17Packets (hA1.s RdPacket.keeps hs) hb2 hb3) <| fun v11 ch11 how11 => ?_
      obtain ⟨R11, rc11, rfl, hR11, hrd11⟩ := how11.shape ePacket
      refine FA rfl tyF_impl_Conn_15 rfl <| rw_storeN (i := 0) [_] [_, _, _, _, _, _, _, _, _, _, _, _, _, _, _, _, _, _, _, _, _, _, _, _, _, _, _, _, _, _, _, _, _, _, _, _, _, _, _, _, _, _, _, _, _, _, _, _, _, _] [_, _, _] tyP_S_impl_Packet.sz rfl rfl rfl rfl rfl rfl rfl rfl rfl <| ND <| SQ <| RG <| LS (i := 0) [_, _, _, _, _, _, _, _, _, _, _, _, _, _, _, _, _, _, _, _, _, _, _, _, _, _, _, _, _, _, _, _, _, _, _, _, _, _, _, _, _, _, _, _, _, _, _, _, _, _] rfl tyS_impl_Conn rfl rfl rfl rfl <| rw_storeN (i := 1) [_, _, _, _, _, _, _, _, _, _, _, _, _, _, _, _, _, _, _, _, _, _, _, _, _, _, _, _, _, _, _, _, _, _, _, _, _, _, _, _, _, _, _, _, _, _, _, _, _, _] [_, _, _, _, _, _, _, _, _, _, _, _, _, _, _, _, _, _, _, _, _, _, _, _, _, _, _, _, _, _, _, _, _, _, _, _, _, _, _, _, _, _, _, _, _, _, _, _, _, _] [_, _, _] tyS_impl_Conn.sz rfl rfl rfl rfl rfl rfl rfl rfl rfl <| ?_
      refine ND <| ?_
      rw [take_all hn10] at hO
      refine ret_cnP (ch := ch ++ (ch11)) (G := ch ++ (ch11 ++ ([]))) (F' := []) Try.func95 (res1 Try.func95 rfl (rv_s (i := 1) [_, _, _, _, _, _, _, _, _, _, _, _, _, _, _, _, _, _, _, _, _, _, _, _, _, _, _, _, _, _, _, _, _, _, _, _, _, _, _, _, _, _, _, _, _, _, _, _, _, _] tyS_impl_Conn rfl rfl rfl rfl)) ?_ ?_ ?_
      · exact ⟨_, rfl, _, _, _, _, rfl, (OwA.s hO), how11, rfl⟩
      · exact (((((List.Perm.refl _)).append_left _).trans (pullc _ _ _)).trans (((List.Perm.refl _).trans ((List.Perm.refl _).append_left _)).append_left _))
      · simp only [List.append_assoc]

theorem spec_l1In (a b c : Int) (w : World) : CV Try.prog 96 [.int .i64 a, .int .i64 b, .int .i64 c] w (.bool (within a b c)) := by
  refine cv_of Try.func96 rfl rfl rfl <| SQ <| RG <| AS rfl rfl <| ND <| SQ <| RG <| MV rfl rfl <| MV rfl rfl <| rw_geq rfl rfl rfl <| MV rfl rfl <| ?_
  refine rw_case (j := 10) rfl (fun h1 => ?_) (fun h1 => ?_)
  · refine ON rfl rfl h1 <| MV rfl rfl <| ON rfl rfl h1 <| MV rfl rfl <| ON rfl rfl h1 <| rw_leq rfl rfl rfl <| PT rfl rfl h1 rfl <| AS rfl rfl <| ND <| ret_cv Try.func96 (res1 Try.func96 rfl (rv_tmp rfl)) <| ?_
    simp only [within, h1] <;> rfl
  · refine OF rfl rfl h1 rfl <| OF rfl rfl h1 rfl <| OF rfl rfl h1 rfl <| PF rfl rfl h1 rfl <| AS rfl rfl <| ND <| ret_cv Try.func96 (res1 Try.func96 rfl (rv_tmp rfl)) <| ?_
    simp only [within, h1] <;> rfl

set_option maxHeartbeats 2000000 in
theorem spec_CloseConn_T {w : World} {cs : List Value} {x : Conn} (hv : RdConn w cs x) (hb : x.le 1048576) {code : Int} (hc : (x.closed == 0 && within code 1 255) = true) : CN Try.prog 31 [.agg cs.toArray, .int .i64 code] w (OwV OwConn (closeTo x code)) := by
  obtain ⟨v0, v1, rfl, k0, k1⟩ := hv
  obtain ⟨A0, c0, rfl, hA0⟩ := k0
  obtain ⟨A1, c1, rfl, hA1⟩ := k1
  obtain ⟨hb0, hb1, hb2, hb3⟩ := hb
  refine cn_of Try.func31 rfl rfl rfl <| SQ <| RG <| BX [_, _, _, _, _, _, _, _, _, _, _, _, _, _, _, _, _, _, _, _, _, _, _, _, _, _, _, _, _, _, _, _, _, _, _, _, _, _, _, _, _, _, _, _, _, _, _, _, _, _] rfl rfl rfl <| fun b1 => AL rfl tyZ_impl_Conn <| fun b2 => ND <| SQ <| RG <| LS (i := 1) [_, _, _, _, _, _, _, _, _, _, _, _, _, _, _, _, _, _, _, _, _, _, _, _, _, _, _, _, _, _, _, _, _, _, _, _, _, _, _, _, _, _, _, _, _, _, _, _, _, _] rfl tyS_impl_Conn rfl rfl rfl rfl <| CN1 rfl fun_spec_l17Copy rfl (fun w hs => spec_l17Copy ⟨_, _, rfl, (hA0.s RdStream.keeps hs), (hA1.s RdPacket.keeps hs)⟩ ⟨hb0, hb1, hb2, hb3⟩) <| fun vv1 ch1 how1 => ?_
  obtain ⟨cs1, rfl, v1_0, v1_1, c1_0, c1_1, rfl, h1_0, h1_1, rfl⟩ := how1
  refine rw_F (F' := c1_0 ++ (c1_1 ++ ([]))) (by simp only [List.append_assoc]) <| ?_
  obtain ⟨R1_0, b1_0, rfl, hR1_0, hrd1_0⟩ := h1_0.shape eStream
  obtain ⟨R1_1, b1_1, rfl, hR1_1, hrd1_1⟩ := h1_1.shape ePacket
  refine AL rfl tyZ_impl_Conn <| fun b3 => rw_storeN (i := 0) [_, _, _, _, _, _, _, _, _, _, _, _, _, _, _, _, _, _, _, _, _, _, _, _, _, _, _, _, _, _, _, _, _, _, _, _, _, _, _, _, _, _, _, _, _, _, _, _, _, _] [_, _, _, _, _, _, _, _, _, _, _, _, _, _, _, _, _, _, _, _, _, _, _, _, _, _, _, _, _, _, _, _, _, _, _, _, _, _, _, _, _, _, _, _, _, _, _, _, _, _] [_, _, _] tyS_impl_Conn.sz rfl rfl rfl rfl rfl rfl rfl rfl rfl <| ND <| SQ <| SQ <| RG <| FA rfl tyF_impl_Conn_17 rfl <| LD (i := 2) rfl tyP_int rfl rfl rfl <| EQ1 rfl rfl rfl <| MV rfl rfl <| ?_
  refine rw_case (j := 11) rfl (fun h1 => ?_) (fun h1 => ?_)
  · refine ON rfl rfl h1 <| MV rfl rfl <| ON rfl rfl h1 <| CV1 rfl fun_spec_l1In rfl (fun w hs => spec_l1In _ _ _ w) <| PT rfl rfl h1 rfl <| ND <| ?_
    refine gw_cond rfl (fun h2 => ?_) (fun h2 => ?_)
    · refine RG <| MV rfl rfl <| FA rfl tyF_impl_Conn_17 rfl <| rw_storeN (i := 0) [_] [_, _, _, _, _, _, _, _, _, _, _, _, _, _, _, _, _, _, _, _, _, _, _, _, _, _, _, _, _, _, _, _, _, _, _, _, _, _, _, _, _, _, _, _, _, _, _, _, _, _] [_, _, _] tyP_int.sz rfl rfl rfl rfl rfl rfl rfl rfl rfl <| ND <| SQ <| RG <| LS (i := 0) [_, _, _, _, _, _, _, _, _, _, _, _, _, _, _, _, _, _, _, _, _, _, _, _, _, _, _, _, _, _, _, _, _, _, _, _, _, _, _, _, _, _, _, _, _, _, _, _, _, _] rfl tyS_impl_Conn rfl rfl rfl rfl <| rw_storeN (i := 1) [_, _, _, _, _, _, _, _, _, _, _, _, _, _, _, _, _, _, _, _, _, _, _, _, _, _, _, _, _, _, _, _, _, _, _, _, _, _, _, _, _, _, _, _, _, _, _, _, _, _] [_, _, _, _, _, _, _, _, _, _, _, _, _, _, _, _, _, _, _, _, _, _, _, _, _, _, _, _, _, _, _, _, _, _, _, _, _, _, _, _, _, _, _, _, _, _, _, _, _, _] [_, _, _] tyS_impl_Conn.sz rfl rfl rfl rfl rfl rfl rfl rfl rfl <| ?_
      refine ND <| ?_
      refine ret_cnP (ch := c1_0 ++ (c1_1)) (G := c1_0 ++ (c1_1 ++ ([]))) (F' := []) Try.func31 (res1 Try.func31 rfl (rv_s (i := 1) [_, _, _, _, _, _, _, _, _, _, _, _, _, _, _, _, _, _, _, _, _, _, _, _, _, _, _, _, _, _, _, _, _, _, _, _, _, _, _, _, _, _, _, _, _, _, _, _, _, _] tyS_impl_Conn rfl rfl rfl rfl)) ?_ ?_ ?_
      · exact ⟨_, rfl, _, _, _, _, rfl, h1_0, h1_1, rfl⟩
      · exact ((List.Perm.refl _).trans (((List.Perm.refl _).trans ((List.Perm.refl _).append_left _)).append_left _))
      · simp only [List.append_assoc]
    · refine SK <| SQ <| ?_
      exact absurd hc (by simp [h1, h2])
  · refine OF rfl rfl h1 rfl <| OF rfl rfl h1 rfl <| PF rfl rfl h1 rfl <| ND <| CF rfl rfl <| SK <| SQ <| ?_
    exact absurd hc (by simp [h1])

set_option maxHeartbeats 2000000 in
theorem spec_CloseConn_F {w : World} {cs : List Value} {x : Conn} (hv : RdConn w cs x) (hb : x.le 1048576) {code : Int} (hc : (x.closed == 0 && within code 1 255) = false) : CN Try.prog 31 [.agg cs.toArray, .int .i64 code] w (OwV OwConn x) := by
  obtain ⟨v0, v1, rfl, k0, k1⟩ := hv
  obtain ⟨A0, c0, rfl, hA0⟩ := k0
  obtain ⟨A1, c1, rfl, hA1⟩ := k1
  obtain ⟨hb0, hb1, hb2, hb3⟩ := hb
  refine cn_of Try.func31 rfl rfl rfl <| SQ <| RG <| BX [_, _, _, _, _, _, _, _, _, _, _, _, _, _, _, _, _, _, _, _, _, _, _, _, _, _, _, _, _, _, _, _, _, _, _, _, _, _, _, _, _, _, _, _, _, _, _, _, _, _] rfl rfl rfl <| fun b1 => AL rfl tyZ_impl_Conn <| fun b2 => ND <| SQ <| RG <| LS (i := 1) [_, _, _, _, _, _, _, _, _, _, _, _, _, _, _, _, _, _, _, _, _, _, _, _, _, _, _, _, _, _, _, _, _, _, _, _, _, _, _, _, _, _, _, _, _, _, _, _, _, _] rfl tyS_impl_Conn rfl rfl rfl rfl <| CN1 rfl fun_spec_l17Copy rfl (fun w hs => spec_l17Copy ⟨_, _, rfl, (hA0.s RdStream.keeps hs), (hA1.s RdPacket.keeps hs)⟩ ⟨hb0, hb1, hb2, hb3⟩) <| fun vv1 ch1 how1 => ?_
  obtain ⟨cs1, rfl, v1_0, v1_1, c1_0, c1_1, rfl, h1_0, h1_1, rfl⟩ := how1
  refine rw_F (F' := c1_0 ++ (c1_1 ++ ([]))) (by simp only [List.append_assoc]) <| ?_
  obtain ⟨R1_0, b1_0, rfl, hR1_0, hrd1_0⟩ := h1_0.shape eStream
  obtain ⟨R1_1, b1_1, rfl, hR1_1, hrd1_1⟩ := h1_1.shape ePacket
  refine AL rfl tyZ_impl_Conn <| fun b3 => rw_storeN (i := 0) [_, _, _, _, _, _, _, _, _, _, _, _, _, _, _, _, _, _, _, _, _, _, _, _, _, _, _, _, _, _, _, _, _, _, _, _, _, _, _, _, _, _, _, _, _, _, _, _, _, _] [_, _, _, _, _, _, _, _, _, _, _, _, _, _, _, _, _, _, _, _, _, _, _, _, _, _, _, _, _, _, _, _, _, _, _, _, _, _, _, _, _, _, _, _, _, _, _, _, _, _] [_, _, _] tyS_impl_Conn.sz rfl rfl rfl rfl rfl rfl rfl rfl rfl <| ND <| SQ <| SQ <| RG <| FA rfl tyF_impl_Conn_17 rfl <| LD (i := 2) rfl tyP_int rfl rfl rfl <| EQ1 rfl rfl rfl <| MV rfl rfl <| ?_
  refine rw_case (j := 11) rfl (fun h1 => ?_) (fun h1 => ?_)
  · refine ON rfl rfl h1 <| MV rfl rfl <| ON rfl rfl h1 <| CV1 rfl fun_spec_l1In rfl (fun w hs => spec_l1In _ _ _ w) <| PT rfl rfl h1 rfl <| ND <| ?_
    refine gw_cond rfl (fun h2 => ?_) (fun h2 => ?_)
    · exact absurd hc (by simp [h1, h2])
    · refine SK <| SQ <| RG <| LS (i := 0) [_, _, _, _, _, _, _, _, _, _, _, _, _, _, _, _, _, _, _, _, _, _, _, _, _, _, _, _, _, _, _, _, _, _, _, _, _, _, _, _, _, _, _, _, _, _, _, _, _, _] rfl tyS_impl_Conn rfl rfl rfl rfl <| rw_storeN (i := 1) [_, _, _, _, _, _, _, _, _, _, _, _, _, _, _, _, _, _, _, _, _, _, _, _, _, _, _, _, _, _, _, _, _, _, _, _, _, _, _, _, _, _, _, _, _, _, _, _, _, _] [_, _, _, _, _, _, _, _, _, _, _, _, _, _, _, _, _, _, _, _, _, _, _, _, _, _, _, _, _, _, _, _, _, _, _, _, _, _, _, _, _, _, _, _, _, _, _, _, _, _] [_, _, _] tyS_impl_Conn.sz rfl rfl rfl rfl rfl rfl rfl rfl rfl <| ?_
      refine ND <| ?_
      refine ret_cnP (ch := c1_0 ++ (c1_1)) (G := c1_0 ++ (c1_1 ++ ([]))) (F' := []) Try.func31 (res1 Try.func31 rfl (rv_s (i := 1) [_, _, _, _, _, _, _, _, _, _, _, _, _, _, _, _, _, _, _, _, _, _, _, _, _, _, _, _, _, _, _, _, _, _, _, _, _, _, _, _, _, _, _, _, _, _, _, _, _, _] tyS_impl_Conn rfl rfl rfl rfl)) ?_ ?_ ?_
      · exact ⟨_, rfl, _, _, _, _, rfl, h1_0, h1_1, rfl⟩
      · exact ((List.Perm.refl _).trans (((List.Perm.refl _).trans ((List.Perm.refl _).append_left _)).append_left _))
      · simp only [List.append_assoc]
  · refine OF rfl rfl h1 rfl <| OF rfl rfl h1 rfl <| PF rfl rfl h1 rfl <| ND <| CF rfl rfl <| SK <| SQ <| RG <| LS (i := 0) [_, _, _, _, _, _, _, _, _, _, _, _, _, _, _, _, _, _, _, _, _, _, _, _, _, _, _, _, _, _, _, _, _, _, _, _, _, _, _, _, _, _, _, _, _, _, _, _, _, _] rfl tyS_impl_Conn rfl rfl rfl rfl <| rw_storeN (i := 1) [_, _, _, _, _, _, _, _, _, _, _, _, _, _, _, _, _, _, _, _, _, _, _, _, _, _, _, _, _, _, _, _, _, _, _, _, _, _, _, _, _, _, _, _, _, _, _, _, _, _] [_, _, _, _, _, _, _, _, _, _, _, _, _, _, _, _, _, _, _, _, _, _, _, _, _, _, _, _, _, _, _, _, _, _, _, _, _, _, _, _, _, _, _, _, _, _, _, _, _, _] [_, _, _] tyS_impl_Conn.sz rfl rfl rfl rfl rfl rfl rfl rfl rfl <| ?_
    refine ND <| ?_
    refine ret_cnP (ch := c1_0 ++ (c1_1)) (G := c1_0 ++ (c1_1 ++ ([]))) (F' := []) Try.func31 (res1 Try.func31 rfl (rv_s (i := 1) [_, _, _, _, _, _, _, _, _, _, _, _, _, _, _, _, _, _, _, _, _, _, _, _, _, _, _, _, _, _, _, _, _, _, _, _, _, _, _, _, _, _, _, _, _, _, _, _, _, _] tyS_impl_Conn rfl rfl rfl rfl)) ?_ ?_ ?_
    · exact ⟨_, rfl, _, _, _, _, rfl, h1_0, h1_1, rfl⟩
    · exact ((List.Perm.refl _).trans (((List.Perm.refl _).trans ((List.Perm.refl _).append_left _)).append_left _))
    · simp only [List.append_assoc]

theorem impl_within (a b c : Int) (w : World) : CV Try.prog 98 [.int .i64 a, .int .i64 b, .int .i64 c] w (.bool (within a b c)) := by
  refine cv_of Try.func98 rfl rfl rfl <| SQ <| RG <| AS rfl rfl <| ND <| SQ <| RG <| MV rfl rfl <| MV rfl rfl <| rw_leq rfl rfl rfl <| MV rfl rfl <| ?_
  refine rw_case (j := 10) rfl (fun h1 => ?_) (fun h1 => ?_)
  · refine ON rfl rfl h1 <| MV rfl rfl <| ON rfl rfl h1 <| MV rfl rfl <| ON rfl rfl h1 <| rw_leq rfl rfl rfl <| PT rfl rfl h1 rfl <| AS rfl rfl <| ND <| ret_cv Try.func98 (res1 Try.func98 rfl (rv_tmp rfl)) <| ?_
    simp only [within, h1] <;> rfl
  · refine OF rfl rfl h1 rfl <| OF rfl rfl h1 rfl <| OF rfl rfl h1 rfl <| PF rfl rfl h1 rfl <| AS rfl rfl <| ND <| ret_cv Try.func98 (res1 Try.func98 rfl (rv_tmp rfl)) <| ?_
    simp only [within, h1] <;> rfl

set_option maxHeartbeats 2000000 in
theorem impl_CloseConn_T {w : World} {cs : List Value} {x : Conn} (hv : RdConn w cs x) (hb : x.le 1048576) {code : Int} (hc : (x.closed == 0 && within code 1 255) = true) : CN Try.prog 32 [.agg cs.toArray, .int .i64 code] w (OwV OwConn (closeTo x code)) := by
  obtain ⟨v0, v1, rfl, k0, k1⟩ := hv
  obtain ⟨A0, c0, rfl, hA0⟩ := k0
  obtain ⟨A1, c1, rfl, hA1⟩ := k1
  obtain ⟨hb0, hb1, hb2, hb3⟩ := hb
  refine cn_of Try.func32 rfl rfl rfl <| SQ <| RG <| BX [_, _, _, _, _, _, _, _, _, _, _, _, _, _, _, _, _, _, _, _, _, _, _, _, _, _, _, _, _, _, _, _, _, _, _, _, _, _, _, _, _, _, _, _, _, _, _, _, _, _] rfl rfl rfl <| fun b1 => AL rfl tyZ_impl_Conn <| fun b2 => ND <| SQ <| RG <| LS (i := 1) [_, _, _, _, _, _, _, _, _, _, _, _, _, _, _, _, _, _, _, _, _, _, _, _, _, _, _, _, _, _, _, _, _, _, _, _, _, _, _, _, _, _, _, _, _, _, _, _, _, _] rfl tyS_impl_Conn rfl rfl rfl rfl <| CN1 rfl fun_impl_copyConn rfl (fun w hs => impl_copyConn ⟨_, _, rfl, (hA0.s RdStream.keeps hs), (hA1.s RdPacket.keeps hs)⟩ ⟨hb0, hb1, hb2, hb3⟩) <| fun vv1 ch1 how1 => ?_
  obtain ⟨cs1, rfl, v1_0, v1_1, c1_0, c1_1, rfl, h1_0, h1_1, rfl⟩ := how1
  refine rw_F (F' := c1_0 ++ (c1_1 ++ ([]))) (by simp only [List.append_assoc]) <| ?_
  obtain ⟨R1_0, b1_0, rfl, hR1_0, hrd1_0⟩ := h1_0.shape eStream
  obtain ⟨R1_1, b1_1, rfl, hR1_1, hrd1_1⟩ := h1_1.shape ePacket
  refine AL rfl tyZ_impl_Conn <| fun b3 => rw_storeN (i := 0) [_, _, _, _, _, _, _, _, _, _, _, _, _, _, _, _, _, _, _, _, _, _, _, _, _, _, _, _, _, _, _, _, _, _, _, _, _, _, _, _, _, _, _, _, _, _, _, _, _, _] [_, _, _, _, _, _, _, _, _, _, _, _, _, _, _, _, _, _, _, _, _, _, _, _, _, _, _, _, _, _, _, _, _, _, _, _, _, _, _, _, _, _, _, _, _, _, _, _, _, _] [_, _, _] tyS_impl_Conn.sz rfl rfl rfl rfl rfl rfl rfl rfl rfl <| ND <| SQ <| SQ <| RG <| FA rfl tyF_impl_Conn_17 rfl <| LD (i := 2) rfl tyP_int rfl rfl rfl <| EQ1 rfl rfl rfl <| MV rfl rfl <| ?_
  refine rw_case (j := 11) rfl (fun h1 => ?_) (fun h1 => ?_)
  · refine ON rfl rfl h1 <| MV rfl rfl <| ON rfl rfl h1 <| CV1 rfl fun_impl_within rfl (fun w hs => impl_within _ _ _ w) <| PT rfl rfl h1 rfl <| ND <| ?_
    refine gw_cond rfl (fun h2 => ?_) (fun h2 => ?_)
    · refine RG <| MV rfl rfl <| FA rfl tyF_impl_Conn_17 rfl <| rw_storeN (i := 0) [_] [_, _, _, _, _, _, _, _, _, _, _, _, _, _, _, _, _, _, _, _, _, _, _, _, _, _, _, _, _, _, _, _, _, _, _, _, _, _, _, _, _, _, _, _, _, _, _, _, _, _] [_, _, _] tyP_int.sz rfl rfl rfl rfl rfl rfl rfl rfl rfl <| ND <| SQ <| RG <| LS (i := 0) [_, _, _, _, _, _, _, _, _, _, _, _, _, _, _, _, _, _, _, _, _, _, _, _, _, _, _, _, _, _, _, _, _, _, _, _, _, _, _, _, _, _, _, _, _, _, _, _, _, _] rfl tyS_impl_Conn rfl rfl rfl rfl <| rw_storeN (i := 1) [_, _, _, _, _, _, _, _, _, _, _, _, _, _, _, _, _, _, _, _, _, _, _, _, _, _, _, _, _, _, _, _, _, _, _, _, _, _, _, _, _, _, _, _, _, _, _, _, _, _] [_, _, _, _, _, _, _, _, _, _, _, _, _, _, _, _, _, _, _, _, _, _, _, _, _, _, _, _, _, _, _, _, _, _, _, _, _, _, _, _, _, _, _, _, _, _, _, _, _, _] [_, _, _] tyS_impl_Conn.sz rfl rfl rfl rfl rfl rfl rfl rfl rfl <| ?_
      refine ND <| ?_
      refine ret_cnP (ch := c1_0 ++ (c1_1)) (G := c1_0 ++ (c1_1 ++ ([]))) (F' := []) Try.func32 (res1 Try.func32 rfl (rv_s (i := 1) [_, _, _, _, _, _, _, _, _, _, _, _, _, _, _, _, _, _, _, _, _, _, _, _, _, _, _, _, _, _, _, _, _, _, _, _, _, _, _, _, _, _, _, _, _, _, _, _, _, _] tyS_impl_Conn rfl rfl rfl rfl)) ?_ ?_ ?_
      · exact ⟨_, rfl, _, _, _, _, rfl, h1_0, h1_1, rfl⟩
      · exact ((List.Perm.refl _).trans (((List.Perm.refl _).trans ((List.Perm.refl _).append_left _)).append_left _))
      · simp only [List.append_assoc]
    · refine SK <| SQ <| ?_
      exact absurd hc (by simp [h1, h2])
  · refine OF rfl rfl h1 rfl <| OF rfl rfl h1 rfl <| PF rfl rfl h1 rfl <| ND <| CF rfl rfl <| SK <| SQ <| ?_
    exact absurd hc (by simp [h1])

set_option maxHeartbeats 2000000 in
theorem impl_CloseConn_F {w : World} {cs : List Value} {x : Conn} (hv : RdConn w cs x) (hb : x.le 1048576) {code : Int} (hc : (x.closed == 0 && within code 1 255) = false) : CN Try.prog 32 [.agg cs.toArray, .int .i64 code] w (OwV OwConn x) := by
  obtain ⟨v0, v1, rfl, k0, k1⟩ := hv
  obtain ⟨A0, c0, rfl, hA0⟩ := k0
  obtain ⟨A1, c1, rfl, hA1⟩ := k1
  obtain ⟨hb0, hb1, hb2, hb3⟩ := hb
  refine cn_of Try.func32 rfl rfl rfl <| SQ <| RG <| BX [_, _, _, _, _, _, _, _, _, _, _, _, _, _, _, _, _, _, _, _, _, _, _, _, _, _, _, _, _, _, _, _, _, _, _, _, _, _, _, _, _, _, _, _, _, _, _, _, _, _] rfl rfl rfl <| fun b1 => AL rfl tyZ_impl_Conn <| fun b2 => ND <| SQ <| RG <| LS (i := 1) [_, _, _, _, _, _, _, _, _, _, _, _, _, _, _, _, _, _, _, _, _, _, _, _, _, _, _, _, _, _, _, _, _, _, _, _, _, _, _, _, _, _, _, _, _, _, _, _, _, _] rfl tyS_impl_Conn rfl rfl rfl rfl <| CN1 rfl fun_impl_copyConn rfl (fun w hs => impl_copyConn ⟨_, _, rfl, (hA0.s RdStream.keeps hs), (hA1.s RdPacket.keeps hs)⟩ ⟨hb0, hb1, hb2, hb3⟩) <| fun vv1 ch1 how1 => ?_
  obtain ⟨cs1, rfl, v1_0, v1_1, c1_0, c1_1, rfl, h1_0, h1_1, rfl⟩ := how1
  refine rw_F (F' := c1_0 ++ (c1_1 ++ ([]))) (by simp only [List.append_assoc]) <| ?_
  obtain ⟨R1_0, b1_0, rfl, hR1_0, hrd1_0⟩ := h1_0.shape eStream
  obtain ⟨R1_1, b1_1, rfl, hR1_1, hrd1_1⟩ := h1_1.shape ePacket
  refine AL rfl tyZ_impl_Conn <| fun b3 => rw_storeN (i := 0) [_, _, _, _, _, _, _, _, _, _, _, _, _, _, _, _, _, _, _, _, _, _, _, _, _, _, _, _, _, _, _, _, _, _, _, _, _, _, _, _, _, _, _, _, _, _, _, _, _, _] [_, _, _, _, _, _, _, _, _, _, _, _, _, _, _, _, _, _, _, _, _, _, _, _, _, _, _, _, _, _, _, _, _, _, _, _, _, _, _, _, _, _, _, _, _, _, _, _, _, _] [_, _, _] tyS_impl_Conn.sz rfl rfl rfl rfl rfl rfl rfl rfl rfl <| ND <| SQ <| SQ <| RG <| FA rfl tyF_impl_Conn_17 rfl <| LD (i := 2) rfl tyP_int rfl rfl rfl <| EQ1 rfl rfl rfl <| MV rfl rfl <| ?_
  refine rw_case (j := 11) rfl (fun h1 => ?_) (fun h1 => ?_)
  · refine ON rfl rfl h1 <| MV rfl rfl <| ON rfl rfl h1 <| CV1 rfl fun_impl_within rfl (fun w hs => impl_within _ _ _ w) <| PT rfl rfl h1 rfl <| ND <| ?_
    refine gw_cond rfl (fun h2 => ?_) (fun h2 => ?_)
    · exact absurd hc (by simp [h1, h2])
    · refine SK <| SQ <| RG <| LS (i := 0) [_, _, _, _, _, _, _, _, _, _, _, _, _, _, _, _, _, _, _, _, _, _, _, _, _, _, _, _, _, _, _, _, _, _, _, _, _, _, _, _, _, _, _, _, _, _, _, _, _, _] rfl tyS_impl_Conn rfl rfl rfl rfl <| rw_storeN (i := 1) [_, _, _, _, _, _, _, _, _, _, _, _, _, _, _, _, _, _, _, _, _, _, _, _, _, _, _, _, _, _, _, _, _, _, _, _, _, _, _, _, _, _, _, _, _, _, _, _, _, _] [_, _, _, _, _, _, _, _, _, _, _, _, _, _, _, _, _, _, _, _, _, _, _, _, _, _, _, _, _, _, _, _, _, _, _, _, _, _, _, _, _, _, _, _, _, _, _, _, _, _] [_, _, _] tyS_impl_Conn.sz rfl rfl rfl rfl rfl rfl rfl rfl rfl <| ?_
      refine ND <| ?_
      refine ret_cnP (ch := c1_0 ++ (c1_1)) (G := c1_0 ++ (c1_1 ++ ([]))) (F' := []) Try.func32 (res1 Try.func32 rfl (rv_s (i := 1) [_, _, _, _, _, _, _, _, _, _, _, _, _, _, _, _, _, _, _, _, _, _, _, _, _, _, _, _, _, _, _, _, _, _, _, _, _, _, _, _, _, _, _, _, _, _, _, _, _, _] tyS_impl_Conn rfl rfl rfl rfl)) ?_ ?_ ?_
      · exact ⟨_, rfl, _, _, _, _, rfl, h1_0, h1_1, rfl⟩
      · exact ((List.Perm.refl _).trans (((List.Perm.refl _).trans ((List.Perm.refl _).append_left _)).append_left _))
      · simp only [List.append_assoc]
  · refine OF rfl rfl h1 rfl <| OF rfl rfl h1 rfl <| PF rfl rfl h1 rfl <| ND <| CF rfl rfl <| SK <| SQ <| RG <| LS (i := 0) [_, _, _, _, _, _, _, _, _, _, _, _, _, _, _, _, _, _, _, _, _, _, _, _, _, _, _, _, _, _, _, _, _, _, _, _, _, _, _, _, _, _, _, _, _, _, _, _, _, _] rfl tyS_impl_Conn rfl rfl rfl rfl <| rw_storeN (i := 1) [_, _, _, _, _, _, _, _, _, _, _, _, _, _, _, _, _, _, _, _, _, _, _, _, _, _, _, _, _, _, _, _, _, _, _, _, _, _, _, _, _, _, _, _, _, _, _, _, _, _] [_, _, _, _, _, _, _, _, _, _, _, _, _, _, _, _, _, _, _, _, _, _, _, _, _, _, _, _, _, _, _, _, _, _, _, _, _, _, _, _, _, _, _, _, _, _, _, _, _, _] [_, _, _] tyS_impl_Conn.sz rfl rfl rfl rfl rfl rfl rfl rfl rfl <| ?_
    refine ND <| ?_
    refine ret_cnP (ch := c1_0 ++ (c1_1)) (G := c1_0 ++ (c1_1 ++ ([]))) (F' := []) Try.func32 (res1 Try.func32 rfl (rv_s (i := 1) [_, _, _, _, _, _, _, _, _, _, _, _, _, _, _, _, _, _, _, _, _, _, _, _, _, _, _, _, _, _, _, _, _, _, _, _, _, _, _, _, _, _, _, _, _, _, _, _, _, _] tyS_impl_Conn rfl rfl rfl rfl)) ?_ ?_ ?_
    · exact ⟨_, rfl, _, _, _, _, rfl, h1_0, h1_1, rfl⟩
    · exact ((List.Perm.refl _).trans (((List.Perm.refl _).trans ((List.Perm.refl _).append_left _)).append_left _))
    · simp only [List.append_assoc]

set_option maxHeartbeats 4000000 in
set_option maxRecDepth 20000 in
theorem law_FnExactCloseConn_T {w : World} {cs : List Value} {x : Conn} (hv : RdConn w cs x) (hb : x.le 9223372036854775807) {code : Int} (hc : (x.closed == 0 && within code 1 255) = true) : CV Try.prog 7 [.agg cs.toArray, .int .i64 code] w (.bool true) := by
  obtain ⟨v0, v1, rfl, k0, k1⟩ := hv
  obtain ⟨A0, c0, rfl, hA0⟩ := k0
  obtain ⟨A1, c1, rfl, hA1⟩ := k1
  obtain ⟨hb0, hb1, hb2, hb3⟩ := hb
  refine cv_of Try.func7 rfl rfl rfl <| SQ <| RG <| BX [_, _, _, _, _, _, _, _, _, _, _, _, _, _, _, _, _, _, _, _, _, _, _, _, _, _, _, _, _, _, _, _, _, _, _, _, _, _, _, _, _, _, _, _, _, _, _, _, _, _] rfl rfl rfl <| fun b1 => AS rfl rfl <| ND <| SQ <| RG <| AS rfl rfl <| ND <| SQ <| RG <| LS (i := 0) [_, _, _, _, _, _, _, _, _, _, _, _, _, _, _, _, _, _, _, _, _, _, _, _, _, _, _, _, _, _, _, _, _, _, _, _, _, _, _, _, _, _, _, _, _, _, _, _, _, _] rfl tyS_laws_Conn rfl rfl rfl rfl <| MV rfl rfl <| CV1 rfl fun_laws_szConn rfl (fun w hs => laws_szConn ⟨_, _, rfl, (hA0.s RdStream.keeps hs), (hA1.s RdPacket.keeps hs)⟩ _ ⟨by first | omega | assumption, by first | omega | assumption, by first | omega | assumption, by first | omega | assumption⟩ (by omega) (by omega)) <| ?_
  refine AS rfl rfl <| ND <| SQ <| SQ <| RG <| MV rfl rfl <| rw_lss rfl rfl rfl <| ND <| ?_
  refine gw_cond rfl (fun h1 => ?_) (fun h1 => ?_)
  · refine SQ <| RG <| AS rfl rfl <| ND <| ret_cv Try.func7 (res1 Try.func7 rfl (rv_tmp rfl)) <| ?_
    rfl
  · have hnn1 := nn_of h1
    obtain ⟨hle1, hz1_0, hz1_1, hz1_2, hz1_3⟩ := szConn_ok ⟨by first | omega | assumption, by first | omega | assumption, by first | omega | assumption, by first | omega | assumption⟩ (by omega) (by omega) hnn1
    refine SK <| SQ <| RG <| LS (i := 0) [_, _, _, _, _, _, _, _, _, _, _, _, _, _, _, _, _, _, _, _, _, _, _, _, _, _, _, _, _, _, _, _, _, _, _, _, _, _, _, _, _, _, _, _, _, _, _, _, _, _] rfl tyS_laws_Conn rfl rfl rfl rfl <| CN1 rfl fun_laws_toConn rfl (fun w hs => laws_toConn ⟨_, _, rfl, (hA0.s RdStream.keeps hs), (hA1.s RdPacket.keeps hs)⟩ ⟨hz1_0, hz1_1, hz1_2, hz1_3⟩) <| fun vv2 ch2 how2 => ?_
    obtain ⟨cs2, rfl, v2_0, v2_1, c2_0, c2_1, rfl, h2_0, h2_1, rfl⟩ := how2
    refine rw_F (F' := c2_0 ++ (c2_1 ++ ([]))) (by simp only [List.append_assoc]) <| ?_
    obtain ⟨R2_0, b2_0, rfl, hR2_0, hrd2_0⟩ := h2_0.shape eStream
    obtain ⟨R2_1, b2_1, rfl, hR2_1, hrd2_1⟩ := h2_1.shape ePacket
    refine MV rfl rfl <| CN1 rfl fun_spec_CloseConn rfl (fun w hs => spec_CloseConn_T ⟨_, _, rfl, ⟨_, _, rfl, hrd2_0 _ (fun c hc => hs.at_ c (List.mem_append_right _ (List.mem_append_left _ hc)))⟩, ⟨_, _, rfl, hrd2_1 _ (fun c hc => hs.at_ c (List.mem_append_right _ (List.mem_append_right _ (List.mem_append_left _ hc))))⟩⟩ ⟨hz1_0, hz1_1, hz1_2, hz1_3⟩ hc) <| fun vv3 ch3 how3 => ?_
    obtain ⟨cs3, rfl, v3_0, v3_1, c3_0, c3_1, rfl, h3_0, h3_1, rfl⟩ := how3
    refine rw_F (F' := c3_0 ++ (c3_1 ++ (c2_0 ++ (c2_1 ++ ([]))))) (by simp only [List.append_assoc]) <| ?_
    obtain ⟨R3_0, b3_0, rfl, hR3_0, hrd3_0⟩ := h3_0.shape eStream
    obtain ⟨R3_1, b3_1, rfl, hR3_1, hrd3_1⟩ := h3_1.shape ePacket
    refine AL rfl tyZ_impl_Conn <| fun b2 => rw_storeN (i := 0) [_, _, _, _, _, _, _, _, _, _, _, _, _, _, _, _, _, _, _, _, _, _, _, _, _, _, _, _, _, _, _, _, _, _, _, _, _, _, _, _, _, _, _, _, _, _, _, _, _, _] [_, _, _, _, _, _, _, _, _, _, _, _, _, _, _, _, _, _, _, _, _, _, _, _, _, _, _, _, _, _, _, _, _, _, _, _, _, _, _, _, _, _, _, _, _, _, _, _, _, _] [_, _] tyS_impl_Conn.sz rfl rfl rfl rfl rfl rfl rfl rfl rfl <| ND <| gw_sub (Sub.cons (i := 1) rfl (Sub.cons (i := 2) rfl (Sub.cons (i := 4) rfl (Sub.cons (i := 6) rfl (Sub.nil _))))) <| SQ <| RG <| LS (i := 1) [_, _, _, _, _, _, _, _, _, _, _, _, _, _, _, _, _, _, _, _, _, _, _, _, _, _, _, _, _, _, _, _, _, _, _, _, _, _, _, _, _, _, _, _, _, _, _, _, _, _] rfl tyS_laws_Conn rfl rfl rfl rfl <| ?_
    refine CN1 rfl fun_laws_toConn rfl (fun w hs => laws_toConn ⟨_, _, rfl, (hA0.s RdStream.keeps hs), (hA1.s RdPacket.keeps hs)⟩ ⟨hz1_0, hz1_1, hz1_2, hz1_3⟩) <| fun vv4 ch4 how4 => ?_
    obtain ⟨cs4, rfl, v4_0, v4_1, c4_0, c4_1, rfl, h4_0, h4_1, rfl⟩ := how4
    refine rw_F (F' := c4_0 ++ (c4_1 ++ (c3_0 ++ (c3_1 ++ (c2_0 ++ (c2_1 ++ ([]))))))) (by simp only [List.append_assoc]) <| ?_
    obtain ⟨R4_0, b4_0, rfl, hR4_0, hrd4_0⟩ := h4_0.shape eStream
    obtain ⟨R4_1, b4_1, rfl, hR4_1, hrd4_1⟩ := h4_1.shape ePacket
    refine AL rfl tyZ_impl_Conn <| fun b3 => rw_storeN (i := 0) [_, _, _, _, _, _, _, _, _, _, _, _, _, _, _, _, _, _, _, _, _, _, _, _, _, _, _, _, _, _, _, _, _, _, _, _, _, _, _, _, _, _, _, _, _, _, _, _, _, _] [_, _, _, _, _, _, _, _, _, _, _, _, _, _, _, _, _, _, _, _, _, _, _, _, _, _, _, _, _, _, _, _, _, _, _, _, _, _, _, _, _, _, _, _, _, _, _, _, _, _] [_, _, _] tyS_impl_Conn.sz rfl rfl rfl rfl rfl rfl rfl rfl rfl <| ND <| SQ <| RG <| LS (i := 0) [_, _, _, _, _, _, _, _, _, _, _, _, _, _, _, _, _, _, _, _, _, _, _, _, _, _, _, _, _, _, _, _, _, _, _, _, _, _, _, _, _, _, _, _, _, _, _, _, _, _] rfl tyS_impl_Conn rfl rfl rfl rfl <| ?_
    refine MV rfl rfl <| CN1 rfl fun_impl_CloseConn rfl (fun w hs => impl_CloseConn_T ⟨_, _, rfl, ⟨_, _, rfl, hrd4_0 _ (fun c hc => hs.at_ c (List.mem_append_right _ (List.mem_append_left _ hc)))⟩, ⟨_, _, rfl, hrd4_1 _ (fun c hc => hs.at_ c (List.mem_append_right _ (List.mem_append_right _ (List.mem_append_left _ hc))))⟩⟩ ⟨hz1_0, hz1_1, hz1_2, hz1_3⟩ hc) <| fun vv5 ch5 how5 => ?_
    obtain ⟨cs5, rfl, v5_0, v5_1, c5_0, c5_1, rfl, h5_0, h5_1, rfl⟩ := how5
    refine rw_F (F' := c5_0 ++ (c5_1 ++ (c4_0 ++ (c4_1 ++ (c3_0 ++ (c3_1 ++ (c2_0 ++ (c2_1 ++ ([]))))))))) (by simp only [List.append_assoc]) <| ?_
    obtain ⟨R5_0, b5_0, rfl, hR5_0, hrd5_0⟩ := h5_0.shape eStream
    obtain ⟨R5_1, b5_1, rfl, hR5_1, hrd5_1⟩ := h5_1.shape ePacket
    refine AL rfl tyZ_impl_Conn <| fun b4 => rw_storeN (i := 0) [_, _, _, _, _, _, _, _, _, _, _, _, _, _, _, _, _, _, _, _, _, _, _, _, _, _, _, _, _, _, _, _, _, _, _, _, _, _, _, _, _, _, _, _, _, _, _, _, _, _] [_, _, _, _, _, _, _, _, _, _, _, _, _, _, _, _, _, _, _, _, _, _, _, _, _, _, _, _, _, _, _, _, _, _, _, _, _, _, _, _, _, _, _, _, _, _, _, _, _, _] [_, _, _, _] tyS_impl_Conn.sz rfl rfl rfl rfl rfl rfl rfl rfl rfl <| ND <| SQ <| SQ <| RG <| LS (i := 0) [_, _, _, _, _, _, _, _, _, _, _, _, _, _, _, _, _, _, _, _, _, _, _, _, _, _, _, _, _, _, _, _, _, _, _, _, _, _, _, _, _, _, _, _, _, _, _, _, _, _] rfl tyS_impl_Conn rfl rfl rfl rfl <| ?_
    refine LS (i := 2) [_, _, _, _, _, _, _, _, _, _, _, _, _, _, _, _, _, _, _, _, _, _, _, _, _, _, _, _, _, _, _, _, _, _, _, _, _, _, _, _, _, _, _, _, _, _, _, _, _, _] rfl tyS_impl_Conn rfl rfl rfl rfl <| CV1 rfl fun_laws_eqConn rfl (fun w hs => laws_eqConn ⟨_, _, rfl, ⟨_, _, rfl, hrd5_0 _ (fun c hc => hs.at_ c (List.mem_append_right _ (List.mem_append_left _ hc)))⟩, ⟨_, _, rfl, hrd5_1 _ (fun c hc => hs.at_ c (List.mem_append_right _ (List.mem_append_right _ (List.mem_append_left _ hc))))⟩⟩ ⟨hz1_0, hz1_1, hz1_2, hz1_3⟩ ⟨_, _, rfl, ⟨_, _, rfl, hrd3_0 _ (fun c hc => hs.at_ c (List.mem_append_right _ (List.mem_append_right _ (List.mem_append_right _ (List.mem_append_right _ (List.mem_append_right _ (List.mem_append_left _ hc)))))))⟩, ⟨_, _, rfl, hrd3_1 _ (fun c hc => hs.at_ c (List.mem_append_right _ (List.mem_append_right _ (List.mem_append_right _ (List.mem_append_right _ (List.mem_append_right _ (List.mem_append_right _ (List.mem_append_left _ hc))))))))⟩⟩) <| ?_
    refine NT rfl rfl <| ND <| CF rfl rfl <| SK <| SQ <| SQ <| gw_draw' [(0, .det), (1, .det), (2, .add)] [3, 4] mixed rfl (free_det (free_det (free_add free_nil))) (ts := [_, _]) rfl <| DT rfl rfl (fun K hk => LS (i := 1) [_, _, _, _, _, _, _, _, _, _, _, _, _, _, _, _, _, _, _, _, _, _, _, _, _, _, _, _, _, _, _, _, _, _, _, _, _, _, _, _, _, _, _, _, _, _, _, _, _, _] rfl tyS_impl_Conn rfl rfl rfl rfl hk) <| DT rfl rfl (fun K hk => LS (i := 3) [_, _, _, _, _, _, _, _, _, _, _, _, _, _, _, _, _, _, _, _, _, _, _, _, _, _, _, _, _, _, _, _, _, _, _, _, _, _, _, _, _, _, _, _, _, _, _, _, _, _] rfl tyS_laws_Conn rfl rfl rfl rfl hk) <| ?_
    refine DA rfl rfl (fun K hk => CN1 rfl fun_laws_toConn rfl (fun w hs => laws_toConn ⟨_, _, rfl, (hA0.s RdStream.keeps hs), (hA1.s RdPacket.keeps hs)⟩ ⟨hz1_0, hz1_1, hz1_2, hz1_3⟩) hk) <| fun vv6 ch6 how6 => ?_
    obtain ⟨cs6, rfl, v6_0, v6_1, c6_0, c6_1, rfl, h6_0, h6_1, rfl⟩ := how6
    refine dw_F (F' := c6_0 ++ (c6_1 ++ (c5_0 ++ (c5_1 ++ (c4_0 ++ (c4_1 ++ (c3_0 ++ (c3_1 ++ (c2_0 ++ (c2_1 ++ ([]))))))))))) (by simp only [List.append_assoc]) <| ?_
    obtain ⟨R6_0, b6_0, rfl, hR6_0, hrd6_0⟩ := h6_0.shape eStream
    obtain ⟨R6_1, b6_1, rfl, hR6_1, hrd6_1⟩ := h6_1.shape ePacket
    refine dw_nil <| CV1 rfl fun_laws_eqConn rfl (fun w hs => laws_eqConn ⟨_, _, rfl, ⟨_, _, rfl, hrd4_0 _ (fun c hc => hs.at_ c (List.mem_append_right _ (List.mem_append_right _ (List.mem_append_right _ (List.mem_append_right _ (List.mem_append_right _ (List.mem_append_left _ hc)))))))⟩, ⟨_, _, rfl, hrd4_1 _ (fun c hc => hs.at_ c (List.mem_append_right _ (List.mem_append_right _ (List.mem_append_right _ (List.mem_append_right _ (List.mem_append_right _ (List.mem_append_right _ (List.mem_append_left _ hc))))))))⟩⟩ ⟨hz1_0, hz1_1, hz1_2, hz1_3⟩ ⟨_, _, rfl, ⟨_, _, rfl, hrd6_0 _ (fun c hc => hs.at_ c (List.mem_append_right _ (List.mem_append_left _ hc)))⟩, ⟨_, _, rfl, hrd6_1 _ (fun c hc => hs.at_ c (List.mem_append_right _ (List.mem_append_right _ (List.mem_append_left _ hc))))⟩⟩) <| ?_
    refine NT rfl rfl <| ND <| gw_sub (Sub.cons (i := 1) rfl (Sub.cons (i := 2) rfl (Sub.cons (i := 4) rfl (Sub.cons (i := 6) rfl (Sub.cons (i := 7) rfl (Sub.cons (i := 8) rfl (Sub.cons (i := 35) rfl (Sub.nil _)))))))) <| CF rfl rfl <| SK <| SQ <| RG <| AS rfl rfl <| ND <| SQ <| RG <| LS (i := 1) [_, _, _, _, _, _, _, _, _, _, _, _, _, _, _, _, _, _, _, _, _, _, _, _, _, _, _, _, _, _, _, _, _, _, _, _, _, _, _, _, _, _, _, _, _, _, _, _, _, _] rfl tyS_impl_Conn rfl rfl rfl rfl <| MV rfl rfl <| ?_
    have hk1_7 : (0 : Int) ≤ 1 ∧ (1 : Int) ≤ 1 := by decide
    refine rw_ch (G := c4_0 ++ (c4_1)) (R := c6_0 ++ (c6_1 ++ (c5_0 ++ (c5_1 ++ (c3_0 ++ (c3_1 ++ (c2_0 ++ (c2_1 ++ ([]))))))))) rfl fun_laws_markConn rfl ((((((((((((((((List.Perm.refl _)).append_left _).trans (pullc _ _ _))).append_left _).trans (pullc _ _ _))).append_left _).trans (pullc _ _ _))).append_left _).trans (pullc _ _ _)).trans (((((((((((((((List.Perm.refl _)).append_left _).trans (pullc _ _ _))).append_left _).trans (pullc _ _ _))).append_left _).trans (pullc _ _ _))).append_left _).trans (pullc _ _ _)).trans ((List.Perm.refl _).append_left _)).append_left _))).trans (List.Perm.of_eq (by simp only [List.append_assoc]))) (fun w hs hin hnd => laws_markConn (x := x) h4_0 h4_1 hz1_0 hz1_1 hz1_2 hz1_3 (kto hk1_7 (by decide) (by decide) (by decide)) hin hnd) <| fun vh8 ch8 how8 => ?_
    obtain ⟨rfl, ch8_0, ch8_1, rfl, hO8_0, hO8_1⟩ := how8
    refine rw_F (F' := ch8_0 ++ (ch8_1 ++ (c6_0 ++ (c6_1 ++ (c5_0 ++ (c5_1 ++ (c3_0 ++ (c3_1 ++ (c2_0 ++ (c2_1 ++ ([]))))))))))) (by simp only [List.append_assoc]) <| ?_
    obtain ⟨hn8_0, hrv8_0, hR8_0, hrd8_0⟩ := hO8_0.reshape eStream
    obtain ⟨hn8_1, hrv8_1, hR8_1, hrd8_1⟩ := hO8_1.reshape ePacket
    have hkb9 : 0 ≤ (endD kS6 1 x.streams) ∧ (endD kS6 1 x.streams) ≤ 9895640301569 := by
      have hkt := endD_all (nx := kS6) (l := x.streams) 9437218 (by decide) hz1_0 (k := 1) (fun x hx k => kS6_bd (hz1_1 x hx) k)
      omega
    have hkb10 : 0 ≤ (endD kP (endD kS6 1 x.streams) x.packets) ∧ (endD kP (endD kS6 1 x.streams) x.packets) ≤ 19791246000129 := by
      have hkt := endD_all (nx := kP) (l := x.packets) 9437185 (by decide) hz1_2 (k := (endD kS6 1 x.streams)) (fun x hx k => kP_bd (hz1_3 x hx) k)
      omega
    refine AS rfl rfl <| ND <| SQ <| SQ <| RG <| MV rfl rfl <| rw_lss rfl rfl rfl <| MV rfl rfl <| ON rfl rfl (knn (kup hkb10)) <| LS (i := 0) [_, _, _, _, _, _, _, _, _, _, _, _, _, _, _, _, _, _, _, _, _, _, _, _, _, _, _, _, _, _, _, _, _, _, _, _, _, _, _, _, _, _, _, _, _, _, _, _, _, _] rfl tyS_impl_Conn rfl rfl rfl rfl <| ON rfl rfl (knn (kup hkb10)) <| LS (i := 2) [_, _, _, _, _, _, _, _, _, _, _, _, _, _, _, _, _, _, _, _, _, _, _, _, _, _, _, _, _, _, _, _, _, _, _, _, _, _, _, _, _, _, _, _, _, _, _, _, _, _] rfl tyS_impl_Conn rfl rfl rfl rfl <| ?_
    refine ON rfl rfl (knn (kup hkb10)) <| CV1 rfl fun_laws_eqConn rfl (fun w hs => laws_eqConn ⟨_, _, rfl, ⟨_, _, rfl, hrd5_0 _ (fun c hc => hs.at_ c (List.mem_append_right _ (List.mem_append_right _ (List.mem_append_right _ (List.mem_append_right _ (List.mem_append_right _ (List.mem_append_left _ hc)))))))⟩, ⟨_, _, rfl, hrd5_1 _ (fun c hc => hs.at_ c (List.mem_append_right _ (List.mem_append_right _ (List.mem_append_right _ (List.mem_append_right _ (List.mem_append_right _ (List.mem_append_right _ (List.mem_append_left _ hc))))))))⟩⟩ ⟨hz1_0, hz1_1, hz1_2, hz1_3⟩ ⟨_, _, rfl, ⟨_, _, rfl, hrd3_0 _ (fun c hc => hs.at_ c (List.mem_append_right _ (List.mem_append_right _ (List.mem_append_right _ (List.mem_append_right _ (List.mem_append_right _ (List.mem_append_right _ (List.mem_append_right _ (List.mem_append_left _ hc)))))))))⟩, ⟨_, _, rfl, hrd3_1 _ (fun c hc => hs.at_ c (List.mem_append_right _ (List.mem_append_right _ (List.mem_append_right _ (List.mem_append_right _ (List.mem_append_right _ (List.mem_append_right _ (List.mem_append_right _ (List.mem_append_right _ (List.mem_append_left _ hc))))))))))⟩⟩) <| ?_
    refine ON rfl rfl (knn (kup hkb10)) <| NT rfl rfl <| PF rfl rfl (knn (kup hkb10)) rfl <| ND <| gw_sub (Sub.cons (i := 1) rfl (Sub.cons (i := 2) rfl (Sub.cons (i := 4) rfl (Sub.cons (i := 6) rfl (Sub.cons (i := 8) rfl (Sub.cons (i := 46) rfl (Sub.nil _))))))) <| CF rfl rfl <| SK <| SQ <| RG <| AS rfl rfl <| ND <| SQ <| RG <| LS (i := 0) [_, _, _, _, _, _, _, _, _, _, _, _, _, _, _, _, _, _, _, _, _, _, _, _, _, _, _, _, _, _, _, _, _, _, _, _, _, _, _, _, _, _, _, _, _, _, _, _, _, _] rfl tyS_impl_Conn rfl rfl rfl rfl <| MV rfl rfl <| ?_
    have hk1_11 : (0 : Int) ≤ 1 ∧ (1 : Int) ≤ 1 := by decide
    refine rw_ch (G := c5_0 ++ (c5_1)) (R := ch8_0 ++ (ch8_1 ++ (c6_0 ++ (c6_1 ++ (c3_0 ++ (c3_1 ++ (c2_0 ++ (c2_1 ++ ([]))))))))) rfl fun_laws_markConn rfl ((((((((((((((((List.Perm.refl _)).append_left _).trans (pullc _ _ _))).append_left _).trans (pullc _ _ _))).append_left _).trans (pullc _ _ _))).append_left _).trans (pullc _ _ _)).trans (((((((((((((((List.Perm.refl _)).append_left _).trans (pullc _ _ _))).append_left _).trans (pullc _ _ _))).append_left _).trans (pullc _ _ _))).append_left _).trans (pullc _ _ _)).trans ((List.Perm.refl _).append_left _)).append_left _))).trans (List.Perm.of_eq (by simp only [List.append_assoc]))) (fun w hs hin hnd => laws_markConn (x := (closeTo x code)) h5_0 h5_1 hz1_0 hz1_1 hz1_2 hz1_3 (kto hk1_11 (by decide) (by decide) (by decide)) hin hnd) <| fun vh12 ch12 how12 => ?_
    obtain ⟨rfl, ch12_0, ch12_1, rfl, hO12_0, hO12_1⟩ := how12
    refine rw_F (F' := ch12_0 ++ (ch12_1 ++ (ch8_0 ++ (ch8_1 ++ (c6_0 ++ (c6_1 ++ (c3_0 ++ (c3_1 ++ (c2_0 ++ (c2_1 ++ ([]))))))))))) (by simp only [List.append_assoc]) <| ?_
    obtain ⟨hn12_0, hrv12_0, hR12_0, hrd12_0⟩ := hO12_0.reshape eStream
    obtain ⟨hn12_1, hrv12_1, hR12_1, hrd12_1⟩ := hO12_1.reshape ePacket
    have hkb13 : 0 ≤ (endD kS6 1 (closeTo x code).streams) ∧ (endD kS6 1 (closeTo x code).streams) ≤ 9895640301569 := by
      have hkt := endD_all (nx := kS6) (l := (closeTo x code).streams) 9437218 (by decide) hz1_0 (k := 1) (fun x hx k => kS6_bd (hz1_1 x hx) k)
      omega
    have hkb14 : 0 ≤ (endD kP (endD kS6 1 (closeTo x code).streams) (closeTo x code).packets) ∧ (endD kP (endD kS6 1 (closeTo x code).streams) (closeTo x code).packets) ≤ 19791246000129 := by
      have hkt := endD_all (nx := kP) (l := (closeTo x code).packets) 9437185 (by decide) hz1_2 (k := (endD kS6 1 (closeTo x code).streams)) (fun x hx k => kP_bd (hz1_3 x hx) k)
      omega
    refine AS rfl rfl <| ND <| SQ <| RG <| AS rfl rfl <| ND <| SQ <| RG <| LS (i := 0) [_, _, _, _, _, _, _, _, _, _, _, _, _, _, _, _, _, _, _, _, _, _, _, _, _, _, _, _, _, _, _, _, _, _, _, _, _, _, _, _, _, _, _, _, _, _, _, _, _, _] rfl tyS_impl_Conn rfl rfl rfl rfl <| MV rfl rfl <| ?_
    have hk1_15 : (0 : Int) ≤ 1 ∧ (1 : Int) ≤ 1 := by decide
    refine CV1 rfl fun_laws_heldConn rfl (fun w hs => laws_heldConn (k := 1) (l0 := (closeTo x code).streams) (l1 := (closeTo x code).packets) ⟨_, _, hrv12_0, hrd12_0 _ (fun c hc => hs.at_ c (List.mem_append_right _ (List.mem_append_left _ hc)))⟩ ⟨_, _, hrv12_1, hrd12_1 _ (fun c hc => hs.at_ c (List.mem_append_right _ (List.mem_append_right _ (List.mem_append_left _ hc))))⟩ hz1_0 hz1_1 hz1_2 hz1_3 (kto hk1_15 (by decide) (by decide) (by decide))) <| ?_
    have hkb16 : 0 ≤ (endD kS6 1 (closeTo x code).streams) ∧ (endD kS6 1 (closeTo x code).streams) ≤ 9895640301569 := by
      have hkt := endD_all (nx := kS6) (l := (closeTo x code).streams) 9437218 (by decide) hz1_0 (k := 1) (fun x hx k => kS6_bd (hz1_1 x hx) k)
      omega
    have hkb17 : 0 ≤ (endD kP (endD kS6 1 (closeTo x code).streams) (closeTo x code).packets) ∧ (endD kP (endD kS6 1 (closeTo x code).streams) (closeTo x code).packets) ≤ 19791246000129 := by
      have hkt := endD_all (nx := kP) (l := (closeTo x code).packets) 9437185 (by decide) hz1_2 (k := (endD kS6 1 (closeTo x code).streams)) (fun x hx k => kP_bd (hz1_3 x hx) k)
      omega
    refine AS rfl rfl <| ND <| SQ <| SQ <| RG <| MV rfl rfl <| rw_lss rfl rfl rfl <| ND <| CF rfl (knn (kup hkb17)) <| SK <| SQ <| SQ <| RG <| MV rfl rfl <| MV rfl rfl <| NS rfl rfl rfl <| ND <| gw_sub (Sub.cons (i := 1) rfl (Sub.cons (i := 2) rfl (Sub.cons (i := 4) rfl (Sub.cons (i := 6) rfl (Sub.cons (i := 8) rfl (Sub.cons (i := 10) rfl (Sub.cons (i := 11) rfl (Sub.cons (i := 57) rfl (Sub.nil _))))))))) <| CF rfl rfl <| SK <| SQ <| RG <| LS (i := 3) [_, _, _, _, _, _, _, _, _, _, _, _, _, _, _, _, _, _, _, _, _, _, _, _, _, _, _, _, _, _, _, _, _, _, _, _, _, _, _, _, _, _, _, _, _, _, _, _, _, _] rfl tyS_laws_Conn rfl rfl rfl rfl <| ?_
    refine CN1 rfl fun_laws_toConn rfl (fun w hs => laws_toConn ⟨_, _, rfl, (hA0.s RdStream.keeps hs), (hA1.s RdPacket.keeps hs)⟩ ⟨hz1_0, hz1_1, hz1_2, hz1_3⟩) <| fun vv18 ch18 how18 => ?_
    obtain ⟨cs18, rfl, v18_0, v18_1, c18_0, c18_1, rfl, h18_0, h18_1, rfl⟩ := how18
    refine rw_F (F' := c18_0 ++ (c18_1 ++ (ch12_0 ++ (ch12_1 ++ (ch8_0 ++ (ch8_1 ++ (c6_0 ++ (c6_1 ++ (c3_0 ++ (c3_1 ++ (c2_0 ++ (c2_1 ++ ([]))))))))))))) (by simp only [List.append_assoc]) <| ?_
    obtain ⟨R18_0, b18_0, rfl, hR18_0, hrd18_0⟩ := h18_0.shape eStream
    obtain ⟨R18_1, b18_1, rfl, hR18_1, hrd18_1⟩ := h18_1.shape ePacket
    refine MV rfl rfl <| CN1 rfl fun_impl_CloseConn rfl (fun w hs => impl_CloseConn_T ⟨_, _, rfl, ⟨_, _, rfl, hrd18_0 _ (fun c hc => hs.at_ c (List.mem_append_right _ (List.mem_append_left _ hc)))⟩, ⟨_, _, rfl, hrd18_1 _ (fun c hc => hs.at_ c (List.mem_append_right _ (List.mem_append_right _ (List.mem_append_left _ hc))))⟩⟩ ⟨hz1_0, hz1_1, hz1_2, hz1_3⟩ hc) <| fun vv19 ch19 how19 => ?_
    obtain ⟨cs19, rfl, v19_0, v19_1, c19_0, c19_1, rfl, h19_0, h19_1, rfl⟩ := how19
    refine rw_F (F' := c19_0 ++ (c19_1 ++ (c18_0 ++ (c18_1 ++ (ch12_0 ++ (ch12_1 ++ (ch8_0 ++ (ch8_1 ++ (c6_0 ++ (c6_1 ++ (c3_0 ++ (c3_1 ++ (c2_0 ++ (c2_1 ++ ([]))))))))))))))) (by simp only [List.append_assoc]) <| ?_
    obtain ⟨R19_0, b19_0, rfl, hR19_0, hrd19_0⟩ := h19_0.shape eStream
    obtain ⟨R19_1, b19_1, rfl, hR19_1, hrd19_1⟩ := h19_1.shape ePacket
    refine AL rfl tyZ_impl_Conn <| fun b5 => rw_storeN (i := 0) [_, _, _, _, _, _, _, _, _, _, _, _, _, _, _, _, _, _, _, _, _, _, _, _, _, _, _, _, _, _, _, _, _, _, _, _, _, _, _, _, _, _, _, _, _, _, _, _, _, _] [_, _, _, _, _, _, _, _, _, _, _, _, _, _, _, _, _, _, _, _, _, _, _, _, _, _, _, _, _, _, _, _, _, _, _, _, _, _, _, _, _, _, _, _, _, _, _, _, _, _] [_, _, _, _, _] tyS_impl_Conn.sz rfl rfl rfl rfl rfl rfl rfl rfl rfl <| ND <| SQ <| SQ <| RG <| LS (i := 0) [_, _, _, _, _, _, _, _, _, _, _, _, _, _, _, _, _, _, _, _, _, _, _, _, _, _, _, _, _, _, _, _, _, _, _, _, _, _, _, _, _, _, _, _, _, _, _, _, _, _] rfl tyS_impl_Conn rfl rfl rfl rfl <| ?_
    refine LS (i := 3) [_, _, _, _, _, _, _, _, _, _, _, _, _, _, _, _, _, _, _, _, _, _, _, _, _, _, _, _, _, _, _, _, _, _, _, _, _, _, _, _, _, _, _, _, _, _, _, _, _, _] rfl tyS_impl_Conn rfl rfl rfl rfl <| CV1 rfl fun_laws_eqConn rfl (fun w hs => laws_eqConn ⟨_, _, rfl, ⟨_, _, rfl, hrd19_0 _ (fun c hc => hs.at_ c (List.mem_append_right _ (List.mem_append_left _ hc)))⟩, ⟨_, _, rfl, hrd19_1 _ (fun c hc => hs.at_ c (List.mem_append_right _ (List.mem_append_right _ (List.mem_append_left _ hc))))⟩⟩ ⟨hz1_0, hz1_1, hz1_2, hz1_3⟩ ⟨_, _, rfl, ⟨_, _, rfl, hrd3_0 _ (fun c hc => hs.at_ c (List.mem_append_right _ (List.mem_append_right _ (List.mem_append_right _ (List.mem_append_right _ (List.mem_append_right _ (List.mem_append_right _ (List.mem_append_right _ (List.mem_append_right _ (List.mem_append_right _ (List.mem_append_right _ (List.mem_append_right _ (List.mem_append_left _ hc)))))))))))))⟩, ⟨_, _, rfl, hrd3_1 _ (fun c hc => hs.at_ c (List.mem_append_right _ (List.mem_append_right _ (List.mem_append_right _ (List.mem_append_right _ (List.mem_append_right _ (List.mem_append_right _ (List.mem_append_right _ (List.mem_append_right _ (List.mem_append_right _ (List.mem_append_right _ (List.mem_append_right _ (List.mem_append_right _ (List.mem_append_left _ hc))))))))))))))⟩⟩) <| ?_
    refine NT rfl rfl <| ND <| gw_sub (Sub.cons (i := 4) rfl (Sub.cons (i := 8) rfl (Sub.cons (i := 10) rfl (Sub.cons (i := 11) rfl (Sub.cons (i := 65) rfl (Sub.nil _)))))) <| CF rfl rfl <| SK <| SQ <| RG <| AS rfl rfl <| ND <| SQ <| RG <| LS (i := 1) [_, _, _, _, _, _, _, _, _, _, _, _, _, _, _, _, _, _, _, _, _, _, _, _, _, _, _, _, _, _, _, _, _, _, _, _, _, _, _, _, _, _, _, _, _, _, _, _, _, _] rfl tyS_impl_Conn rfl rfl rfl rfl <| MV rfl rfl <| ?_
    have hk1_20 : (0 : Int) ≤ 1 ∧ (1 : Int) ≤ 1 := by decide
    refine CV1 rfl fun_laws_heldConn rfl (fun w hs => laws_heldConn (k := 1) (l0 := (closeTo x code).streams) (l1 := (closeTo x code).packets) ⟨_, _, hrv12_0, hrd12_0 _ (fun c hc => hs.at_ c (List.mem_append_right _ (List.mem_append_right _ (List.mem_append_right _ (List.mem_append_right _ (List.mem_append_right _ (List.mem_append_left _ hc)))))))⟩ ⟨_, _, hrv12_1, hrd12_1 _ (fun c hc => hs.at_ c (List.mem_append_right _ (List.mem_append_right _ (List.mem_append_right _ (List.mem_append_right _ (List.mem_append_right _ (List.mem_append_right _ (List.mem_append_left _ hc))))))))⟩ hz1_0 hz1_1 hz1_2 hz1_3 (kto hk1_20 (by decide) (by decide) (by decide))) <| ?_
    have hkb21 : 0 ≤ (endD kS6 1 (closeTo x code).streams) ∧ (endD kS6 1 (closeTo x code).streams) ≤ 9895640301569 := by
      have hkt := endD_all (nx := kS6) (l := (closeTo x code).streams) 9437218 (by decide) hz1_0 (k := 1) (fun x hx k => kS6_bd (hz1_1 x hx) k)
      omega
    have hkb22 : 0 ≤ (endD kP (endD kS6 1 (closeTo x code).streams) (closeTo x code).packets) ∧ (endD kP (endD kS6 1 (closeTo x code).streams) (closeTo x code).packets) ≤ 19791246000129 := by
      have hkt := endD_all (nx := kP) (l := (closeTo x code).packets) 9437185 (by decide) hz1_2 (k := (endD kS6 1 (closeTo x code).streams)) (fun x hx k => kP_bd (hz1_3 x hx) k)
      omega
    refine AS rfl rfl <| ND <| SQ <| SQ <| RG <| MV rfl rfl <| rw_lss rfl rfl rfl <| ND <| CF rfl (knn (kup hkb22)) <| SK <| SQ <| SQ <| RG <| MV rfl rfl <| MV rfl rfl <| NS rfl rfl rfl <| ND <| gw_sub (Sub.cons (i := 4) rfl (Sub.cons (i := 73) rfl (Sub.nil _))) <| CF rfl rfl <| SK <| SQ <| RG <| AS rfl rfl <| ND <| ret_cv Try.func7 (res1 Try.func7 rfl (rv_tmp rfl)) <| ?_
    rfl

set_option maxHeartbeats 4000000 in
set_option maxRecDepth 20000 in
theorem law_FnExactCloseConn_F {w : World} {cs : List Value} {x : Conn} (hv : RdConn w cs x) (hb : x.le 9223372036854775807) {code : Int} (hc : (x.closed == 0 && within code 1 255) = false) : CV Try.prog 7 [.agg cs.toArray, .int .i64 code] w (.bool true) := by
  obtain ⟨v0, v1, rfl, k0, k1⟩ := hv
  obtain ⟨A0, c0, rfl, hA0⟩ := k0
  obtain ⟨A1, c1, rfl, hA1⟩ := k1
  obtain ⟨hb0, hb1, hb2, hb3⟩ := hb
  refine cv_of Try.func7 rfl rfl rfl <| SQ <| RG <| BX [_, _, _, _, _, _, _, _, _, _, _, _, _, _, _, _, _, _, _, _, _, _, _, _, _, _, _, _, _, _, _, _, _, _, _, _, _, _, _, _, _, _, _, _, _, _, _, _, _, _] rfl rfl rfl <| fun b1 => AS rfl rfl <| ND <| SQ <| RG <| AS rfl rfl <| ND <| SQ <| RG <| LS (i := 0) [_, _, _, _, _, _, _, _, _, _, _, _, _, _, _, _, _, _, _, _, _, _, _, _, _, _, _, _, _, _, _, _, _, _, _, _, _, _, _, _, _, _, _, _, _, _, _, _, _, _] rfl tyS_laws_Conn rfl rfl rfl rfl <| MV rfl rfl <| CV1 rfl fun_laws_szConn rfl (fun w hs => laws_szConn ⟨_, _, rfl, (hA0.s RdStream.keeps hs), (hA1.s RdPacket.keeps hs)⟩ _ ⟨by first | omega | assumption, by first | omega | assumption, by first | omega | assumption, by first | omega | assumption⟩ (by omega) (by omega)) <| ?_
  refine AS rfl rfl <| ND <| SQ <| SQ <| RG <| MV rfl rfl <| rw_lss rfl rfl rfl <| ND <| ?_
  refine gw_cond rfl (fun h1 => ?_) (fun h1 => ?_)
  · refine SQ <| RG <| AS rfl rfl <| ND <| ret_cv Try.func7 (res1 Try.func7 rfl (rv_tmp rfl)) <| ?_
    rfl
  · have hnn1 := nn_of h1
    obtain ⟨hle1, hz1_0, hz1_1, hz1_2, hz1_3⟩ := szConn_ok ⟨by first | omega | assumption, by first | omega | assumption, by first | omega | assumption, by first | omega | assumption⟩ (by omega) (by omega) hnn1
    refine SK <| SQ <| RG <| LS (i := 0) [_, _, _, _, _, _, _, _, _, _, _, _, _, _, _, _, _, _, _, _, _, _, _, _, _, _, _, _, _, _, _, _, _, _, _, _, _, _, _, _, _, _, _, _, _, _, _, _, _, _] rfl tyS_laws_Conn rfl rfl rfl rfl <| CN1 rfl fun_laws_toConn rfl (fun w hs => laws_toConn ⟨_, _, rfl, (hA0.s RdStream.keeps hs), (hA1.s RdPacket.keeps hs)⟩ ⟨hz1_0, hz1_1, hz1_2, hz1_3⟩) <| fun vv2 ch2 how2 => ?_
    obtain ⟨cs2, rfl, v2_0, v2_1, c2_0, c2_1, rfl, h2_0, h2_1, rfl⟩ := how2
    refine rw_F (F' := c2_0 ++ (c2_1 ++ ([]))) (by simp only [List.append_assoc]) <| ?_
    obtain ⟨R2_0, b2_0, rfl, hR2_0, hrd2_0⟩ := h2_0.shape eStream
    obtain ⟨R2_1, b2_1, rfl, hR2_1, hrd2_1⟩ := h2_1.shape ePacket
    refine MV rfl rfl <| CN1 rfl fun_spec_CloseConn rfl (fun w hs => spec_CloseConn_F ⟨_, _, rfl, ⟨_, _, rfl, hrd2_0 _ (fun c hc => hs.at_ c (List.mem_append_right _ (List.mem_append_left _ hc)))⟩, ⟨_, _, rfl, hrd2_1 _ (fun c hc => hs.at_ c (List.mem_append_right _ (List.mem_append_right _ (List.mem_append_left _ hc))))⟩⟩ ⟨hz1_0, hz1_1, hz1_2, hz1_3⟩ hc) <| fun vv3 ch3 how3 => ?_
    obtain ⟨cs3, rfl, v3_0, v3_1, c3_0, c3_1, rfl, h3_0, h3_1, rfl⟩ := how3
    refine rw_F (F' := c3_0 ++ (c3_1 ++ (c2_0 ++ (c2_1 ++ ([]))))) (by simp only [List.append_assoc]) <| ?_
    obtain ⟨R3_0, b3_0, rfl, hR3_0, hrd3_0⟩ := h3_0.shape eStream
    obtain ⟨R3_1, b3_1, rfl, hR3_1, hrd3_1⟩ := h3_1.shape ePacket
    refine AL rfl tyZ_impl_Conn <| fun b2 => rw_storeN (i := 0) [_, _, _, _, _, _, _, _, _, _, _, _, _, _, _, _, _, _, _, _, _, _, _, _, _, _, _, _, _, _, _, _, _, _, _, _, _, _, _, _, _, _, _, _, _, _, _, _, _, _] [_, _, _, _, _, _, _, _, _, _, _, _, _, _, _, _, _, _, _, _, _, _, _, _, _, _, _, _, _, _, _, _, _, _, _, _, _, _, _, _, _, _, _, _, _, _, _, _, _, _] [_, _] tyS_impl_Conn.sz rfl rfl rfl rfl rfl rfl rfl rfl rfl <| ND <| gw_sub (Sub.cons (i := 1) rfl (Sub.cons (i := 2) rfl (Sub.cons (i := 4) rfl (Sub.cons (i := 6) rfl (Sub.nil _))))) <| SQ <| RG <| LS (i := 1) [_, _, _, _, _, _, _, _, _, _, _, _, _, _, _, _, _, _, _, _, _, _, _, _, _, _, _, _, _, _, _, _, _, _, _, _, _, _, _, _, _, _, _, _, _, _, _, _, _, _] rfl tyS_laws_Conn rfl rfl rfl rfl <| ?_
    refine CN1 rfl fun_laws_toConn rfl (fun w hs => laws_toConn ⟨_, _, rfl, (hA0.s RdStream.keeps hs), (hA1.s RdPacket.keeps hs)⟩ ⟨hz1_0, hz1_1, hz1_2, hz1_3⟩) <| fun vv4 ch4 how4 => ?_
    obtain ⟨cs4, rfl, v4_0, v4_1, c4_0, c4_1, rfl, h4_0, h4_1, rfl⟩ := how4
    refine rw_F (F' := c4_0 ++ (c4_1 ++ (c3_0 ++ (c3_1 ++ (c2_0 ++ (c2_1 ++ ([]))))))) (by simp only [List.append_assoc]) <| ?_
    obtain ⟨R4_0, b4_0, rfl, hR4_0, hrd4_0⟩ := h4_0.shape eStream
    obtain ⟨R4_1, b4_1, rfl, hR4_1, hrd4_1⟩ := h4_1.shape ePacket
    refine AL rfl tyZ_impl_Conn <| fun b3 => rw_storeN (i := 0) [_, _, _, _, _, _, _, _, _, _, _, _, _, _, _, _, _, _, _, _, _, _, _, _, _, _, _, _, _, _, _, _, _, _, _, _, _, _, _, _, _, _, _, _, _, _, _, _, _, _] [_, _, _, _, _, _, _, _, _, _, _, _, _, _, _, _, _, _, _, _, _, _, _, _, _, _, _, _, _, _, _, _, _, _, _, _, _, _, _, _, _, _, _, _, _, _, _, _, _, _] [_, _, _] tyS_impl_Conn.sz rfl rfl rfl rfl rfl rfl rfl rfl rfl <| ND <| SQ <| RG <| LS (i := 0) [_, _, _, _, _, _, _, _, _, _, _, _, _, _, _, _, _, _, _, _, _, _, _, _, _, _, _, _, _, _, _, _, _, _, _, _, _, _, _, _, _, _, _, _, _, _, _, _, _, _] rfl tyS_impl_Conn rfl rfl rfl rfl <| ?_
    refine MV rfl rfl <| CN1 rfl fun_impl_CloseConn rfl (fun w hs => impl_CloseConn_F ⟨_, _, rfl, ⟨_, _, rfl, hrd4_0 _ (fun c hc => hs.at_ c (List.mem_append_right _ (List.mem_append_left _ hc)))⟩, ⟨_, _, rfl, hrd4_1 _ (fun c hc => hs.at_ c (List.mem_append_right _ (List.mem_append_right _ (List.mem_append_left _ hc))))⟩⟩ ⟨hz1_0, hz1_1, hz1_2, hz1_3⟩ hc) <| fun vv5 ch5 how5 => ?_
    obtain ⟨cs5, rfl, v5_0, v5_1, c5_0, c5_1, rfl, h5_0, h5_1, rfl⟩ := how5
    refine rw_F (F' := c5_0 ++ (c5_1 ++ (c4_0 ++ (c4_1 ++ (c3_0 ++ (c3_1 ++ (c2_0 ++ (c2_1 ++ ([]))))))))) (by simp only [List.append_assoc]) <| ?_
    obtain ⟨R5_0, b5_0, rfl, hR5_0, hrd5_0⟩ := h5_0.shape eStream
    obtain ⟨R5_1, b5_1, rfl, hR5_1, hrd5_1⟩ := h5_1.shape ePacket
    refine AL rfl tyZ_impl_Conn <| fun b4 => rw_storeN (i := 0) [_, _, _, _, _, _, _, _, _, _, _, _, _, _, _, _, _, _, _, _, _, _, _, _, _, _, _, _, _, _, _, _, _, _, _, _, _, _, _, _, _, _, _, _, _, _, _, _, _, _] [_, _, _, _, _, _, _, _, _, _, _, _, _, _, _, _, _, _, _, _, _, _, _, _, _, _, _, _, _, _, _, _, _, _, _, _, _, _, _, _, _, _, _, _, _, _, _, _, _, _] [_, _, _, _] tyS_impl_Conn.sz rfl rfl rfl rfl rfl rfl rfl rfl rfl <| ND <| SQ <| SQ <| RG <| LS (i := 0) [_, _, _, _, _, _, _, _, _, _, _, _, _, _, _, _, _, _, _, _, _, _, _, _, _, _, _, _, _, _, _, _, _, _, _, _, _, _, _, _, _, _, _, _, _, _, _, _, _, _] rfl tyS_impl_Conn rfl rfl rfl rfl <| ?_
    refine LS (i := 2) [_, _, _, _, _, _, _, _, _, _, _, _, _, _, _, _, _, _, _, _, _, _, _, _, _, _, _, _, _, _, _, _, _, _, _, _, _, _, _, _, _, _, _, _, _, _, _, _, _, _] rfl tyS_impl_Conn rfl rfl rfl rfl <| CV1 rfl fun_laws_eqConn rfl (fun w hs => laws_eqConn ⟨_, _, rfl, ⟨_, _, rfl, hrd5_0 _ (fun c hc => hs.at_ c (List.mem_append_right _ (List.mem_append_left _ hc)))⟩, ⟨_, _, rfl, hrd5_1 _ (fun c hc => hs.at_ c (List.mem_append_right _ (List.mem_append_right _ (List.mem_append_left _ hc))))⟩⟩ ⟨hz1_0, hz1_1, hz1_2, hz1_3⟩ ⟨_, _, rfl, ⟨_, _, rfl, hrd3_0 _ (fun c hc => hs.at_ c (List.mem_append_right _ (List.mem_append_right _ (List.mem_append_right _ (List.mem_append_right _ (List.mem_append_right _ (List.mem_append_left _ hc)))))))⟩, ⟨_, _, rfl, hrd3_1 _ (fun c hc => hs.at_ c (List.mem_append_right _ (List.mem_append_right _ (List.mem_append_right _ (List.mem_append_right _ (List.mem_append_right _ (List.mem_append_right _ (List.mem_append_left _ hc))))))))⟩⟩) <| ?_
    refine NT rfl rfl <| ND <| CF rfl rfl <| SK <| SQ <| SQ <| gw_draw' [(0, .det), (1, .det), (2, .add)] [3, 4] mixed rfl (free_det (free_det (free_add free_nil))) (ts := [_, _]) rfl <| DT rfl rfl (fun K hk => LS (i := 1) [_, _, _, _, _, _, _, _, _, _, _, _, _, _, _, _, _, _, _, _, _, _, _, _, _, _, _, _, _, _, _, _, _, _, _, _, _, _, _, _, _, _, _, _, _, _, _, _, _, _] rfl tyS_impl_Conn rfl rfl rfl rfl hk) <| DT rfl rfl (fun K hk => LS (i := 3) [_, _, _, _, _, _, _, _, _, _, _, _, _, _, _, _, _, _, _, _, _, _, _, _, _, _, _, _, _, _, _, _, _, _, _, _, _, _, _, _, _, _, _, _, _, _, _, _, _, _] rfl tyS_laws_Conn rfl rfl rfl rfl hk) <| ?_
    refine DA rfl rfl (fun K hk => CN1 rfl fun_laws_toConn rfl (fun w hs => laws_toConn ⟨_, _, rfl, (hA0.s RdStream.keeps hs), (hA1.s RdPacket.keeps hs)⟩ ⟨hz1_0, hz1_1, hz1_2, hz1_3⟩) hk) <| fun vv6 ch6 how6 => ?_
    obtain ⟨cs6, rfl, v6_0, v6_1, c6_0, c6_1, rfl, h6_0, h6_1, rfl⟩ := how6
    refine dw_F (F' := c6_0 ++ (c6_1 ++ (c5_0 ++ (c5_1 ++ (c4_0 ++ (c4_1 ++ (c3_0 ++ (c3_1 ++ (c2_0 ++ (c2_1 ++ ([]))))))))))) (by simp only [List.append_assoc]) <| ?_
    obtain ⟨R6_0, b6_0, rfl, hR6_0, hrd6_0⟩ := h6_0.shape eStream
    obtain ⟨R6_1, b6_1, rfl, hR6_1, hrd6_1⟩ := h6_1.shape ePacket
    refine dw_nil <| CV1 rfl fun_laws_eqConn rfl (fun w hs => laws_eqConn ⟨_, _, rfl, ⟨_, _, rfl, hrd4_0 _ (fun c hc => hs.at_ c (List.mem_append_right _ (List.mem_append_right _ (List.mem_append_right _ (List.mem_append_right _ (List.mem_append_right _ (List.mem_append_left _ hc)))))))⟩, ⟨_, _, rfl, hrd4_1 _ (fun c hc => hs.at_ c (List.mem_append_right _ (List.mem_append_right _ (List.mem_append_right _ (List.mem_append_right _ (List.mem_append_right _ (List.mem_append_right _ (List.mem_append_left _ hc))))))))⟩⟩ ⟨hz1_0, hz1_1, hz1_2, hz1_3⟩ ⟨_, _, rfl, ⟨_, _, rfl, hrd6_0 _ (fun c hc => hs.at_ c (List.mem_append_right _ (List.mem_append_left _ hc)))⟩, ⟨_, _, rfl, hrd6_1 _ (fun c hc => hs.at_ c (List.mem_append_right _ (List.mem_append_right _ (List.mem_append_left _ hc))))⟩⟩) <| ?_
    refine NT rfl rfl <| ND <| gw_sub (Sub.cons (i := 1) rfl (Sub.cons (i := 2) rfl (Sub.cons (i := 4) rfl (Sub.cons (i := 6) rfl (Sub.cons (i := 7) rfl (Sub.cons (i := 8) rfl (Sub.cons (i := 35) rfl (Sub.nil _)))))))) <| CF rfl rfl <| SK <| SQ <| RG <| AS rfl rfl <| ND <| SQ <| RG <| LS (i := 1) [_, _, _, _, _, _, _, _, _, _, _, _, _, _, _, _, _, _, _, _, _, _, _, _, _, _, _, _, _, _, _, _, _, _, _, _, _, _, _, _, _, _, _, _, _, _, _, _, _, _] rfl tyS_impl_Conn rfl rfl rfl rfl <| MV rfl rfl <| ?_
    have hk1_7 : (0 : Int) ≤ 1 ∧ (1 : Int) ≤ 1 := by decide
    refine rw_ch (G := c4_0 ++ (c4_1)) (R := c6_0 ++ (c6_1 ++ (c5_0 ++ (c5_1 ++ (c3_0 ++ (c3_1 ++ (c2_0 ++ (c2_1 ++ ([]))))))))) rfl fun_laws_markConn rfl ((((((((((((((((List.Perm.refl _)).append_left _).trans (pullc _ _ _))).append_left _).trans (pullc _ _ _))).append_left _).trans (pullc _ _ _))).append_left _).trans (pullc _ _ _)).trans (((((((((((((((List.Perm.refl _)).append_left _).trans (pullc _ _ _))).append_left _).trans (pullc _ _ _))).append_left _).trans (pullc _ _ _))).append_left _).trans (pullc _ _ _)).trans ((List.Perm.refl _).append_left _)).append_left _))).trans (List.Perm.of_eq (by simp only [List.append_assoc]))) (fun w hs hin hnd => laws_markConn (x := x) h4_0 h4_1 hz1_0 hz1_1 hz1_2 hz1_3 (kto hk1_7 (by decide) (by decide) (by decide)) hin hnd) <| fun vh8 ch8 how8 => ?_
    obtain ⟨rfl, ch8_0, ch8_1, rfl, hO8_0, hO8_1⟩ := how8
    refine rw_F (F' := ch8_0 ++ (ch8_1 ++ (c6_0 ++ (c6_1 ++ (c5_0 ++ (c5_1 ++ (c3_0 ++ (c3_1 ++ (c2_0 ++ (c2_1 ++ ([]))))))))))) (by simp only [List.append_assoc]) <| ?_
    obtain ⟨hn8_0, hrv8_0, hR8_0, hrd8_0⟩ := hO8_0.reshape eStream
    obtain ⟨hn8_1, hrv8_1, hR8_1, hrd8_1⟩ := hO8_1.reshape ePacket
    have hkb9 : 0 ≤ (endD kS6 1 x.streams) ∧ (endD kS6 1 x.streams) ≤ 9895640301569 := by
      have hkt := endD_all (nx := kS6) (l := x.streams) 9437218 (by decide) hz1_0 (k := 1) (fun x hx k => kS6_bd (hz1_1 x hx) k)
      omega
    have hkb10 : 0 ≤ (endD kP (endD kS6 1 x.streams) x.packets) ∧ (endD kP (endD kS6 1 x.streams) x.packets) ≤ 19791246000129 := by
      have hkt := endD_all (nx := kP) (l := x.packets) 9437185 (by decide) hz1_2 (k := (endD kS6 1 x.streams)) (fun x hx k => kP_bd (hz1_3 x hx) k)
      omega
    refine AS rfl rfl <| ND <| SQ <| SQ <| RG <| MV rfl rfl <| rw_lss rfl rfl rfl <| MV rfl rfl <| ON rfl rfl (knn (kup hkb10)) <| LS (i := 0) [_, _, _, _, _, _, _, _, _, _, _, _, _, _, _, _, _, _, _, _, _, _, _, _, _, _, _, _, _, _, _, _, _, _, _, _, _, _, _, _, _, _, _, _, _, _, _, _, _, _] rfl tyS_impl_Conn rfl rfl rfl rfl <| ON rfl rfl (knn (kup hkb10)) <| LS (i := 2) [_, _, _, _, _, _, _, _, _, _, _, _, _, _, _, _, _, _, _, _, _, _, _, _, _, _, _, _, _, _, _, _, _, _, _, _, _, _, _, _, _, _, _, _, _, _, _, _, _, _] rfl tyS_impl_Conn rfl rfl rfl rfl <| ?_
    refine ON rfl rfl (knn (kup hkb10)) <| CV1 rfl fun_laws_eqConn rfl (fun w hs => laws_eqConn ⟨_, _, rfl, ⟨_, _, rfl, hrd5_0 _ (fun c hc => hs.at_ c (List.mem_append_right _ (List.mem_append_right _ (List.mem_append_right _ (List.mem_append_right _ (List.mem_append_right _ (List.mem_append_left _ hc)))))))⟩, ⟨_, _, rfl, hrd5_1 _ (fun c hc => hs.at_ c (List.mem_append_right _ (List.mem_append_right _ (List.mem_append_right _ (List.mem_append_right _ (List.mem_append_right _ (List.mem_append_right _ (List.mem_append_left _ hc))))))))⟩⟩ ⟨hz1_0, hz1_1, hz1_2, hz1_3⟩ ⟨_, _, rfl, ⟨_, _, rfl, hrd3_0 _ (fun c hc => hs.at_ c (List.mem_append_right _ (List.mem_append_right _ (List.mem_append_right _ (List.mem_append_right _ (List.mem_append_right _ (List.mem_append_right _ (List.mem_append_right _ (List.mem_append_left _ hc)))))))))⟩, ⟨_, _, rfl, hrd3_1 _ (fun c hc => hs.at_ c (List.mem_append_right _ (List.mem_append_right _ (List.mem_append_right _ (List.mem_append_right _ (List.mem_append_right _ (List.mem_append_right _ (List.mem_append_right _ (List.mem_append_right _ (List.mem_append_left _ hc))))))))))⟩⟩) <| ?_
    refine ON rfl rfl (knn (kup hkb10)) <| NT rfl rfl <| PF rfl rfl (knn (kup hkb10)) rfl <| ND <| gw_sub (Sub.cons (i := 1) rfl (Sub.cons (i := 2) rfl (Sub.cons (i := 4) rfl (Sub.cons (i := 6) rfl (Sub.cons (i := 8) rfl (Sub.cons (i := 46) rfl (Sub.nil _))))))) <| CF rfl rfl <| SK <| SQ <| RG <| AS rfl rfl <| ND <| SQ <| RG <| LS (i := 0) [_, _, _, _, _, _, _, _, _, _, _, _, _, _, _, _, _, _, _, _, _, _, _, _, _, _, _, _, _, _, _, _, _, _, _, _, _, _, _, _, _, _, _, _, _, _, _, _, _, _] rfl tyS_impl_Conn rfl rfl rfl rfl <| MV rfl rfl <| ?_
    have hk1_11 : (0 : Int) ≤ 1 ∧ (1 : Int) ≤ 1 := by decide
    refine rw_ch (G := c5_0 ++ (c5_1)) (R := ch8_0 ++ (ch8_1 ++ (c6_0 ++ (c6_1 ++ (c3_0 ++ (c3_1 ++ (c2_0 ++ (c2_1 ++ ([]))))))))) rfl fun_laws_markConn rfl ((((((((((((((((List.Perm.refl _)).append_left _).trans (pullc _ _ _))).append_left _).trans (pullc _ _ _))).append_left _).trans (pullc _ _ _))).append_left _).trans (pullc _ _ _)).trans (((((((((((((((List.Perm.refl _)).append_left _).trans (pullc _ _ _))).append_left _).trans (pullc _ _ _))).append_left _).trans (pullc _ _ _))).append_left _).trans (pullc _ _ _)).trans ((List.Perm.refl _).append_left _)).append_left _))).trans (List.Perm.of_eq (by simp only [List.append_assoc]))) (fun w hs hin hnd => laws_markConn (x := x) h5_0 h5_1 hz1_0 hz1_1 hz1_2 hz1_3 (kto hk1_11 (by decide) (by decide) (by decide)) hin hnd) <| fun vh12 ch12 how12 => ?_
    obtain ⟨rfl, ch12_0, ch12_1, rfl, hO12_0, hO12_1⟩ := how12
    refine rw_F (F' := ch12_0 ++ (ch12_1 ++ (ch8_0 ++ (ch8_1 ++ (c6_0 ++ (c6_1 ++ (c3_0 ++ (c3_1 ++ (c2_0 ++ (c2_1 ++ ([]))))))))))) (by simp only [List.append_assoc]) <| ?_
    obtain ⟨hn12_0, hrv12_0, hR12_0, hrd12_0⟩ := hO12_0.reshape eStream
    obtain ⟨hn12_1, hrv12_1, hR12_1, hrd12_1⟩ := hO12_1.reshape ePacket
    have hkb13 : 0 ≤ (endD kS6 1 x.streams) ∧ (endD kS6 1 x.streams) ≤ 9895640301569 := by
      have hkt := endD_all (nx := kS6) (l := x.streams) 9437218 (by decide) hz1_0 (k := 1) (fun x hx k => kS6_bd (hz1_1 x hx) k)
      omega
    have hkb14 : 0 ≤ (endD kP (endD kS6 1 x.streams) x.packets) ∧ (endD kP (endD kS6 1 x.streams) x.packets) ≤ 19791246000129 := by
      have hkt := endD_all (nx := kP) (l := x.packets) 9437185 (by decide) hz1_2 (k := (endD kS6 1 x.streams)) (fun x hx k => kP_bd (hz1_3 x hx) k)
      omega
    refine AS rfl rfl <| ND <| SQ <| RG <| AS rfl rfl <| ND <| SQ <| RG <| LS (i := 0) [_, _, _, _, _, _, _, _, _, _, _, _, _, _, _, _, _, _, _, _, _, _, _, _, _, _, _, _, _, _, _, _, _, _, _, _, _, _, _, _, _, _, _, _, _, _, _, _, _, _] rfl tyS_impl_Conn rfl rfl rfl rfl <| MV rfl rfl <| ?_
    have hk1_15 : (0 : Int) ≤ 1 ∧ (1 : Int) ≤ 1 := by decide
    refine CV1 rfl fun_laws_heldConn rfl (fun w hs => laws_heldConn (k := 1) (l0 := x.streams) (l1 := x.packets) ⟨_, _, hrv12_0, hrd12_0 _ (fun c hc => hs.at_ c (List.mem_append_right _ (List.mem_append_left _ hc)))⟩ ⟨_, _, hrv12_1, hrd12_1 _ (fun c hc => hs.at_ c (List.mem_append_right _ (List.mem_append_right _ (List.mem_append_left _ hc))))⟩ hz1_0 hz1_1 hz1_2 hz1_3 (kto hk1_15 (by decide) (by decide) (by decide))) <| ?_
    have hkb16 : 0 ≤ (endD kS6 1 x.streams) ∧ (endD kS6 1 x.streams) ≤ 9895640301569 := by
      have hkt := endD_all (nx := kS6) (l := x.streams) 9437218 (by decide) hz1_0 (k := 1) (fun x hx k => kS6_bd (hz1_1 x hx) k)
      omega
    have hkb17 : 0 ≤ (endD kP (endD kS6 1 x.streams) x.packets) ∧ (endD kP (endD kS6 1 x.streams) x.packets) ≤ 19791246000129 := by
      have hkt := endD_all (nx := kP) (l := x.packets) 9437185 (by decide) hz1_2 (k := (endD kS6 1 x.streams)) (fun x hx k => kP_bd (hz1_3 x hx) k)
      omega
    refine AS rfl rfl <| ND <| SQ <| SQ <| RG <| MV rfl rfl <| rw_lss rfl rfl rfl <| ND <| CF rfl (knn (kup hkb17)) <| SK <| SQ <| SQ <| RG <| MV rfl rfl <| MV rfl rfl <| NS rfl rfl rfl <| ND <| gw_sub (Sub.cons (i := 1) rfl (Sub.cons (i := 2) rfl (Sub.cons (i := 4) rfl (Sub.cons (i := 6) rfl (Sub.cons (i := 8) rfl (Sub.cons (i := 10) rfl (Sub.cons (i := 11) rfl (Sub.cons (i := 57) rfl (Sub.nil _))))))))) <| CF rfl rfl <| SK <| SQ <| RG <| LS (i := 3) [_, _, _, _, _, _, _, _, _, _, _, _, _, _, _, _, _, _, _, _, _, _, _, _, _, _, _, _, _, _, _, _, _, _, _, _, _, _, _, _, _, _, _, _, _, _, _, _, _, _] rfl tyS_laws_Conn rfl rfl rfl rfl <| ?_
    refine CN1 rfl fun_laws_toConn rfl (fun w hs => laws_toConn ⟨_, _, rfl, (hA0.s RdStream.keeps hs), (hA1.s RdPacket.keeps hs)⟩ ⟨hz1_0, hz1_1, hz1_2, hz1_3⟩) <| fun vv18 ch18 how18 => ?_
    obtain ⟨cs18, rfl, v18_0, v18_1, c18_0, c18_1, rfl, h18_0, h18_1, rfl⟩ := how18
    refine rw_F (F' := c18_0 ++ (c18_1 ++ (ch12_0 ++ (ch12_1 ++ (ch8_0 ++ (ch8_1 ++ (c6_0 ++ (c6_1 ++ (c3_0 ++ (c3_1 ++ (c2_0 ++ (c2_1 ++ ([]))))))))))))) (by simp only [List.append_assoc]) <| ?_
    obtain ⟨R18_0, b18_0, rfl, hR18_0, hrd18_0⟩ := h18_0.shape eStream
    obtain ⟨R18_1, b18_1, rfl, hR18_1, hrd18_1⟩ := h18_1.shape ePacket
    refine MV rfl rfl <| CN1 rfl fun_impl_CloseConn rfl (fun w hs => impl_CloseConn_F ⟨_, _, rfl, ⟨_, _, rfl, hrd18_0 _ (fun c hc => hs.at_ c (List.mem_append_right _ (List.mem_append_left _ hc)))⟩, ⟨_, _, rfl, hrd18_1 _ (fun c hc => hs.at_ c (List.mem_append_right _ (List.mem_append_right _ (List.mem_append_left _ hc))))⟩⟩ ⟨hz1_0, hz1_1, hz1_2, hz1_3⟩ hc) <| fun vv19 ch19 how19 => ?_
    obtain ⟨cs19, rfl, v19_0, v19_1, c19_0, c19_1, rfl, h19_0, h19_1, rfl⟩ := how19
    refine rw_F (F' := c19_0 ++ (c19_1 ++ (c18_0 ++ (c18_1 ++ (ch12_0 ++ (ch12_1 ++ (ch8_0 ++ (ch8_1 ++ (c6_0 ++ (c6_1 ++ (c3_0 ++ (c3_1 ++ (c2_0 ++ (c2_1 ++ ([]))))))))))))))) (by simp only [List.append_assoc]) <| ?_
    obtain ⟨R19_0, b19_0, rfl, hR19_0, hrd19_0⟩ := h19_0.shape eStream
    obtain ⟨R19_1, b19_1, rfl, hR19_1, hrd19_1⟩ := h19_1.shape ePacket
    refine AL rfl tyZ_impl_Conn <| fun b5 => rw_storeN (i := 0) [_, _, _, _, _, _, _, _, _, _, _, _, _, _, _, _, _, _, _, _, _, _, _, _, _, _, _, _, _, _, _, _, _, _, _, _, _, _, _, _, _, _, _, _, _, _, _, _, _, _] [_, _, _, _, _, _, _, _, _, _, _, _, _, _, _, _, _, _, _, _, _, _, _, _, _, _, _, _, _, _, _, _, _, _, _, _, _, _, _, _, _, _, _, _, _, _, _, _, _, _] [_, _, _, _, _] tyS_impl_Conn.sz rfl rfl rfl rfl rfl rfl rfl rfl rfl <| ND <| SQ <| SQ <| RG <| LS (i := 0) [_, _, _, _, _, _, _, _, _, _, _, _, _, _, _, _, _, _, _, _, _, _, _, _, _, _, _, _, _, _, _, _, _, _, _, _, _, _, _, _, _, _, _, _, _, _, _, _, _, _] rfl tyS_impl_Conn rfl rfl rfl rfl <| ?_
    refine LS (i := 3) [_, _, _, _, _, _, _, _, _, _, _, _, _, _, _, _, _, _, _, _, _, _, _, _, _, _, _, _, _, _, _, _, _, _, _, _, _, _, _, _, _, _, _, _, _, _, _, _, _, _] rfl tyS_impl_Conn rfl rfl rfl rfl <| CV1 rfl fun_laws_eqConn rfl (fun w hs => laws_eqConn ⟨_, _, rfl, ⟨_, _, rfl, hrd19_0 _ (fun c hc => hs.at_ c (List.mem_append_right _ (List.mem_append_left _ hc)))⟩, ⟨_, _, rfl, hrd19_1 _ (fun c hc => hs.at_ c (List.mem_append_right _ (List.mem_append_right _ (List.mem_append_left _ hc))))⟩⟩ ⟨hz1_0, hz1_1, hz1_2, hz1_3⟩ ⟨_, _, rfl, ⟨_, _, rfl, hrd3_0 _ (fun c hc => hs.at_ c (List.mem_append_right _ (List.mem_append_right _ (List.mem_append_right _ (List.mem_append_right _ (List.mem_append_right _ (List.mem_append_right _ (List.mem_append_right _ (List.mem_append_right _ (List.mem_append_right _ (List.mem_append_right _ (List.mem_append_right _ (List.mem_append_left _ hc)))))))))))))⟩, ⟨_, _, rfl, hrd3_1 _ (fun c hc => hs.at_ c (List.mem_append_right _ (List.mem_append_right _ (List.mem_append_right _ (List.mem_append_right _ (List.mem_append_right _ (List.mem_append_right _ (List.mem_append_right _ (List.mem_append_right _ (List.mem_append_right _ (List.mem_append_right _ (List.mem_append_right _ (List.mem_append_right _ (List.mem_append_left _ hc))))))))))))))⟩⟩) <| ?_
    refine NT rfl rfl <| ND <| gw_sub (Sub.cons (i := 4) rfl (Sub.cons (i := 8) rfl (Sub.cons (i := 10) rfl (Sub.cons (i := 11) rfl (Sub.cons (i := 65) rfl (Sub.nil _)))))) <| CF rfl rfl <| SK <| SQ <| RG <| AS rfl rfl <| ND <| SQ <| RG <| LS (i := 1) [_, _, _, _, _, _, _, _, _, _, _, _, _, _, _, _, _, _, _, _, _, _, _, _, _, _, _, _, _, _, _, _, _, _, _, _, _, _, _, _, _, _, _, _, _, _, _, _, _, _] rfl tyS_impl_Conn rfl rfl rfl rfl <| MV rfl rfl <| ?_
    have hk1_20 : (0 : Int) ≤ 1 ∧ (1 : Int) ≤ 1 := by decide
    refine CV1 rfl fun_laws_heldConn rfl (fun w hs => laws_heldConn (k := 1) (l0 := x.streams) (l1 := x.packets) ⟨_, _, hrv12_0, hrd12_0 _ (fun c hc => hs.at_ c (List.mem_append_right _ (List.mem_append_right _ (List.mem_append_right _ (List.mem_append_right _ (List.mem_append_right _ (List.mem_append_left _ hc)))))))⟩ ⟨_, _, hrv12_1, hrd12_1 _ (fun c hc => hs.at_ c (List.mem_append_right _ (List.mem_append_right _ (List.mem_append_right _ (List.mem_append_right _ (List.mem_append_right _ (List.mem_append_right _ (List.mem_append_left _ hc))))))))⟩ hz1_0 hz1_1 hz1_2 hz1_3 (kto hk1_20 (by decide) (by decide) (by decide))) <| ?_
    have hkb21 : 0 ≤ (endD kS6 1 x.streams) ∧ (endD kS6 1 x.streams) ≤ 9895640301569 := by
      have hkt := endD_all (nx := kS6) (l := x.streams) 9437218 (by decide) hz1_0 (k := 1) (fun x hx k => kS6_bd (hz1_1 x hx) k)
      omega
    have hkb22 : 0 ≤ (endD kP (endD kS6 1 x.streams) x.packets) ∧ (endD kP (endD kS6 1 x.streams) x.packets) ≤ 19791246000129 := by
      have hkt := endD_all (nx := kP) (l := x.packets) 9437185 (by decide) hz1_2 (k := (endD kS6 1 x.streams)) (fun x hx k => kP_bd (hz1_3 x hx) k)
      omega
    refine AS rfl rfl <| ND <| SQ <| SQ <| RG <| MV rfl rfl <| rw_lss rfl rfl rfl <| ND <| CF rfl (knn (kup hkb22)) <| SK <| SQ <| SQ <| RG <| MV rfl rfl <| MV rfl rfl <| NS rfl rfl rfl <| ND <| gw_sub (Sub.cons (i := 4) rfl (Sub.cons (i := 73) rfl (Sub.nil _))) <| CF rfl rfl <| SK <| SQ <| RG <| AS rfl rfl <| ND <| ret_cv Try.func7 (res1 Try.func7 rfl (rv_tmp rfl)) <| ?_
    rfl

theorem law_FnExactCloseConn {w : World} {cs : List Value} {x : Conn} (hv : RdConn w cs x) (hb : x.le 9223372036854775807) (code : Int) : CV Try.prog 7 [.agg cs.toArray, .int .i64 code] w (.bool true) := by
  cases hc : (x.closed == 0 && within code 1 255) with
  | true => exact law_FnExactCloseConn_T hv hb hc
  | false => exact law_FnExactCloseConn_F hv hb hc
end Go.Proofs.Ytildklpahfbnpaa
