/- Walks: a new stream; marks. -/
import Derived.Test.YtmoegjhihjgmgaaWE
import Derived.Test.YtmoegjhihjgmgaaNewS
import Derived.Test.YtmoegjhihjgmgaaFactsF
namespace Go.Proofs.Ytmoegjhihjgmgaa
open SL Go.RowKit
theorem spec_DefaultPriority (w : World) : CV Try.prog 71 [] w (.agg defaultPriority.cells.toArray) := by
  refine cv_of Try.func71 rfl rfl rfl <| SQ <| RG <| AL rfl tyZ_impl_Priority <| fun b1 => ND <| SQ <| RG <| rw_build [_, _] rfl tyB_impl_Priority tyZ_impl_Priority rfl rfl <| ST (i := 0) [_, _] [_, _] tyS_impl_Priority.sz rfl rfl rfl rfl rfl rfl rfl rfl <| ND <| ret_cv Try.func71 (res1 Try.func71 rfl (rv_s (i := 0) [_, _] tyS_impl_Priority rfl rfl rfl rfl)) <| ?_
  rfl

theorem spec_NewReceiver (w : World) : CV Try.prog 72 [] w (.agg (Receiver.row newReceiver (.slice none 0 0)).toArray) := by
  refine cv_of Try.func72 rfl rfl rfl <| SQ <| RG <| AL rfl tyZ_impl_Receiver <| fun b1 => ND <| SQ <| RG <| rw_build [_, _, _, _, _, _] rfl tyB_impl_Receiver tyZ_impl_Receiver rfl rfl <| ST (i := 0) [_, _, _, _, _, _] [_, _, _, _, _, _] tyS_impl_Receiver.sz rfl rfl rfl rfl rfl rfl rfl rfl <| ND <| ret_cv Try.func72 (res1 Try.func72 rfl (rv_s (i := 0) [_, _, _, _, _, _] tyS_impl_Receiver rfl rfl rfl rfl)) <| ?_
  rfl

theorem spec_IsUniId (id : Int) (w : World) : CV Try.prog 141 [.int .i64 id] w (.bool (isUni id)) := by
  refine cv_of Try.func141 rfl rfl rfl <| SQ <| RG <| AS rfl rfl <| ND <| SQ <| RG <| MV rfl rfl <| CV1 rfl fun_spec_l4Quic rfl (fun w hs => spec_l4Quic _ w) <| MV rfl rfl <| ?_
  refine rw_case (j := 5) rfl (fun h1 => ?_) (fun h1 => ?_)
  · refine ON rfl rfl h1 <| MV rfl rfl <| ON rfl rfl h1 <| rw_and rfl rfl rfl <| ON rfl rfl h1 <| EQ1 rfl rfl rfl <| PT rfl rfl h1 rfl <| AS rfl rfl <| ND <| ret_cv Try.func141 (res1 Try.func141 rfl (rv_tmp rfl)) <| ?_
    simp [isUni, h1]
  · refine OF rfl rfl h1 rfl <| OF rfl rfl h1 rfl <| OF rfl rfl h1 rfl <| PF rfl rfl h1 rfl <| AS rfl rfl <| ND <| ret_cv Try.func141 (res1 Try.func141 rfl (rv_tmp rfl)) <| ?_
    simp [isUni, h1]

theorem spec_IsServerId (id : Int) (w : World) : CV Try.prog 191 [.int .i64 id] w (.bool (isServerId id)) := by
  refine cv_of Try.func191 rfl rfl rfl <| SQ <| RG <| AS rfl rfl <| ND <| SQ <| RG <| MV rfl rfl <| CV1 rfl fun_spec_l4Quic rfl (fun w hs => spec_l4Quic _ w) <| MV rfl rfl <| ?_
  refine rw_case (j := 5) rfl (fun h1 => ?_) (fun h1 => ?_)
  · refine ON rfl rfl h1 <| MV rfl rfl <| ON rfl rfl h1 <| rw_and rfl rfl rfl <| ON rfl rfl h1 <| EQ1 rfl rfl rfl <| PT rfl rfl h1 rfl <| AS rfl rfl <| ND <| ret_cv Try.func191 (res1 Try.func191 rfl (rv_tmp rfl)) <| ?_
    simp [isServerId, h1]
  · refine OF rfl rfl h1 rfl <| OF rfl rfl h1 rfl <| OF rfl rfl h1 rfl <| PF rfl rfl h1 rfl <| AS rfl rfl <| ND <| ret_cv Try.func191 (res1 Try.func191 rfl (rv_tmp rfl)) <| ?_
    simp [isServerId, h1]

theorem spec_IsOwn (s : Bool) (id : Int) (w : World) : CV Try.prog 142 [.bool s, .int .i64 id] w (.bool (isOwn s id)) := by
  refine cv_of Try.func142 rfl rfl rfl <| SQ <| RG <| AS rfl rfl <| ND <| SQ <| RG <| MV rfl rfl <| CV1 rfl fun_spec_l4Quic rfl (fun w hs => spec_l4Quic _ w) <| MV rfl rfl <| ?_
  refine rw_case (j := 7) rfl (fun h1 => ?_) (fun h1 => ?_)
  · refine ON rfl rfl h1 <| MV rfl rfl <| ON rfl rfl h1 <| CV1 rfl fun_spec_IsServerId rfl (fun w hs => spec_IsServerId _ w) <| ON rfl rfl h1 <| MV rfl rfl <| ON rfl rfl h1 <| rw_eqlB (by kernel_rfl) rfl rfl rfl <| PT rfl rfl h1 rfl <| AS rfl rfl <| ND <| ret_cv Try.func142 (res1 Try.func142 rfl (rv_tmp rfl)) <| ?_
    simp [isOwn, h1]
  · refine OF rfl rfl h1 rfl <| OF rfl rfl h1 rfl <| OF rfl rfl h1 rfl <| OF rfl rfl h1 rfl <| PF rfl rfl h1 rfl <| AS rfl rfl <| ND <| ret_cv Try.func142 (res1 Try.func142 rfl (rv_tmp rfl)) <| ?_
    simp [isOwn, h1]

theorem spec_CanSendOn (s : Bool) (id : Int) (w : World) : CV Try.prog 73 [.bool s, .int .i64 id] w (.bool (canSendOn s id)) := by
  refine cv_of Try.func73 rfl rfl rfl <| SQ <| RG <| AS rfl rfl <| ND <| SQ <| RG <| MV rfl rfl <| CV1 rfl fun_spec_l4Quic rfl (fun w hs => spec_l4Quic _ w) <| MV rfl rfl <| ?_
  refine rw_case (j := 7) rfl (fun h1 => ?_) (fun h1 => ?_)
  · refine ON rfl rfl h1 <| MV rfl rfl <| ON rfl rfl h1 <| CV1 rfl fun_spec_IsUniId rfl (fun w hs => spec_IsUniId _ w) <| ON rfl rfl h1 <| NT rfl rfl <| ON rfl rfl h1 <| MV rfl rfl <| ?_
    refine rw_case (j := 11) rfl (fun h2 => ?_) (fun h2 => ?_)
    · replace h2 := of_not_T h2
      refine OF rfl rfl (not_F h2) rfl <| OF rfl rfl (not_F h2) rfl <| OF rfl rfl (not_F h2) rfl <| ON rfl rfl h1 <| PT rfl rfl (not_F h2) rfl <| PT rfl rfl h1 rfl <| AS rfl rfl <| ND <| ret_cv Try.func73 (res1 Try.func73 rfl (rv_tmp rfl)) <| ?_
      simp [canSendOn, h1, h2]
    · replace h2 := of_not_F h2
      refine ON rfl rfl (not_T h2) <| MV rfl rfl <| ON rfl rfl (not_T h2) <| MV rfl rfl <| ON rfl rfl (not_T h2) <| CV1 rfl fun_spec_IsOwn rfl (fun w hs => spec_IsOwn _ _ w) <| ON rfl rfl h1 <| PF rfl rfl (not_T h2) rfl <| PT rfl rfl h1 rfl <| AS rfl rfl <| ND <| ret_cv Try.func73 (res1 Try.func73 rfl (rv_tmp rfl)) <| ?_
      simp [canSendOn, h1, h2]
  · refine OF rfl rfl h1 rfl <| OF rfl rfl h1 rfl <| OF rfl rfl h1 rfl <| OF rfl rfl h1 rfl <| OU rfl rfl rfl <| OU rfl rfl rfl <| OU rfl rfl rfl <| OF rfl rfl h1 rfl <| PF rfl rfl h1 rfl <| AS rfl rfl <| ND <| ret_cv Try.func73 (res1 Try.func73 rfl (rv_tmp rfl)) <| ?_
    simp [canSendOn, h1]

theorem spec_CanReceiveOn (s : Bool) (id : Int) (w : World) : CV Try.prog 74 [.bool s, .int .i64 id] w (.bool (canRecvOn s id)) := by
  refine cv_of Try.func74 rfl rfl rfl <| SQ <| RG <| AS rfl rfl <| ND <| SQ <| RG <| MV rfl rfl <| CV1 rfl fun_spec_l4Quic rfl (fun w hs => spec_l4Quic _ w) <| MV rfl rfl <| ?_
  refine rw_case (j := 7) rfl (fun h1 => ?_) (fun h1 => ?_)
  · refine ON rfl rfl h1 <| MV rfl rfl <| ON rfl rfl h1 <| CV1 rfl fun_spec_IsUniId rfl (fun w hs => spec_IsUniId _ w) <| ON rfl rfl h1 <| NT rfl rfl <| ON rfl rfl h1 <| MV rfl rfl <| ?_
    refine rw_case (j := 11) rfl (fun h2 => ?_) (fun h2 => ?_)
    · replace h2 := of_not_T h2
      refine OF rfl rfl (not_F h2) rfl <| OF rfl rfl (not_F h2) rfl <| OF rfl rfl (not_F h2) rfl <| OF rfl rfl (not_F h2) rfl <| ON rfl rfl h1 <| PT rfl rfl (not_F h2) rfl <| PT rfl rfl h1 rfl <| AS rfl rfl <| ND <| ret_cv Try.func74 (res1 Try.func74 rfl (rv_tmp rfl)) <| ?_
      simp [canRecvOn, h1, h2]
    · replace h2 := of_not_F h2
      refine ON rfl rfl (not_T h2) <| MV rfl rfl <| ON rfl rfl (not_T h2) <| MV rfl rfl <| ON rfl rfl (not_T h2) <| CV1 rfl fun_spec_IsOwn rfl (fun w hs => spec_IsOwn _ _ w) <| ON rfl rfl (not_T h2) <| NT rfl rfl <| ON rfl rfl h1 <| PF rfl rfl (not_T h2) rfl <| PT rfl rfl h1 rfl <| AS rfl rfl <| ND <| ret_cv Try.func74 (res1 Try.func74 rfl (rv_tmp rfl)) <| ?_
      simp [canRecvOn, h1, h2]
  · refine OF rfl rfl h1 rfl <| OF rfl rfl h1 rfl <| OF rfl rfl h1 rfl <| OF rfl rfl h1 rfl <| OU rfl rfl rfl <| OU rfl rfl rfl <| OU rfl rfl rfl <| OU rfl rfl rfl <| OF rfl rfl h1 rfl <| PF rfl rfl h1 rfl <| AS rfl rfl <| ND <| ret_cv Try.func74 (res1 Try.func74 rfl (rv_tmp rfl)) <| ?_
    simp [canRecvOn, h1]

theorem spec_NewRing {w : World} (r : Int) (n : Nat) (hn : r = (n : Int)) (hr : isRingSize (n : Int) = true) (h64 : n ≤ 64) : CN Try.prog 143 [.int .i64 r] w (fun v ch => ∃ sv, v = .tuple #[.agg (Ring.row (newRing n) sv).toArray, .bool true] ∧ OwS 3 1 (PlO intC) sv (List.replicate n 0) ch) := by
  subst hn
  refine cn_of Try.func143 rfl rfl rfl <| SQ <| RG <| AL rfl tyZ_impl_Ring <| fun b1 => AS rfl rfl <| ND <| SQ <| SQ <| RG <| MV rfl rfl <| CV1 rfl fun_spec_l8Power rfl (fun w hs => spec_l8Power _ w) <| NT rfl rfl <| ND <| CF rfl (not_T hr) <| SK <| SQ <| RG <| MV rfl rfl <| MV rfl rfl <| rw_makeO (f := intC) (a := (0 : Int)) rfl tyM_S_int rfl rfl (by omega) <| fun vm1 ch1 how1 => ?_
  obtain ⟨R1, rc1, rfl, hR1, hrd1⟩ := (OwA.s how1).shape eInt
  refine rw_build [_, _, _, _] rfl tyB_impl_Ring tyZ_impl_Ring rfl rfl <| ST (i := 0) [_, _, _, _] [_, _, _, _] tyS_impl_Ring.sz rfl rfl rfl rfl rfl rfl rfl rfl <| AS rfl rfl <| ND <| ?_
  refine ret_cn ch1 Try.func143 (res2 Try.func143 rfl (rv_s (i := 0) [_, _, _, _] tyS_impl_Ring rfl rfl rfl rfl) (rv_tmp rfl)) ?_ ?_
  · exact ⟨_, rfl, (OwA.s how1)⟩
  · exact (List.sublist_append_left _ _).trans (List.sublist_append_right _ _)

theorem spec_NewSender {w : World} (r : Int) (n : Nat) (hn : r = (n : Int)) (hr : isRingSize (n : Int) = true) (h64 : n ≤ 64) : CN Try.prog 75 [.int .i64 r] w (fun v ch => ∃ sv, v = .tuple #[.agg (Sender.row (newSender n) sv (.slice none 0 0) (.slice none 0 0) (.slice none 0 0)).toArray, .bool true] ∧ OwS 3 1 (PlO intC) sv (List.replicate n 0) ch) := by
  refine cn_of Try.func75 rfl rfl rfl <| SQ <| RG <| AL rfl tyZ_impl_Sender <| fun b1 => AS rfl rfl <| ND <| SQ <| RG <| MV rfl rfl <| CN1 rfl fun_spec_NewRing rfl (fun w hs => spec_NewRing _ n hn hr h64) <| fun vv1 ch1 how1 => ?_
  obtain ⟨sv1, rfl, hO1⟩ := how1
  obtain ⟨R1, rc1, rfl, hR1, hrd1⟩ := hO1.shape eInt
  refine MV rfl rfl <| XT rfl rfl rfl <| XT rfl rfl rfl <| AL rfl tyZ_impl_Ring <| fun b2 => ST (i := 0) [_, _, _, _] [_, _, _, _] tyS_impl_Ring.sz rfl rfl rfl rfl rfl rfl rfl rfl <| AS rfl rfl <| ND <| SQ <| SQ <| RG <| MV rfl rfl <| NT rfl rfl <| ND <| CF rfl rfl <| SK <| SQ <| RG <| LS (i := 0) [_, _, _, _] rfl tyS_impl_Ring rfl rfl rfl rfl <| rw_build [_, _, _, _, _, _, _, _, _, _, _, _] rfl tyB_impl_Sender tyZ_impl_Sender rfl rfl <| rw_storeN (i := 1) [_, _, _, _, _, _, _, _, _, _, _, _] [_, _, _, _, _, _, _, _, _, _, _, _] [_, _] tyS_impl_Sender.sz rfl rfl rfl rfl rfl rfl rfl rfl rfl <| ?_
  refine AS rfl rfl <| ND <| ?_
  refine ret_cn ch1 Try.func75 (res2 Try.func75 rfl (rv_s (i := 1) [_, _, _, _, _, _, _, _, _, _, _, _] tyS_impl_Sender rfl rfl rfl rfl) (rv_tmp rfl)) ?_ ?_
  · exact ⟨_, rfl, hO1⟩
  · exact (List.sublist_append_left _ _).trans (List.sublist_append_right _ _)

theorem spec_NewStream_T {w : World} (s : Bool) (id : Int) (o p : Conf) (n : Nat) (hq : isQuic id = true) (hc1 : isConf o = true) (hc2 : isConf p = true) (hn : o.ring = (n : Int)) (hr : isRingSize (n : Int) = true) (h64 : n ≤ 64) : CN Try.prog 25 [.bool s, .int .i64 id, .agg o.cells.toArray, .agg p.cells.toArray] w (fun v ch => ∃ sv, v = .tuple #[.agg (Stream.row (newStream s id o p n) sv (.slice none 0 0) (.slice none 0 0) (.slice none 0 0) (.slice none 0 0)).toArray, .bool true] ∧ OwS 3 1 (PlO intC) sv (List.replicate n 0) ch) := by
  refine cn_of Try.func25 rfl rfl rfl <| SQ <| RG <| BX [_, _, _, _, _, _, _, _] rfl rfl rfl <| fun b1 => BX [_, _, _, _, _, _, _, _] rfl rfl rfl <| fun b2 => AL rfl tyZ_impl_Stream <| fun b3 => AS rfl rfl <| ND <| SQ <| SQ <| RG <| MV rfl rfl <| CV1 rfl fun_spec_l4Quic rfl (fun w hs => spec_l4Quic _ w) <| NT rfl rfl <| MV rfl rfl <| ON rfl rfl (not_T hq) <| LS (i := 2) [_, _, _, _, _, _, _, _] rfl tyS_impl_Conf rfl rfl rfl rfl <| ON rfl rfl (not_T hq) <| CV1 rfl fun_spec_IsConf rfl (fun w hs => spec_IsConf _ w) <| ?_
  refine ON rfl rfl (not_T hq) <| NT rfl rfl <| PF rfl rfl (not_T hq) rfl <| MV rfl rfl <| ON rfl rfl (not_T hc1) <| LS (i := 1) [_, _, _, _, _, _, _, _] rfl tyS_impl_Conf rfl rfl rfl rfl <| ON rfl rfl (not_T hc1) <| CV1 rfl fun_spec_IsConf rfl (fun w hs => spec_IsConf _ w) <| ON rfl rfl (not_T hc1) <| NT rfl rfl <| PF rfl rfl (not_T hc1) rfl <| ND <| CF rfl (not_T hc2) <| SK <| SQ <| RG <| MV rfl rfl <| CV1 rfl fun_spec_DefaultPriority rfl (fun w hs => spec_DefaultPriority w) <| CV1 rfl fun_spec_NewReceiver rfl (fun w hs => spec_NewReceiver w) <| ?_
  refine MV rfl rfl <| MV rfl rfl <| CV1 rfl fun_spec_CanSendOn rfl (fun w hs => spec_CanSendOn _ _ w) <| MV rfl rfl <| MV rfl rfl <| CV1 rfl fun_spec_CanReceiveOn rfl (fun w hs => spec_CanReceiveOn _ _ w) <| rw_build [_, _, _, _, _, _, _, _, _, _, _, _, _, _, _, _, _, _, _, _, _, _, _, _, _, _, _, _, _, _, _, _, _, _, _, _, _, _, _] rfl tyB_impl_Stream tyZ_impl_Stream rfl rfl <| AL rfl tyZ_impl_Stream <| fun b4 => rw_storeN (i := 0) [_, _, _, _, _, _, _, _, _, _, _, _, _, _, _, _, _, _, _, _, _, _, _, _, _, _, _, _, _, _, _, _, _, _, _, _, _, _, _] [_, _, _, _, _, _, _, _, _, _, _, _, _, _, _, _, _, _, _, _, _, _, _, _, _, _, _, _, _, _, _, _, _, _, _, _, _, _, _] [_, _, _, _] tyS_impl_Stream.sz rfl rfl rfl rfl rfl rfl rfl rfl rfl <| ?_
  refine ND <| SQ <| RG <| FA rfl tyF_impl_Conf_0 rfl <| LD (i := 3) rfl tyP_int rfl rfl rfl <| CN1 rfl fun_spec_NewSender rfl (fun w hs => spec_NewSender _ n hn hr h64) <| fun vv1 ch1 how1 => ?_
  obtain ⟨sv1, rfl, hO1⟩ := how1
  obtain ⟨R1, rc1, rfl, hR1, hrd1⟩ := hO1.shape eInt
  refine MV rfl rfl <| XT rfl rfl rfl <| XT rfl rfl rfl <| AL rfl tyZ_impl_Sender <| fun b5 => rw_storeN (i := 0) [_, _, _, _, _, _, _, _, _, _, _, _] [_, _, _, _, _, _, _, _, _, _, _, _] [_, _, _, _, _] tyS_impl_Sender.sz rfl rfl rfl rfl rfl rfl rfl rfl rfl <| AS rfl rfl <| ND <| SQ <| RG <| LS (i := 0) [_, _, _, _, _, _, _, _, _, _, _, _] rfl tyS_impl_Sender rfl rfl rfl rfl <| FA rfl tyF_impl_Stream_1 rfl <| rw_storeN (i := 1) [_, _, _, _, _, _, _, _, _, _, _, _] [_, _, _, _, _, _, _, _, _, _, _, _, _, _, _, _, _, _, _, _, _, _, _, _, _, _, _, _, _, _, _, _, _, _, _, _, _, _, _] [_, _, _, _, _] tyS_impl_Sender.sz rfl rfl rfl rfl rfl rfl rfl rfl rfl <| ?_
  refine ND <| SQ <| RG <| FA rfl tyF_impl_Conf_1 rfl <| LD (i := 3) rfl tyP_int rfl rfl rfl <| CV1 rfl fun_spec_NewCredit rfl (fun w hs => spec_NewCredit _ w) <| MV rfl rfl <| XT rfl rfl rfl <| XT rfl rfl rfl <| AL rfl tyZ_impl_Credit <| fun b6 => ST (i := 0) [_, _, _, _] [_, _, _, _] tyS_impl_Credit.sz rfl rfl rfl rfl rfl rfl rfl rfl <| AS rfl rfl <| ND <| SQ <| RG <| LS (i := 0) [_, _, _, _] rfl tyS_impl_Credit rfl rfl rfl rfl <| FA rfl tyF_impl_Stream_2 rfl <| rw_storeN (i := 2) [_, _, _, _] [_, _, _, _, _, _, _, _, _, _, _, _, _, _, _, _, _, _, _, _, _, _, _, _, _, _, _, _, _, _, _, _, _, _, _, _, _, _, _] [_, _, _, _, _, _] tyS_impl_Credit.sz rfl rfl rfl rfl rfl rfl rfl rfl rfl <| ?_
  refine ND <| SQ <| RG <| FA rfl tyF_impl_Conf_1 rfl <| LD (i := 5) rfl tyP_int rfl rfl rfl <| FA rfl tyF_impl_Conf_2 rfl <| LD (i := 5) rfl tyP_int rfl rfl rfl <| CV1 rfl fun_spec_NewWindow rfl (fun w hs => spec_NewWindow _ _ w) <| MV rfl rfl <| XT rfl rfl rfl <| XT rfl rfl rfl <| AL rfl tyZ_impl_Window <| fun b7 => ST (i := 0) [_, _, _, _, _, _] [_, _, _, _, _, _] tyS_impl_Window.sz rfl rfl rfl rfl rfl rfl rfl rfl <| AS rfl rfl <| ND <| SQ <| RG <| LS (i := 0) [_, _, _, _, _, _] rfl tyS_impl_Window rfl rfl rfl rfl <| ?_
  refine FA rfl tyF_impl_Stream_4 rfl <| rw_storeN (i := 3) [_, _, _, _, _, _] [_, _, _, _, _, _, _, _, _, _, _, _, _, _, _, _, _, _, _, _, _, _, _, _, _, _, _, _, _, _, _, _, _, _, _, _, _, _, _] [_, _, _, _, _, _, _] tyS_impl_Window.sz rfl rfl rfl rfl rfl rfl rfl rfl rfl <| ND <| SQ <| RG <| LS (i := 3) [_, _, _, _, _, _, _, _, _, _, _, _, _, _, _, _, _, _, _, _, _, _, _, _, _, _, _, _, _, _, _, _, _, _, _, _, _, _, _] rfl tyS_impl_Stream rfl rfl rfl rfl <| rw_storeN (i := 4) [_, _, _, _, _, _, _, _, _, _, _, _, _, _, _, _, _, _, _, _, _, _, _, _, _, _, _, _, _, _, _, _, _, _, _, _, _, _, _] [_, _, _, _, _, _, _, _, _, _, _, _, _, _, _, _, _, _, _, _, _, _, _, _, _, _, _, _, _, _, _, _, _, _, _, _, _, _, _] [_, _, _, _, _, _, _] tyS_impl_Stream.sz rfl rfl rfl rfl rfl rfl rfl rfl rfl <| ?_
  refine AS rfl rfl <| ND <| ?_
  refine ret_cn ch1 Try.func25 (res2 Try.func25 rfl (rv_s (i := 4) [_, _, _, _, _, _, _, _, _, _, _, _, _, _, _, _, _, _, _, _, _, _, _, _, _, _, _, _, _, _, _, _, _, _, _, _, _, _, _] tyS_impl_Stream rfl rfl rfl rfl) (rv_tmp rfl)) ?_ ?_
  · exact ⟨_, rfl, hO1⟩
  · exact (List.sublist_append_left _ _).trans (List.sublist_append_right _ _)

theorem spec_NewStream_F (s : Bool) (id : Int) (o p : Conf) (hc : (isQuic id && isConf o && isConf p) = false) (w : World) : CV Try.prog 25 [.bool s, .int .i64 id, .agg o.cells.toArray, .agg p.cells.toArray] w (.tuple #[.agg (Stream.row zeroStream (.slice none 0 0) (.slice none 0 0) (.slice none 0 0) (.slice none 0 0) (.slice none 0 0)).toArray, .bool false]) := by
  refine cv_of Try.func25 rfl rfl rfl <| SQ <| RG <| BX [_, _, _, _, _, _, _, _] rfl rfl rfl <| fun b1 => BX [_, _, _, _, _, _, _, _] rfl rfl rfl <| fun b2 => AL rfl tyZ_impl_Stream <| fun b3 => AS rfl rfl <| ND <| SQ <| SQ <| RG <| MV rfl rfl <| CV1 rfl fun_spec_l4Quic rfl (fun w hs => spec_l4Quic _ w) <| NT rfl rfl <| MV rfl rfl <| ?_
  refine rw_case (j := 20) rfl (fun h1 => ?_) (fun h1 => ?_)
  · replace h1 := of_not_T h1
    refine OF rfl rfl (not_F h1) rfl <| OF rfl rfl (not_F h1) rfl <| OF rfl rfl (not_F h1) rfl <| PT rfl rfl (not_F h1) rfl <| MV rfl rfl <| OF rfl rfl rfl rfl <| OF rfl rfl rfl rfl <| OF rfl rfl rfl rfl <| PT rfl rfl rfl rfl <| ND <| CT rfl rfl <| SQ <| RG <| rw_build [_, _, _, _, _, _, _, _, _, _, _, _, _, _, _, _, _, _, _, _, _, _, _, _, _, _, _, _, _, _, _, _, _, _, _, _, _, _, _] rfl tyB_impl_Stream tyZ_impl_Stream rfl rfl <| rw_storeN (i := 0) [_, _, _, _, _, _, _, _, _, _, _, _, _, _, _, _, _, _, _, _, _, _, _, _, _, _, _, _, _, _, _, _, _, _, _, _, _, _, _] [_, _, _, _, _, _, _, _, _, _, _, _, _, _, _, _, _, _, _, _, _, _, _, _, _, _, _, _, _, _, _, _, _, _, _, _, _, _, _] [_, _, _] tyS_impl_Stream.sz rfl rfl rfl rfl rfl rfl rfl rfl rfl <| ?_
    refine AS rfl rfl <| ND <| ret_cv Try.func25 (res2 Try.func25 rfl (rv_s (i := 0) [_, _, _, _, _, _, _, _, _, _, _, _, _, _, _, _, _, _, _, _, _, _, _, _, _, _, _, _, _, _, _, _, _, _, _, _, _, _, _] tyS_impl_Stream rfl rfl rfl rfl) (rv_tmp rfl)) <| ?_
    rfl
  · replace h1 := of_not_F h1
    refine ON rfl rfl (not_T h1) <| LS (i := 2) [_, _, _, _, _, _, _, _] rfl tyS_impl_Conf rfl rfl rfl rfl <| ON rfl rfl (not_T h1) <| CV1 rfl fun_spec_IsConf rfl (fun w hs => spec_IsConf _ w) <| ON rfl rfl (not_T h1) <| NT rfl rfl <| PF rfl rfl (not_T h1) rfl <| MV rfl rfl <| ?_
    refine rw_case (j := 25) rfl (fun h2 => ?_) (fun h2 => ?_)
    · replace h2 := of_not_T h2
      refine OF rfl rfl (not_F h2) rfl <| OF rfl rfl (not_F h2) rfl <| OF rfl rfl (not_F h2) rfl <| PT rfl rfl (not_F h2) rfl <| ND <| CT rfl rfl <| SQ <| RG <| rw_build [_, _, _, _, _, _, _, _, _, _, _, _, _, _, _, _, _, _, _, _, _, _, _, _, _, _, _, _, _, _, _, _, _, _, _, _, _, _, _] rfl tyB_impl_Stream tyZ_impl_Stream rfl rfl <| rw_storeN (i := 0) [_, _, _, _, _, _, _, _, _, _, _, _, _, _, _, _, _, _, _, _, _, _, _, _, _, _, _, _, _, _, _, _, _, _, _, _, _, _, _] [_, _, _, _, _, _, _, _, _, _, _, _, _, _, _, _, _, _, _, _, _, _, _, _, _, _, _, _, _, _, _, _, _, _, _, _, _, _, _] [_, _, _] tyS_impl_Stream.sz rfl rfl rfl rfl rfl rfl rfl rfl rfl <| ?_
      refine AS rfl rfl <| ND <| ret_cv Try.func25 (res2 Try.func25 rfl (rv_s (i := 0) [_, _, _, _, _, _, _, _, _, _, _, _, _, _, _, _, _, _, _, _, _, _, _, _, _, _, _, _, _, _, _, _, _, _, _, _, _, _, _] tyS_impl_Stream rfl rfl rfl rfl) (rv_tmp rfl)) <| ?_
      rfl
    · replace h2 := of_not_F h2
      refine ON rfl rfl (not_T h2) <| LS (i := 1) [_, _, _, _, _, _, _, _] rfl tyS_impl_Conf rfl rfl rfl rfl <| ON rfl rfl (not_T h2) <| CV1 rfl fun_spec_IsConf rfl (fun w hs => spec_IsConf _ w) <| ON rfl rfl (not_T h2) <| NT rfl rfl <| PF rfl rfl (not_T h2) rfl <| ND <| ?_
      refine gw_cond rfl (fun h3 => ?_) (fun h3 => ?_)
      · replace h3 := of_not_T h3
        refine SQ <| RG <| rw_build [_, _, _, _, _, _, _, _, _, _, _, _, _, _, _, _, _, _, _, _, _, _, _, _, _, _, _, _, _, _, _, _, _, _, _, _, _, _, _] rfl tyB_impl_Stream tyZ_impl_Stream rfl rfl <| rw_storeN (i := 0) [_, _, _, _, _, _, _, _, _, _, _, _, _, _, _, _, _, _, _, _, _, _, _, _, _, _, _, _, _, _, _, _, _, _, _, _, _, _, _] [_, _, _, _, _, _, _, _, _, _, _, _, _, _, _, _, _, _, _, _, _, _, _, _, _, _, _, _, _, _, _, _, _, _, _, _, _, _, _] [_, _, _] tyS_impl_Stream.sz rfl rfl rfl rfl rfl rfl rfl rfl rfl <| AS rfl rfl <| ND <| ret_cv Try.func25 (res2 Try.func25 rfl (rv_s (i := 0) [_, _, _, _, _, _, _, _, _, _, _, _, _, _, _, _, _, _, _, _, _, _, _, _, _, _, _, _, _, _, _, _, _, _, _, _, _, _, _] tyS_impl_Stream rfl rfl rfl rfl) (rv_tmp rfl)) <| ?_
        rfl
      · replace h3 := of_not_F h3
        refine SK <| SQ <| ?_
        exact absurd hc (by simp [h1, h2, h3])

theorem impl_IsStreamId (id : Int) (w : World) : CV Try.prog 78 [.int .i64 id] w (.bool (isQuic id)) := by
  refine cv_of Try.func78 rfl rfl rfl <| SQ <| RG <| AS rfl rfl <| ND <| SQ <| RG <| MV rfl rfl <| CV1 rfl fun_impl_isQuic rfl (fun w hs => impl_isQuic _ w) <| AS rfl rfl <| ND <| ret_cv Try.func78 (res1 Try.func78 rfl (rv_tmp rfl)) <| ?_
  rfl

theorem impl_NewReceiver (w : World) : CV Try.prog 80 [] w (.agg (Receiver.row newReceiver (.slice none 0 0)).toArray) := by
  refine cv_of Try.func80 rfl rfl rfl <| SQ <| RG <| AL rfl tyZ_impl_Receiver <| fun b1 => ND <| SQ <| RG <| rw_build [_, _, _, _, _, _] rfl tyB_impl_Receiver tyZ_impl_Receiver rfl rfl <| ST (i := 0) [_, _, _, _, _, _] [_, _, _, _, _, _] tyS_impl_Receiver.sz rfl rfl rfl rfl rfl rfl rfl rfl <| ND <| ret_cv Try.func80 (res1 Try.func80 rfl (rv_s (i := 0) [_, _, _, _, _, _] tyS_impl_Receiver rfl rfl rfl rfl)) <| ?_
  rfl

theorem impl_DefaultPriority (w : World) : CV Try.prog 81 [] w (.agg defaultPriority.cells.toArray) := by
  refine cv_of Try.func81 rfl rfl rfl <| SQ <| RG <| AL rfl tyZ_impl_Priority <| fun b1 => ND <| SQ <| RG <| rw_build [_, _] rfl tyB_impl_Priority tyZ_impl_Priority rfl rfl <| ST (i := 0) [_, _] [_, _] tyS_impl_Priority.sz rfl rfl rfl rfl rfl rfl rfl rfl <| ND <| ret_cv Try.func81 (res1 Try.func81 rfl (rv_s (i := 0) [_, _] tyS_impl_Priority rfl rfl rfl rfl)) <| ?_
  rfl

theorem impl_IsUniId (id : Int) (w : World) : CV Try.prog 147 [.int .i64 id] w (.bool (isUni id)) := by
  refine cv_of Try.func147 rfl rfl rfl <| SQ <| RG <| AS rfl rfl <| ND <| SQ <| RG <| MV rfl rfl <| CV1 rfl fun_impl_IsStreamId rfl (fun w hs => impl_IsStreamId _ w) <| MV rfl rfl <| ?_
  refine rw_case (j := 5) rfl (fun h1 => ?_) (fun h1 => ?_)
  · refine ON rfl rfl h1 <| MV rfl rfl <| ON rfl rfl h1 <| rw_and rfl rfl rfl <| ON rfl rfl h1 <| EQ1 rfl rfl rfl <| PT rfl rfl h1 rfl <| AS rfl rfl <| ND <| ret_cv Try.func147 (res1 Try.func147 rfl (rv_tmp rfl)) <| ?_
    simp [isUni, h1]
  · refine OF rfl rfl h1 rfl <| OF rfl rfl h1 rfl <| OF rfl rfl h1 rfl <| PF rfl rfl h1 rfl <| AS rfl rfl <| ND <| ret_cv Try.func147 (res1 Try.func147 rfl (rv_tmp rfl)) <| ?_
    simp [isUni, h1]

theorem impl_IsServerId (id : Int) (w : World) : CV Try.prog 192 [.int .i64 id] w (.bool (isServerId id)) := by
  refine cv_of Try.func192 rfl rfl rfl <| SQ <| RG <| AS rfl rfl <| ND <| SQ <| RG <| MV rfl rfl <| CV1 rfl fun_impl_IsStreamId rfl (fun w hs => impl_IsStreamId _ w) <| MV rfl rfl <| ?_
  refine rw_case (j := 5) rfl (fun h1 => ?_) (fun h1 => ?_)
  · refine ON rfl rfl h1 <| MV rfl rfl <| ON rfl rfl h1 <| rw_and rfl rfl rfl <| ON rfl rfl h1 <| EQ1 rfl rfl rfl <| PT rfl rfl h1 rfl <| AS rfl rfl <| ND <| ret_cv Try.func192 (res1 Try.func192 rfl (rv_tmp rfl)) <| ?_
    simp [isServerId, h1]
  · refine OF rfl rfl h1 rfl <| OF rfl rfl h1 rfl <| OF rfl rfl h1 rfl <| PF rfl rfl h1 rfl <| AS rfl rfl <| ND <| ret_cv Try.func192 (res1 Try.func192 rfl (rv_tmp rfl)) <| ?_
    simp [isServerId, h1]

theorem impl_IsOwn (s : Bool) (id : Int) (w : World) : CV Try.prog 148 [.bool s, .int .i64 id] w (.bool (isOwn s id)) := by
  refine cv_of Try.func148 rfl rfl rfl <| SQ <| RG <| AS rfl rfl <| ND <| SQ <| RG <| MV rfl rfl <| CV1 rfl fun_impl_IsStreamId rfl (fun w hs => impl_IsStreamId _ w) <| MV rfl rfl <| ?_
  refine rw_case (j := 7) rfl (fun h1 => ?_) (fun h1 => ?_)
  · refine ON rfl rfl h1 <| MV rfl rfl <| ON rfl rfl h1 <| CV1 rfl fun_impl_IsServerId rfl (fun w hs => impl_IsServerId _ w) <| ON rfl rfl h1 <| MV rfl rfl <| ON rfl rfl h1 <| rw_eqlB (by kernel_rfl) rfl rfl rfl <| PT rfl rfl h1 rfl <| AS rfl rfl <| ND <| ret_cv Try.func148 (res1 Try.func148 rfl (rv_tmp rfl)) <| ?_
    simp [isOwn, h1]
  · refine OF rfl rfl h1 rfl <| OF rfl rfl h1 rfl <| OF rfl rfl h1 rfl <| OF rfl rfl h1 rfl <| PF rfl rfl h1 rfl <| AS rfl rfl <| ND <| ret_cv Try.func148 (res1 Try.func148 rfl (rv_tmp rfl)) <| ?_
    simp [isOwn, h1]

theorem impl_CanSendOn (s : Bool) (id : Int) (w : World) : CV Try.prog 82 [.bool s, .int .i64 id] w (.bool (canSendOn s id)) := by
  refine cv_of Try.func82 rfl rfl rfl <| SQ <| RG <| AS rfl rfl <| ND <| SQ <| RG <| MV rfl rfl <| CV1 rfl fun_impl_IsStreamId rfl (fun w hs => impl_IsStreamId _ w) <| MV rfl rfl <| ?_
  refine rw_case (j := 7) rfl (fun h1 => ?_) (fun h1 => ?_)
  · refine ON rfl rfl h1 <| MV rfl rfl <| ON rfl rfl h1 <| CV1 rfl fun_impl_IsUniId rfl (fun w hs => impl_IsUniId _ w) <| ON rfl rfl h1 <| NT rfl rfl <| ON rfl rfl h1 <| MV rfl rfl <| ?_
    refine rw_case (j := 11) rfl (fun h2 => ?_) (fun h2 => ?_)
    · replace h2 := of_not_T h2
      refine OF rfl rfl (not_F h2) rfl <| OF rfl rfl (not_F h2) rfl <| OF rfl rfl (not_F h2) rfl <| ON rfl rfl h1 <| PT rfl rfl (not_F h2) rfl <| PT rfl rfl h1 rfl <| AS rfl rfl <| ND <| ret_cv Try.func82 (res1 Try.func82 rfl (rv_tmp rfl)) <| ?_
      simp [canSendOn, h1, h2]
    · replace h2 := of_not_F h2
      refine ON rfl rfl (not_T h2) <| MV rfl rfl <| ON rfl rfl (not_T h2) <| MV rfl rfl <| ON rfl rfl (not_T h2) <| CV1 rfl fun_impl_IsOwn rfl (fun w hs => impl_IsOwn _ _ w) <| ON rfl rfl h1 <| PF rfl rfl (not_T h2) rfl <| PT rfl rfl h1 rfl <| AS rfl rfl <| ND <| ret_cv Try.func82 (res1 Try.func82 rfl (rv_tmp rfl)) <| ?_
      simp [canSendOn, h1, h2]
  · refine OF rfl rfl h1 rfl <| OF rfl rfl h1 rfl <| OF rfl rfl h1 rfl <| OF rfl rfl h1 rfl <| OU rfl rfl rfl <| OU rfl rfl rfl <| OU rfl rfl rfl <| OF rfl rfl h1 rfl <| PF rfl rfl h1 rfl <| AS rfl rfl <| ND <| ret_cv Try.func82 (res1 Try.func82 rfl (rv_tmp rfl)) <| ?_
    simp [canSendOn, h1]

theorem impl_CanReceiveOn (s : Bool) (id : Int) (w : World) : CV Try.prog 83 [.bool s, .int .i64 id] w (.bool (canRecvOn s id)) := by
  refine cv_of Try.func83 rfl rfl rfl <| SQ <| RG <| AS rfl rfl <| ND <| SQ <| RG <| MV rfl rfl <| CV1 rfl fun_impl_IsStreamId rfl (fun w hs => impl_IsStreamId _ w) <| MV rfl rfl <| ?_
  refine rw_case (j := 7) rfl (fun h1 => ?_) (fun h1 => ?_)
  · refine ON rfl rfl h1 <| MV rfl rfl <| ON rfl rfl h1 <| CV1 rfl fun_impl_IsUniId rfl (fun w hs => impl_IsUniId _ w) <| ON rfl rfl h1 <| NT rfl rfl <| ON rfl rfl h1 <| MV rfl rfl <| ?_
    refine rw_case (j := 11) rfl (fun h2 => ?_) (fun h2 => ?_)
    · replace h2 := of_not_T h2
      refine OF rfl rfl (not_F h2) rfl <| OF rfl rfl (not_F h2) rfl <| OF rfl rfl (not_F h2) rfl <| OF rfl rfl (not_F h2) rfl <| ON rfl rfl h1 <| PT rfl rfl (not_F h2) rfl <| PT rfl rfl h1 rfl <| AS rfl rfl <| ND <| ret_cv Try.func83 (res1 Try.func83 rfl (rv_tmp rfl)) <| ?_
      simp [canRecvOn, h1, h2]
    · replace h2 := of_not_F h2
      refine ON rfl rfl (not_T h2) <| MV rfl rfl <| ON rfl rfl (not_T h2) <| MV rfl rfl <| ON rfl rfl (not_T h2) <| CV1 rfl fun_impl_IsOwn rfl (fun w hs => impl_IsOwn _ _ w) <| ON rfl rfl (not_T h2) <| NT rfl rfl <| ON rfl rfl h1 <| PF rfl rfl (not_T h2) rfl <| PT rfl rfl h1 rfl <| AS rfl rfl <| ND <| ret_cv Try.func83 (res1 Try.func83 rfl (rv_tmp rfl)) <| ?_
      simp [canRecvOn, h1, h2]
  · refine OF rfl rfl h1 rfl <| OF rfl rfl h1 rfl <| OF rfl rfl h1 rfl <| OF rfl rfl h1 rfl <| OU rfl rfl rfl <| OU rfl rfl rfl <| OU rfl rfl rfl <| OU rfl rfl rfl <| OF rfl rfl h1 rfl <| PF rfl rfl h1 rfl <| AS rfl rfl <| ND <| ret_cv Try.func83 (res1 Try.func83 rfl (rv_tmp rfl)) <| ?_
    simp [canRecvOn, h1]

theorem impl_NewRing {w : World} (r : Int) (n : Nat) (hn : r = (n : Int)) (hr : isRingSize (n : Int) = true) (h64 : n ≤ 64) : CN Try.prog 149 [.int .i64 r] w (fun v ch => ∃ sv, v = .tuple #[.agg (Ring.row (newRing n) sv).toArray, .bool true] ∧ OwS 3 1 (PlO intC) sv (List.replicate n 0) ch) := by
  subst hn
  refine cn_of Try.func149 rfl rfl rfl <| SQ <| RG <| AL rfl tyZ_impl_Ring <| fun b1 => AS rfl rfl <| ND <| SQ <| SQ <| RG <| MV rfl rfl <| CV1 rfl fun_impl_isRingSize rfl (fun w hs => impl_isRingSize _ w) <| NT rfl rfl <| ND <| CF rfl (not_T hr) <| SK <| SQ <| RG <| MV rfl rfl <| MV rfl rfl <| rw_makeO (f := intC) (a := (0 : Int)) rfl tyM_S_int rfl rfl (by omega) <| fun vm1 ch1 how1 => ?_
  obtain ⟨R1, rc1, rfl, hR1, hrd1⟩ := (OwA.s how1).shape eInt
  refine rw_build [_, _, _, _] rfl tyB_impl_Ring tyZ_impl_Ring rfl rfl <| ST (i := 0) [_, _, _, _] [_, _, _, _] tyS_impl_Ring.sz rfl rfl rfl rfl rfl rfl rfl rfl <| AS rfl rfl <| ND <| ?_
  refine ret_cn ch1 Try.func149 (res2 Try.func149 rfl (rv_s (i := 0) [_, _, _, _] tyS_impl_Ring rfl rfl rfl rfl) (rv_tmp rfl)) ?_ ?_
  · exact ⟨_, rfl, (OwA.s how1)⟩
  · exact (List.sublist_append_left _ _).trans (List.sublist_append_right _ _)

theorem impl_NewSender {w : World} (r : Int) (n : Nat) (hn : r = (n : Int)) (hr : isRingSize (n : Int) = true) (h64 : n ≤ 64) : CN Try.prog 84 [.int .i64 r] w (fun v ch => ∃ sv, v = .tuple #[.agg (Sender.row (newSender n) sv (.slice none 0 0) (.slice none 0 0) (.slice none 0 0)).toArray, .bool true] ∧ OwS 3 1 (PlO intC) sv (List.replicate n 0) ch) := by
  refine cn_of Try.func84 rfl rfl rfl <| SQ <| RG <| AL rfl tyZ_impl_Sender <| fun b1 => AS rfl rfl <| ND <| SQ <| RG <| MV rfl rfl <| CN1 rfl fun_impl_NewRing rfl (fun w hs => impl_NewRing _ n hn hr h64) <| fun vv1 ch1 how1 => ?_
  obtain ⟨sv1, rfl, hO1⟩ := how1
  obtain ⟨R1, rc1, rfl, hR1, hrd1⟩ := hO1.shape eInt
  refine MV rfl rfl <| XT rfl rfl rfl <| XT rfl rfl rfl <| AL rfl tyZ_impl_Ring <| fun b2 => ST (i := 0) [_, _, _, _] [_, _, _, _] tyS_impl_Ring.sz rfl rfl rfl rfl rfl rfl rfl rfl <| AS rfl rfl <| ND <| SQ <| SQ <| RG <| MV rfl rfl <| NT rfl rfl <| ND <| CF rfl rfl <| SK <| SQ <| RG <| LS (i := 0) [_, _, _, _] rfl tyS_impl_Ring rfl rfl rfl rfl <| rw_build [_, _, _, _, _, _, _, _, _, _, _, _] rfl tyB_impl_Sender tyZ_impl_Sender rfl rfl <| rw_storeN (i := 1) [_, _, _, _, _, _, _, _, _, _, _, _] [_, _, _, _, _, _, _, _, _, _, _, _] [_, _] tyS_impl_Sender.sz rfl rfl rfl rfl rfl rfl rfl rfl rfl <| ?_
  refine AS rfl rfl <| ND <| ?_
  refine ret_cn ch1 Try.func84 (res2 Try.func84 rfl (rv_s (i := 1) [_, _, _, _, _, _, _, _, _, _, _, _] tyS_impl_Sender rfl rfl rfl rfl) (rv_tmp rfl)) ?_ ?_
  · exact ⟨_, rfl, hO1⟩
  · exact (List.sublist_append_left _ _).trans (List.sublist_append_right _ _)

theorem impl_NewStream_T {w : World} (s : Bool) (id : Int) (o p : Conf) (n : Nat) (hq : isQuic id = true) (hc1 : isConf o = true) (hc2 : isConf p = true) (hn : o.ring = (n : Int)) (hr : isRingSize (n : Int) = true) (h64 : n ≤ 64) : CN Try.prog 27 [.bool s, .int .i64 id, .agg o.cells.toArray, .agg p.cells.toArray] w (fun v ch => ∃ sv, v = .tuple #[.agg (Stream.row (newStream s id o p n) sv (.slice none 0 0) (.slice none 0 0) (.slice none 0 0) (.slice none 0 0)).toArray, .bool true] ∧ OwS 3 1 (PlO intC) sv (List.replicate n 0) ch) := by
  refine cn_of Try.func27 rfl rfl rfl <| SQ <| RG <| BX [_, _, _, _, _, _, _, _] rfl rfl rfl <| fun b1 => BX [_, _, _, _, _, _, _, _] rfl rfl rfl <| fun b2 => AL rfl tyZ_impl_Stream <| fun b3 => AS rfl rfl <| ND <| SQ <| SQ <| RG <| MV rfl rfl <| CV1 rfl fun_impl_IsStreamId rfl (fun w hs => impl_IsStreamId _ w) <| NT rfl rfl <| MV rfl rfl <| ON rfl rfl (not_T hq) <| LS (i := 2) [_, _, _, _, _, _, _, _] rfl tyS_impl_Conf rfl rfl rfl rfl <| ON rfl rfl (not_T hq) <| CV1 rfl fun_impl_IsConf rfl (fun w hs => impl_IsConf _ w) <| ?_
  refine ON rfl rfl (not_T hq) <| NT rfl rfl <| PF rfl rfl (not_T hq) rfl <| MV rfl rfl <| ON rfl rfl (not_T hc1) <| LS (i := 1) [_, _, _, _, _, _, _, _] rfl tyS_impl_Conf rfl rfl rfl rfl <| ON rfl rfl (not_T hc1) <| CV1 rfl fun_impl_IsConf rfl (fun w hs => impl_IsConf _ w) <| ON rfl rfl (not_T hc1) <| NT rfl rfl <| PF rfl rfl (not_T hc1) rfl <| ND <| CF rfl (not_T hc2) <| SK <| SQ <| RG <| MV rfl rfl <| CV1 rfl fun_impl_NewReceiver rfl (fun w hs => impl_NewReceiver w) <| CV1 rfl fun_impl_DefaultPriority rfl (fun w hs => impl_DefaultPriority w) <| ?_
  refine MV rfl rfl <| MV rfl rfl <| CV1 rfl fun_impl_CanSendOn rfl (fun w hs => impl_CanSendOn _ _ w) <| MV rfl rfl <| MV rfl rfl <| CV1 rfl fun_impl_CanReceiveOn rfl (fun w hs => impl_CanReceiveOn _ _ w) <| rw_build [_, _, _, _, _, _, _, _, _, _, _, _, _, _, _, _, _, _, _, _, _, _, _, _, _, _, _, _, _, _, _, _, _, _, _, _, _, _, _] rfl tyB_impl_Stream tyZ_impl_Stream rfl rfl <| AL rfl tyZ_impl_Stream <| fun b4 => rw_storeN (i := 0) [_, _, _, _, _, _, _, _, _, _, _, _, _, _, _, _, _, _, _, _, _, _, _, _, _, _, _, _, _, _, _, _, _, _, _, _, _, _, _] [_, _, _, _, _, _, _, _, _, _, _, _, _, _, _, _, _, _, _, _, _, _, _, _, _, _, _, _, _, _, _, _, _, _, _, _, _, _, _] [_, _, _, _] tyS_impl_Stream.sz rfl rfl rfl rfl rfl rfl rfl rfl rfl <| ?_
  refine ND <| SQ <| RG <| FA rfl tyF_impl_Conf_0 rfl <| LD (i := 3) rfl tyP_int rfl rfl rfl <| CN1 rfl fun_impl_NewSender rfl (fun w hs => impl_NewSender _ n hn hr h64) <| fun vv1 ch1 how1 => ?_
  obtain ⟨sv1, rfl, hO1⟩ := how1
  obtain ⟨R1, rc1, rfl, hR1, hrd1⟩ := hO1.shape eInt
  refine MV rfl rfl <| XT rfl rfl rfl <| XT rfl rfl rfl <| FA rfl tyF_impl_Stream_1 rfl <| rw_storeN (i := 0) [_, _, _, _, _, _, _, _, _, _, _, _] [_, _, _, _, _, _, _, _, _, _, _, _, _, _, _, _, _, _, _, _, _, _, _, _, _, _, _, _, _, _, _, _, _, _, _, _, _, _, _] [_, _, _, _] tyS_impl_Sender.sz rfl rfl rfl rfl rfl rfl rfl rfl rfl <| ND <| SQ <| RG <| FA rfl tyF_impl_Conf_1 rfl <| LD (i := 2) rfl tyP_int rfl rfl rfl <| CV1 rfl fun_impl_NewCredit rfl (fun w hs => impl_NewCredit _ w) <| MV rfl rfl <| XT rfl rfl rfl <| ?_
  refine XT rfl rfl rfl <| FA rfl tyF_impl_Stream_2 rfl <| rw_storeN (i := 0) [_, _, _, _] [_, _, _, _, _, _, _, _, _, _, _, _, _, _, _, _, _, _, _, _, _, _, _, _, _, _, _, _, _, _, _, _, _, _, _, _, _, _, _] [_, _, _, _] tyS_impl_Credit.sz rfl rfl rfl rfl rfl rfl rfl rfl rfl <| ND <| SQ <| RG <| FA rfl tyF_impl_Conf_1 rfl <| LD (i := 3) rfl tyP_int rfl rfl rfl <| FA rfl tyF_impl_Conf_2 rfl <| LD (i := 3) rfl tyP_int rfl rfl rfl <| CV1 rfl fun_impl_NewWindow rfl (fun w hs => impl_NewWindow _ _ w) <| MV rfl rfl <| ?_
  refine XT rfl rfl rfl <| XT rfl rfl rfl <| FA rfl tyF_impl_Stream_4 rfl <| rw_storeN (i := 0) [_, _, _, _, _, _] [_, _, _, _, _, _, _, _, _, _, _, _, _, _, _, _, _, _, _, _, _, _, _, _, _, _, _, _, _, _, _, _, _, _, _, _, _, _, _] [_, _, _, _] tyS_impl_Window.sz rfl rfl rfl rfl rfl rfl rfl rfl rfl <| ND <| SQ <| RG <| LS (i := 0) [_, _, _, _, _, _, _, _, _, _, _, _, _, _, _, _, _, _, _, _, _, _, _, _, _, _, _, _, _, _, _, _, _, _, _, _, _, _, _] rfl tyS_impl_Stream rfl rfl rfl rfl <| rw_storeN (i := 1) [_, _, _, _, _, _, _, _, _, _, _, _, _, _, _, _, _, _, _, _, _, _, _, _, _, _, _, _, _, _, _, _, _, _, _, _, _, _, _] [_, _, _, _, _, _, _, _, _, _, _, _, _, _, _, _, _, _, _, _, _, _, _, _, _, _, _, _, _, _, _, _, _, _, _, _, _, _, _] [_, _, _, _] tyS_impl_Stream.sz rfl rfl rfl rfl rfl rfl rfl rfl rfl <| ?_
  refine AS rfl rfl <| ND <| ?_
  refine ret_cn ch1 Try.func27 (res2 Try.func27 rfl (rv_s (i := 1) [_, _, _, _, _, _, _, _, _, _, _, _, _, _, _, _, _, _, _, _, _, _, _, _, _, _, _, _, _, _, _, _, _, _, _, _, _, _, _] tyS_impl_Stream rfl rfl rfl rfl) (rv_tmp rfl)) ?_ ?_
  · exact ⟨_, rfl, hO1⟩
  · exact (List.sublist_append_left _ _).trans (List.sublist_append_right _ _)

theorem impl_NewStream_F (s : Bool) (id : Int) (o p : Conf) (hc : (isQuic id && isConf o && isConf p) = false) (w : World) : CV Try.prog 27 [.bool s, .int .i64 id, .agg o.cells.toArray, .agg p.cells.toArray] w (.tuple #[.agg (Stream.row zeroStream (.slice none 0 0) (.slice none 0 0) (.slice none 0 0) (.slice none 0 0) (.slice none 0 0)).toArray, .bool false]) := by
  refine cv_of Try.func27 rfl rfl rfl <| SQ <| RG <| BX [_, _, _, _, _, _, _, _] rfl rfl rfl <| fun b1 => BX [_, _, _, _, _, _, _, _] rfl rfl rfl <| fun b2 => AL rfl tyZ_impl_Stream <| fun b3 => AS rfl rfl <| ND <| SQ <| SQ <| RG <| MV rfl rfl <| CV1 rfl fun_impl_IsStreamId rfl (fun w hs => impl_IsStreamId _ w) <| NT rfl rfl <| MV rfl rfl <| ?_
  refine rw_case (j := 14) rfl (fun h1 => ?_) (fun h1 => ?_)
  · replace h1 := of_not_T h1
    refine OF rfl rfl (not_F h1) rfl <| OF rfl rfl (not_F h1) rfl <| OF rfl rfl (not_F h1) rfl <| PT rfl rfl (not_F h1) rfl <| MV rfl rfl <| OF rfl rfl rfl rfl <| OF rfl rfl rfl rfl <| OF rfl rfl rfl rfl <| PT rfl rfl rfl rfl <| ND <| CT rfl rfl <| SQ <| RG <| rw_build [_, _, _, _, _, _, _, _, _, _, _, _, _, _, _, _, _, _, _, _, _, _, _, _, _, _, _, _, _, _, _, _, _, _, _, _, _, _, _] rfl tyB_impl_Stream tyZ_impl_Stream rfl rfl <| rw_storeN (i := 0) [_, _, _, _, _, _, _, _, _, _, _, _, _, _, _, _, _, _, _, _, _, _, _, _, _, _, _, _, _, _, _, _, _, _, _, _, _, _, _] [_, _, _, _, _, _, _, _, _, _, _, _, _, _, _, _, _, _, _, _, _, _, _, _, _, _, _, _, _, _, _, _, _, _, _, _, _, _, _] [_, _, _] tyS_impl_Stream.sz rfl rfl rfl rfl rfl rfl rfl rfl rfl <| ?_
    refine AS rfl rfl <| ND <| ret_cv Try.func27 (res2 Try.func27 rfl (rv_s (i := 0) [_, _, _, _, _, _, _, _, _, _, _, _, _, _, _, _, _, _, _, _, _, _, _, _, _, _, _, _, _, _, _, _, _, _, _, _, _, _, _] tyS_impl_Stream rfl rfl rfl rfl) (rv_tmp rfl)) <| ?_
    rfl
  · replace h1 := of_not_F h1
    refine ON rfl rfl (not_T h1) <| LS (i := 2) [_, _, _, _, _, _, _, _] rfl tyS_impl_Conf rfl rfl rfl rfl <| ON rfl rfl (not_T h1) <| CV1 rfl fun_impl_IsConf rfl (fun w hs => impl_IsConf _ w) <| ON rfl rfl (not_T h1) <| NT rfl rfl <| PF rfl rfl (not_T h1) rfl <| MV rfl rfl <| ?_
    refine rw_case (j := 19) rfl (fun h2 => ?_) (fun h2 => ?_)
    · replace h2 := of_not_T h2
      refine OF rfl rfl (not_F h2) rfl <| OF rfl rfl (not_F h2) rfl <| OF rfl rfl (not_F h2) rfl <| PT rfl rfl (not_F h2) rfl <| ND <| CT rfl rfl <| SQ <| RG <| rw_build [_, _, _, _, _, _, _, _, _, _, _, _, _, _, _, _, _, _, _, _, _, _, _, _, _, _, _, _, _, _, _, _, _, _, _, _, _, _, _] rfl tyB_impl_Stream tyZ_impl_Stream rfl rfl <| rw_storeN (i := 0) [_, _, _, _, _, _, _, _, _, _, _, _, _, _, _, _, _, _, _, _, _, _, _, _, _, _, _, _, _, _, _, _, _, _, _, _, _, _, _] [_, _, _, _, _, _, _, _, _, _, _, _, _, _, _, _, _, _, _, _, _, _, _, _, _, _, _, _, _, _, _, _, _, _, _, _, _, _, _] [_, _, _] tyS_impl_Stream.sz rfl rfl rfl rfl rfl rfl rfl rfl rfl <| ?_
      refine AS rfl rfl <| ND <| ret_cv Try.func27 (res2 Try.func27 rfl (rv_s (i := 0) [_, _, _, _, _, _, _, _, _, _, _, _, _, _, _, _, _, _, _, _, _, _, _, _, _, _, _, _, _, _, _, _, _, _, _, _, _, _, _] tyS_impl_Stream rfl rfl rfl rfl) (rv_tmp rfl)) <| ?_
      rfl
    · replace h2 := of_not_F h2
      refine ON rfl rfl (not_T h2) <| LS (i := 1) [_, _, _, _, _, _, _, _] rfl tyS_impl_Conf rfl rfl rfl rfl <| ON rfl rfl (not_T h2) <| CV1 rfl fun_impl_IsConf rfl (fun w hs => impl_IsConf _ w) <| ON rfl rfl (not_T h2) <| NT rfl rfl <| PF rfl rfl (not_T h2) rfl <| ND <| ?_
      refine gw_cond rfl (fun h3 => ?_) (fun h3 => ?_)
      · replace h3 := of_not_T h3
        refine SQ <| RG <| rw_build [_, _, _, _, _, _, _, _, _, _, _, _, _, _, _, _, _, _, _, _, _, _, _, _, _, _, _, _, _, _, _, _, _, _, _, _, _, _, _] rfl tyB_impl_Stream tyZ_impl_Stream rfl rfl <| rw_storeN (i := 0) [_, _, _, _, _, _, _, _, _, _, _, _, _, _, _, _, _, _, _, _, _, _, _, _, _, _, _, _, _, _, _, _, _, _, _, _, _, _, _] [_, _, _, _, _, _, _, _, _, _, _, _, _, _, _, _, _, _, _, _, _, _, _, _, _, _, _, _, _, _, _, _, _, _, _, _, _, _, _] [_, _, _] tyS_impl_Stream.sz rfl rfl rfl rfl rfl rfl rfl rfl rfl <| AS rfl rfl <| ND <| ret_cv Try.func27 (res2 Try.func27 rfl (rv_s (i := 0) [_, _, _, _, _, _, _, _, _, _, _, _, _, _, _, _, _, _, _, _, _, _, _, _, _, _, _, _, _, _, _, _, _, _, _, _, _, _, _] tyS_impl_Stream rfl rfl rfl rfl) (rv_tmp rfl)) <| ?_
        rfl
      · replace h3 := of_not_F h3
        refine SK <| SQ <| ?_
        exact absurd hc (by simp [h1, h2, h3])

theorem laws_markIntS_nil (A : Option Addr) (k : Int) (w : World) : CV Try.prog 124 [.slice A 0 0, .int .i64 k] w (.int .i64 k) := by
  refine cv_of Try.func124 rfl rfl rfl <| SQ <| RG <| AS rfl rfl <| ND <| SQ <| SQ <| RG <| AS rfl rfl <| ND <| BK <| gw_loop1 <| SQ <| SQ <| RG <| MV rfl rfl <| MV rfl rfl <| rw_len rfl tyE_S_int rfl <| rw_lss rfl rfl rfl <| ND <| CF rfl rfl <| EX rfl <| SQ <| RG <| MV rfl rfl <| AS rfl rfl <| ND <| ret_cv Try.func124 (res1 Try.func124 rfl (rv_tmp rfl)) <| ?_
  rfl

theorem laws_markIntS_b {w : World} {g c : Nat} {pre rs : List Value} {l : List Int} {k : Int} (hb : l.length ≤ 134217728) (hk0 : 0 ≤ k) (hk1 : k ≤ 1073741824) (hc1 : l.length ≤ c) (hc2 : c ≤ maxLen) (hc3 : (l.flatMap intC ++ rs).length = c * 1) (hin : ∀ c ∈ [(⟨g, 3, pre ++ (l.flatMap intC ++ rs)⟩ : Ck)], c.In w) (hnd : ([(⟨g, 3, pre ++ (l.flatMap intC ++ rs)⟩ : Ck)].map Ck.b).Nodup) : CH Try.prog 124 [.slice (some ⟨g, pre.length, none⟩) l.length c, .int .i64 k] w [⟨g, 3, pre ++ (l.flatMap intC ++ rs)⟩] (fun v' ch' => v' = .int .i64 (k + (l.length : Int)) ∧ OwS 3 1 (PlO intC) (.slice (some ⟨g, pre.length, none⟩) l.length c) (markI k l.length) ch') := by
  refine ch_ofB hin hnd Try.func124 rfl rfl rfl <| SQ <| RG <| AS rfl rfl <| ND <| SQ <| SQ <| RG <| AS rfl rfl <| ND <| BK <| ?_
  refine gw_loopX (α := Nat × List Int) (fun z_ => z_.1 ≤ l.length ∧ z_.2.length = l.length ∧ ∀ j, j < z_.1 → z_.2[j]? = some (k + (j : Int))) (fun z_ => l.length - z_.1) (fun e z_ => (5, .int .i64 (z_.1 : Int)) :: (1, .int .i64 (k + (z_.1 : Int))) :: e) (fun B z_ => B.set 0 ⟨g, 3, pre ++ (z_.2.flatMap intC ++ rs)⟩) (fun F _ => F) (0, l) [(0, _), (4, _)] (Sub.consE rfl rfl (Sub.consE rfl (by simp) (Sub.cons (i := 0) rfl (Sub.cons (i := 4) rfl (Sub.nil _))))) rfl rfl ?_ ?_
  · exact ⟨Nat.zero_le _, rfl, fun j hj => absurd hj (Nat.not_lt_zero _)⟩
  · rintro ⟨i, m⟩ hI1 ih1
    dsimp only at hI1
    dsimp only [List.set]
    obtain ⟨hle, hlen, hm⟩ := hI1
    refine SQ <| SQ <| RG <| MV rfl rfl <| MV rfl rfl <| rw_len rfl tyE_S_int rfl <| rw_lss rfl rfl rfl <| ND <| ?_
    refine gw_cond rfl (fun h1 => ?_) (fun h1 => ?_)
    · have hi2 := lt_of_dec h1
      refine SK <| SQ <| BK <| SQ <| RG <| MV rfl rfl <| MV rfl rfl <| MV rfl rfl <| ?_
      obtain ⟨x3, hx3⟩ := get_of_lt (show i < m.length by omega)
      refine rw_indexAddrO (i) rfl tyE_S_int rfl rfl rfl hi2 <| rw_storeEl (f := intC) (kk := 1) (i := i) (off := 0) (j := 0) [_] (k + (i : Int)) tyP_int.sz (fun _ => rfl) rfl rfl rfl rfl rfl rfl hx3 rfl rfl rfl <| ND <| RG <| MV rfl rfl <| rw_add rfl rfl rfl <| AS rfl rfl <| ND <| IB <| RG <| MV rfl rfl <| rw_add rfl rfl rfl <| AS rfl rfl <| ND <| ?_
      refine gw_sub (Sub.consE (i := 5) rfl (int_succ (by omega)) (Sub.consE (i := 1) rfl (kstep hk0 hk1 (by omega)) (Sub.cons (i := 0) rfl (Sub.cons (i := 4) rfl (Sub.nil _))))) (ih1 (i + 1, (m.set i (k + (i : Int)))) ?_ ?_)
      · exact ⟨by omega, by simp only [List.length_set]; omega, mark_step hm (by omega)⟩
      · show l.length - (i + 1) < l.length - i; omega
    · have hn5 := ge_of_dec h1
      refine EX rfl <| SQ <| RG <| MV rfl rfl <| AS rfl rfl <| ND <| ?_
      refine ret_ch [⟨g, 3, pre ++ (m.flatMap intC ++ rs)⟩] Try.func124 (res1 Try.func124 rfl (rv_tmp rfl)) ?_ ?_
      · obtain rfl : i = l.length := by omega
        obtain rfl := markI_eq hlen hm
        exact ⟨rfl, OwS.close (fun _ => rfl) rfl (markI_len _ _) hc1 hc2 hc3⟩
      · simp

theorem laws_markIntS {w : World} {A : Option Addr} {n c : Nat} {l : List Int} {ch : List Ck} {k : Int} (hO : OwS 3 1 (PlO intC) (.slice A n c) l ch) (hb : l.length ≤ 134217728) (hk0 : 0 ≤ k) (hk1 : k ≤ 1073741824) (hin : ∀ c ∈ ch, c.In w) (hnd : (ch.map Ck.b).Nodup) :
    CH Try.prog 124 [.slice A n c, .int .i64 k] w ch (fun v' ch' => v' = .int .i64 (k + (l.length : Int)) ∧ OwS 3 1 (PlO intC) (.slice A n c) (markI k l.length) ch') := by
  rcases hO.open with ⟨rfl, rfl, rfl, rfl⟩ | ⟨g, pre, rs, rfl, rfl, rfl, hc1, hc2, hc3⟩
  · exact (laws_markIntS_nil A k w).ch ⟨by simp, ⟨[], .inl ⟨A, rfl, rfl, rfl⟩⟩⟩
  · exact laws_markIntS_b hb hk0 hk1 hc1 hc2 hc3 hin hnd

theorem laws_markRing {w : World} (x : Ring) {A : Option Addr} {c : Nat} {l : List Int} {ch : List Ck} (hO : OwS 3 1 (PlO intC) (.slice A l.length c) l ch) (hb : l.length ≤ 134217728) (_ : (0 : Int) ≤ 1) (_ : (1 : Int) ≤ 1073741824) (hin : ∀ c ∈ ch, c.In w) (hnd : (ch.map Ck.b).Nodup) : CH Try.prog 150 [.agg (Ring.row x (.slice A l.length c)).toArray, .int .i64 1] w ch (fun v' ch' => v' = .int .i64 (1 + (l.length : Int)) ∧ OwS 3 1 (PlO intC) (.slice A l.length c) (markI 1 l.length) ch') := by
  obtain ⟨_, _, hR, hrd⟩ := hO.reshape eInt
  refine ch_of hin hnd Try.func150 rfl rfl rfl <| SQ <| RG <| BX [_, _, _, _] rfl rfl rfl <| fun b1 => AS rfl rfl <| ND <| SQ <| RG <| FA rfl tyF_impl_Ring_3 rfl <| LD (i := 0) rfl tyP_S_int rfl rfl rfl <| MV rfl rfl <| rw_ch (G := ch) (R := []) rfl fun_laws_markIntS rfl (((List.Perm.refl _).trans ((List.Perm.refl _).append_left _))) (fun w hs hin hnd => laws_markIntS hO (by first | omega | simp <;> omega) (by decide) (by decide) hin hnd) <| fun vh1 ch1 how1 => ?_
  obtain ⟨rfl, hO1⟩ := how1
  obtain ⟨hn1, hrv1, hR1, hrd1⟩ := hO1.reshape eInt
  refine AS rfl rfl <| ND <| SQ <| RG <| MV rfl rfl <| AS rfl rfl <| ND <| ?_
  refine ret_ch ch1 Try.func150 (res1 Try.func150 rfl (rv_tmp rfl)) ?_ ?_
  · exact ⟨rfl, hO1⟩
  · simp

theorem laws_markRangeS_nil (k : Int) (w : World) : CV Try.prog 125 [.slice none 0 0, .int .i64 k] w (.int .i64 k) := by
  refine cv_of Try.func125 rfl rfl rfl <| SQ <| RG <| AS rfl rfl <| ND <| SQ <| SQ <| RG <| AS rfl rfl <| ND <| BK <| gw_loop1 <| SQ <| SQ <| RG <| MV rfl rfl <| MV rfl rfl <| rw_len rfl tyE_S_impl_Range rfl <| rw_lss rfl rfl rfl <| ND <| CF rfl rfl <| EX rfl <| SQ <| RG <| MV rfl rfl <| AS rfl rfl <| ND <| ret_cv Try.func125 (res1 Try.func125 rfl (rv_tmp rfl)) <| ?_
  rfl

theorem laws_markSender {w : World} (x : Sender) {A : Option Addr} {c : Nat} {l : List Int} {ch : List Ck} (hO : OwS 3 1 (PlO intC) (.slice A l.length c) l ch) (hb : l.length ≤ 134217728) (_ : (0 : Int) ≤ 1) (_ : (1 : Int) ≤ 1073741824) (hin : ∀ c ∈ ch, c.In w) (hnd : (ch.map Ck.b).Nodup) : CH Try.prog 87 [.agg (Sender.row x (.slice A l.length c) (.slice none 0 0) (.slice none 0 0) (.slice none 0 0)).toArray, .int .i64 1] w ch (fun v' ch' => v' = .int .i64 (1 + (l.length : Int)) ∧ OwS 3 1 (PlO intC) (.slice A l.length c) (markI 1 l.length) ch') := by
  obtain ⟨_, _, hR, hrd⟩ := hO.reshape eInt
  refine ch_of hin hnd Try.func87 rfl rfl rfl <| SQ <| RG <| BX [_, _, _, _, _, _, _, _, _, _, _, _] rfl rfl rfl <| fun b1 => AS rfl rfl <| ND <| SQ <| RG <| FA rfl tyF_impl_Sender_1 rfl <| LS (i := 0) [_, _, _, _] rfl tyS_impl_Ring rfl rfl rfl rfl <| MV rfl rfl <| rw_ch (G := ch) (R := []) rfl fun_laws_markRing rfl (((List.Perm.refl _).trans ((List.Perm.refl _).append_left _))) (fun w hs hin hnd => laws_markRing _ hO (by first | omega | simp <;> omega) (by decide) (by decide) hin hnd) <| fun vh1 ch1 how1 => ?_
  obtain ⟨rfl, hO1⟩ := how1
  obtain ⟨hn1, hrv1, hR1, hrd1⟩ := hO1.reshape eInt
  refine AS rfl rfl <| ND <| SQ <| RG <| FA rfl tyF_impl_Sender_2 rfl <| LD (i := 0) rfl tyP_S_impl_Range rfl rfl rfl <| MV rfl rfl <| CV1 rfl fun_laws_markRangeS rfl (fun w hs => laws_markRangeS_nil _ w) <| AS rfl rfl <| ND <| SQ <| RG <| FA rfl tyF_impl_Sender_3 rfl <| LD (i := 0) rfl tyP_S_impl_Range rfl rfl rfl <| MV rfl rfl <| CV1 rfl fun_laws_markRangeS rfl (fun w hs => laws_markRangeS_nil _ w) <| AS rfl rfl <| ND <| SQ <| RG <| FA rfl tyF_impl_Sender_4 rfl <| ?_
  refine LD (i := 0) rfl tyP_S_impl_Range rfl rfl rfl <| MV rfl rfl <| CV1 rfl fun_laws_markRangeS rfl (fun w hs => laws_markRangeS_nil _ w) <| AS rfl rfl <| ND <| SQ <| RG <| MV rfl rfl <| AS rfl rfl <| ND <| ?_
  refine ret_ch ch1 Try.func87 (res1 Try.func87 rfl (rv_tmp rfl)) ?_ ?_
  · exact ⟨rfl, hO1⟩
  · simp

theorem laws_markChunkS_nil (k : Int) (w : World) : CV Try.prog 126 [.slice none 0 0, .int .i64 k] w (.int .i64 k) := by
  refine cv_of Try.func126 rfl rfl rfl <| SQ <| RG <| AS rfl rfl <| ND <| SQ <| SQ <| RG <| AS rfl rfl <| ND <| BK <| gw_loop1 <| SQ <| SQ <| RG <| MV rfl rfl <| MV rfl rfl <| rw_len rfl tyE_S_impl_Chunk rfl <| rw_lss rfl rfl rfl <| ND <| CF rfl rfl <| EX rfl <| SQ <| RG <| MV rfl rfl <| AS rfl rfl <| ND <| ret_cv Try.func126 (res1 Try.func126 rfl (rv_tmp rfl)) <| ?_
  rfl

theorem laws_markBuffer_nil (x : Buffer) (k : Int) (w : World) : CV Try.prog 151 [.agg (Buffer.row x (.slice none 0 0)).toArray, .int .i64 k] w (.int .i64 k) := by
  refine cv_of Try.func151 rfl rfl rfl <| SQ <| RG <| BX [_, _] rfl rfl rfl <| fun b1 => AS rfl rfl <| ND <| SQ <| RG <| FA rfl tyF_impl_Buffer_1 rfl <| LD (i := 0) rfl tyP_S_impl_Chunk rfl rfl rfl <| MV rfl rfl <| CV1 rfl fun_laws_markChunkS rfl (fun w hs => laws_markChunkS_nil _ w) <| AS rfl rfl <| ND <| SQ <| RG <| MV rfl rfl <| AS rfl rfl <| ND <| ret_cv Try.func151 (res1 Try.func151 rfl (rv_tmp rfl)) <| ?_
  rfl

theorem laws_markReceiver_nil (x : Receiver) (k : Int) (w : World) : CV Try.prog 88 [.agg (Receiver.row x (.slice none 0 0)).toArray, .int .i64 k] w (.int .i64 k) := by
  refine cv_of Try.func88 rfl rfl rfl <| SQ <| RG <| BX [_, _, _, _, _, _] rfl rfl rfl <| fun b1 => AS rfl rfl <| ND <| SQ <| RG <| FA rfl tyF_impl_Receiver_1 rfl <| LS (i := 0) [_, _] rfl tyS_impl_Buffer rfl rfl rfl rfl <| MV rfl rfl <| CV1 rfl fun_laws_markBuffer rfl (fun w hs => laws_markBuffer_nil _ _ w) <| AS rfl rfl <| ND <| SQ <| RG <| MV rfl rfl <| AS rfl rfl <| ND <| ret_cv Try.func88 (res1 Try.func88 rfl (rv_tmp rfl)) <| ?_
  rfl

theorem laws_markStream {w : World} (x : Stream) {A : Option Addr} {c : Nat} {l : List Int} {ch : List Ck} (hO : OwS 3 1 (PlO intC) (.slice A l.length c) l ch) (hb : l.length ≤ 134217728) (_ : (0 : Int) ≤ 1) (_ : (1 : Int) ≤ 1073741824) (hin : ∀ c ∈ ch, c.In w) (hnd : (ch.map Ck.b).Nodup) : CH Try.prog 28 [.agg (Stream.row x (.slice A l.length c) (.slice none 0 0) (.slice none 0 0) (.slice none 0 0) (.slice none 0 0)).toArray, .int .i64 1] w ch (fun v' ch' => v' = .int .i64 (1 + (l.length : Int)) ∧ OwS 3 1 (PlO intC) (.slice A l.length c) (markI 1 l.length) ch') := by
  obtain ⟨_, _, hR, hrd⟩ := hO.reshape eInt
  refine ch_of hin hnd Try.func28 rfl rfl rfl <| SQ <| RG <| BX [_, _, _, _, _, _, _, _, _, _, _, _, _, _, _, _, _, _, _, _, _, _, _, _, _, _, _, _, _, _, _, _, _, _, _, _, _, _, _] rfl rfl rfl <| fun b1 => AS rfl rfl <| ND <| SQ <| RG <| FA rfl tyF_impl_Stream_1 rfl <| LS (i := 0) [_, _, _, _, _, _, _, _, _, _, _, _] rfl tyS_impl_Sender rfl rfl rfl rfl <| MV rfl rfl <| rw_ch (G := ch) (R := []) rfl fun_laws_markSender rfl (((List.Perm.refl _).trans ((List.Perm.refl _).append_left _))) (fun w hs hin hnd => laws_markSender _ hO (by first | omega | simp <;> omega) (by decide) (by decide) hin hnd) <| fun vh1 ch1 how1 => ?_
  obtain ⟨rfl, hO1⟩ := how1
  obtain ⟨hn1, hrv1, hR1, hrd1⟩ := hO1.reshape eInt
  refine AS rfl rfl <| ND <| SQ <| RG <| FA rfl tyF_impl_Stream_3 rfl <| LS (i := 0) [_, _, _, _, _, _] rfl tyS_impl_Receiver rfl rfl rfl rfl <| MV rfl rfl <| CV1 rfl fun_laws_markReceiver rfl (fun w hs => laws_markReceiver_nil _ _ w) <| AS rfl rfl <| ND <| SQ <| RG <| MV rfl rfl <| AS rfl rfl <| ND <| ?_
  refine ret_ch ch1 Try.func28 (res1 Try.func28 rfl (rv_tmp rfl)) ?_ ?_
  · exact ⟨rfl, hO1⟩
  · simp

theorem laws_heldIntS {w : World} {v : Value} {k : Int} {n : Nat} (hv : RdS w 1 (Pl intC) v (markI k n)) (hb : n ≤ 134217728) (hk0 : 0 ≤ k) (hk1 : k ≤ 1073741824) : CV Try.prog 127 [v, .int .i64 k] w (.int .i64 (k + (n : Int))) := by
  obtain ⟨A, c, rfl, hA⟩ := hv
  refine cv_of Try.func127 rfl rfl rfl <| SQ <| RG <| AS rfl rfl <| ND <| SQ <| SQ <| RG <| AS rfl rfl <| ND <| BK <| ?_
  refine gw_loopC (α := Nat) (fun z_ => z_ ≤ (markI k n).length) (fun z_ => (markI k n).length - z_) (fun e z_ => (5, .int .i64 (z_ : Int)) :: (1, .int .i64 (k + (z_ : Int))) :: e) 0 [(0, _)] (Sub.consE rfl rfl (Sub.consE rfl (by simp) (Sub.cons (i := 0) rfl (Sub.nil _)))) ?_ ?_
  · exact Nat.zero_le _
  · rintro i hI1 ih1
    try dsimp only
    have hle := hI1
    have hml := markI_len k n
    refine SQ <| SQ <| RG <| MV rfl rfl <| MV rfl rfl <| rw_len rfl tyE_S_int rfl <| rw_lss rfl rfl rfl <| ND <| ?_
    refine gw_cond rfl (fun h1 => ?_) (fun h1 => ?_)
    · have hi2 := lt_of_dec h1
      obtain ⟨x3, hx3⟩ := get_of_lt hi2
      have hd3 := drop_cons hx3
      refine SK <| SQ <| BK <| SQ <| SQ <| RG <| MV rfl rfl <| MV rfl rfl <| ?_
      have hq4 := hA.plain hx3
      refine rw_indexAddr (i) rfl tyE_S_int rfl rfl rfl (hA.some hi2) hi2 <| rw_loadX _ rfl tyP_int rfl (fun w hs => hq4.ld0 hs rfl) <| MV rfl rfl <| rw_neq rfl rfl rfl <| ND <| CF rfl (held_ne hx3) <| SK <| RG <| MV rfl rfl <| rw_add rfl rfl rfl <| AS rfl rfl <| ND <| IB <| RG <| MV rfl rfl <| rw_add rfl rfl rfl <| AS rfl rfl <| ND <| ?_
      refine gw_sub (Sub.consE (i := 5) rfl (int_succ (by omega)) (Sub.consE (i := 1) rfl (kstep hk0 hk1 (by omega)) (Sub.cons (i := 0) rfl (Sub.nil _)))) (ih1 (i + 1) ?_ ?_)
      · omega
      · show (markI k n).length - (i + 1) < (markI k n).length - i; omega
    · have hn5 := nil_of_dec h1
      refine EX rfl <| SQ <| RG <| MV rfl rfl <| AS rfl rfl <| ND <| ret_cv Try.func127 (res1 Try.func127 rfl (rv_tmp rfl)) <| ?_
      rw [held_end hle hn5]

theorem laws_heldRing {w : World} (x : Ring) {v : Value} {n : Nat} (hv : RdS w 1 (Pl intC) v (markI 1 n)) (hb : n ≤ 134217728) : CV Try.prog 152 [.agg (Ring.row x v).toArray, .int .i64 1] w (.int .i64 (1 + (n : Int))) := by
  obtain ⟨A, c, rfl, hA⟩ := hv
  refine cv_of Try.func152 rfl rfl rfl <| SQ <| RG <| BX [_, _, _, _] rfl rfl rfl <| fun b1 => AS rfl rfl <| ND <| SQ <| RG <| FA rfl tyF_impl_Ring_3 rfl <| LD (i := 0) rfl tyP_S_int rfl rfl rfl <| MV rfl rfl <| CV1 rfl fun_laws_heldIntS rfl (fun w hs => laws_heldIntS (hA.s Pl.keeps hs) (by first | omega | simp <;> omega) (by decide) (by decide)) <| AS rfl rfl <| ND <| SQ <| SQ <| RG <| MV rfl rfl <| rw_lss rfl rfl rfl <| ND <| CF rfl (kx_nn _) <| SK <| SQ <| RG <| MV rfl rfl <| ?_
  refine AS rfl rfl <| ND <| ret_cv Try.func152 (res1 Try.func152 rfl (rv_tmp rfl)) <| ?_
  rfl

theorem laws_heldRangeS_nil (k : Int) (w : World) : CV Try.prog 128 [.slice none 0 0, .int .i64 k] w (.int .i64 k) := by
  refine cv_of Try.func128 rfl rfl rfl <| SQ <| RG <| AS rfl rfl <| ND <| SQ <| SQ <| RG <| AS rfl rfl <| ND <| BK <| gw_loop1 <| SQ <| SQ <| RG <| MV rfl rfl <| MV rfl rfl <| rw_len rfl tyE_S_impl_Range rfl <| rw_lss rfl rfl rfl <| ND <| CF rfl rfl <| EX rfl <| SQ <| RG <| MV rfl rfl <| AS rfl rfl <| ND <| ret_cv Try.func128 (res1 Try.func128 rfl (rv_tmp rfl)) <| ?_
  rfl

theorem laws_heldSender {w : World} (x : Sender) {v : Value} {n : Nat} (hv : RdS w 1 (Pl intC) v (markI 1 n)) (hb : n ≤ 134217728) : CV Try.prog 89 [.agg (Sender.row x v (.slice none 0 0) (.slice none 0 0) (.slice none 0 0)).toArray, .int .i64 1] w (.int .i64 (1 + (n : Int))) := by
  obtain ⟨A, c, rfl, hA⟩ := hv
  refine cv_of Try.func89 rfl rfl rfl <| SQ <| RG <| BX [_, _, _, _, _, _, _, _, _, _, _, _] rfl rfl rfl <| fun b1 => AS rfl rfl <| ND <| SQ <| RG <| FA rfl tyF_impl_Sender_1 rfl <| LS (i := 0) [_, _, _, _] rfl tyS_impl_Ring rfl rfl rfl rfl <| MV rfl rfl <| CV1 rfl fun_laws_heldRing rfl (fun w hs => laws_heldRing _ (hA.s Pl.keeps hs) (by first | omega | simp <;> omega)) <| AS rfl rfl <| ND <| SQ <| SQ <| RG <| MV rfl rfl <| rw_lss rfl rfl rfl <| ND <| CF rfl (kx_nn _) <| SK <| ?_
  refine SQ <| RG <| FA rfl tyF_impl_Sender_2 rfl <| LD (i := 0) rfl tyP_S_impl_Range rfl rfl rfl <| MV rfl rfl <| CV1 rfl fun_laws_heldRangeS rfl (fun w hs => laws_heldRangeS_nil _ w) <| AS rfl rfl <| ND <| SQ <| SQ <| RG <| MV rfl rfl <| rw_lss rfl rfl rfl <| ND <| CF rfl (kx_nn _) <| SK <| SQ <| RG <| FA rfl tyF_impl_Sender_3 rfl <| LD (i := 0) rfl tyP_S_impl_Range rfl rfl rfl <| MV rfl rfl <| CV1 rfl fun_laws_heldRangeS rfl (fun w hs => laws_heldRangeS_nil _ w) <| AS rfl rfl <| ?_
  refine ND <| SQ <| SQ <| RG <| MV rfl rfl <| rw_lss rfl rfl rfl <| ND <| CF rfl (kx_nn _) <| SK <| SQ <| RG <| FA rfl tyF_impl_Sender_4 rfl <| LD (i := 0) rfl tyP_S_impl_Range rfl rfl rfl <| MV rfl rfl <| CV1 rfl fun_laws_heldRangeS rfl (fun w hs => laws_heldRangeS_nil _ w) <| AS rfl rfl <| ND <| SQ <| SQ <| RG <| MV rfl rfl <| rw_lss rfl rfl rfl <| ND <| CF rfl (kx_nn _) <| SK <| SQ <| RG <| MV rfl rfl <| AS rfl rfl <| ND <| ret_cv Try.func89 (res1 Try.func89 rfl (rv_tmp rfl)) <| ?_
  rfl

theorem laws_heldChunkS_nil (k : Int) (w : World) : CV Try.prog 129 [.slice none 0 0, .int .i64 k] w (.int .i64 k) := by
  refine cv_of Try.func129 rfl rfl rfl <| SQ <| RG <| AS rfl rfl <| ND <| SQ <| SQ <| RG <| AS rfl rfl <| ND <| BK <| gw_loop1 <| SQ <| SQ <| RG <| MV rfl rfl <| MV rfl rfl <| rw_len rfl tyE_S_impl_Chunk rfl <| rw_lss rfl rfl rfl <| ND <| CF rfl rfl <| EX rfl <| SQ <| RG <| MV rfl rfl <| AS rfl rfl <| ND <| ret_cv Try.func129 (res1 Try.func129 rfl (rv_tmp rfl)) <| ?_
  rfl

theorem laws_heldBuffer_nil (x : Buffer) (k : Int) (hk : decide (k < 0) = false) (w : World) : CV Try.prog 153 [.agg (Buffer.row x (.slice none 0 0)).toArray, .int .i64 k] w (.int .i64 k) := by
  refine cv_of Try.func153 rfl rfl rfl <| SQ <| RG <| BX [_, _] rfl rfl rfl <| fun b1 => AS rfl rfl <| ND <| SQ <| RG <| FA rfl tyF_impl_Buffer_1 rfl <| LD (i := 0) rfl tyP_S_impl_Chunk rfl rfl rfl <| MV rfl rfl <| CV1 rfl fun_laws_heldChunkS rfl (fun w hs => laws_heldChunkS_nil _ w) <| AS rfl rfl <| ND <| SQ <| SQ <| RG <| MV rfl rfl <| rw_lss rfl rfl rfl <| ND <| CF rfl hk <| SK <| SQ <| RG <| MV rfl rfl <| AS rfl rfl <| ND <| ret_cv Try.func153 (res1 Try.func153 rfl (rv_tmp rfl)) <| ?_
  rfl

theorem laws_heldReceiver_nil (x : Receiver) (k : Int) (hk : decide (k < 0) = false) (w : World) : CV Try.prog 90 [.agg (Receiver.row x (.slice none 0 0)).toArray, .int .i64 k] w (.int .i64 k) := by
  refine cv_of Try.func90 rfl rfl rfl <| SQ <| RG <| BX [_, _, _, _, _, _] rfl rfl rfl <| fun b1 => AS rfl rfl <| ND <| SQ <| RG <| FA rfl tyF_impl_Receiver_1 rfl <| LS (i := 0) [_, _] rfl tyS_impl_Buffer rfl rfl rfl rfl <| MV rfl rfl <| CV1 rfl fun_laws_heldBuffer rfl (fun w hs => laws_heldBuffer_nil _ _ hk w) <| AS rfl rfl <| ND <| SQ <| SQ <| RG <| MV rfl rfl <| rw_lss rfl rfl rfl <| ND <| CF rfl hk <| SK <| SQ <| RG <| MV rfl rfl <| AS rfl rfl <| ?_
  refine ND <| ret_cv Try.func90 (res1 Try.func90 rfl (rv_tmp rfl)) <| ?_
  rfl

theorem laws_heldStream {w : World} (x : Stream) {v : Value} {n : Nat} (hv : RdS w 1 (Pl intC) v (markI 1 n)) (hb : n ≤ 134217728) : CV Try.prog 29 [.agg (Stream.row x v (.slice none 0 0) (.slice none 0 0) (.slice none 0 0) (.slice none 0 0)).toArray, .int .i64 1] w (.int .i64 (1 + (n : Int))) := by
  obtain ⟨A, c, rfl, hA⟩ := hv
  refine cv_of Try.func29 rfl rfl rfl <| SQ <| RG <| BX [_, _, _, _, _, _, _, _, _, _, _, _, _, _, _, _, _, _, _, _, _, _, _, _, _, _, _, _, _, _, _, _, _, _, _, _, _, _, _] rfl rfl rfl <| fun b1 => AS rfl rfl <| ND <| SQ <| RG <| FA rfl tyF_impl_Stream_1 rfl <| LS (i := 0) [_, _, _, _, _, _, _, _, _, _, _, _] rfl tyS_impl_Sender rfl rfl rfl rfl <| MV rfl rfl <| CV1 rfl fun_laws_heldSender rfl (fun w hs => laws_heldSender _ (hA.s Pl.keeps hs) (by first | omega | simp <;> omega)) <| AS rfl rfl <| ND <| ?_
  refine SQ <| SQ <| RG <| MV rfl rfl <| rw_lss rfl rfl rfl <| ND <| CF rfl (kx_nn _) <| SK <| SQ <| RG <| FA rfl tyF_impl_Stream_3 rfl <| LS (i := 0) [_, _, _, _, _, _] rfl tyS_impl_Receiver rfl rfl rfl rfl <| MV rfl rfl <| CV1 rfl fun_laws_heldReceiver rfl (fun w hs => laws_heldReceiver_nil _ _ (kx_nn _) w) <| AS rfl rfl <| ND <| SQ <| SQ <| RG <| MV rfl rfl <| rw_lss rfl rfl rfl <| ND <| CF rfl (kx_nn _) <| SK <| SQ <| RG <| MV rfl rfl <| AS rfl rfl <| ND <| ret_cv Try.func29 (res1 Try.func29 rfl (rv_tmp rfl)) <| ?_
  rfl

theorem law_FnExactNewStream_T (s : Bool) (id : Int) (o p : Conf) (n : Nat) (hq : isQuic id = true) (hc1 : isConf o = true) (hc2 : isConf p = true) (hn : o.ring = (n : Int)) (hr : isRingSize (n : Int) = true) (h64 : n ≤ 64) (w : World) : CV Try.prog 5 [.bool s, .int .i64 id, .agg o.cells.toArray, .agg p.cells.toArray] w (.bool true) := by
  refine cv_of Try.func5 rfl rfl rfl <| SQ <| RG <| BX [_, _, _, _, _, _, _, _] rfl rfl rfl <| fun b1 => BX [_, _, _, _, _, _, _, _] rfl rfl rfl <| fun b2 => AS rfl rfl <| ND <| SQ <| gw_drawF [(0, .det), (1, .det), (2, .det), (3, .det), (4, .det), (5, .det), (6, .add), (7, .det), (8, .det), (9, .det), (10, (.free 56 [.int .i64 0, .int .i64 0, .int .i64 0, .int .i64 0, .int .i64 0, .slice none 0 0, .slice none 0 0, .slice none 0 0, .slice none 0 0, .int .i64 0, .int .i64 0, .int .i64 0, .int .i64 0, .int .i64 0, .int .i64 0, .int .i64 0, .int .i64 0, .int .i64 0, .int .i64 0, .slice none 0 0, .int .i64 0, .int .i64 0, .int .i64 0, .int .i64 0, .int .i64 0, .int .i64 0, .int .i64 0, .int .i64 0, .int .i64 0, .int .i64 0, .bool false, .bool false, .bool false, .bool false, .bool false, .bool false, .bool false, .int .i64 0, .bool false]))] [11, 12] 9 mixed rfl (free_det (free_det (free_det (free_det (free_det (free_det (free_add (free_det (free_det (free_det (free_new rfl rfl tyZ_impl_Stream free_nil))))))))))) <| ?_
  refine DT rfl rfl (fun K hk => MV rfl rfl hk) <| DT rfl rfl (fun K hk => MV rfl rfl hk) <| DT rfl rfl (fun K hk => LS (i := 1) [_, _, _, _, _, _, _, _] rfl tyS_laws_Conf rfl rfl rfl rfl hk) <| DT rfl rfl (fun K hk => CV1 rfl fun_laws_toConf rfl (fun w hs => laws_toConf _ w) hk) <| DT rfl rfl (fun K hk => LS (i := 0) [_, _, _, _, _, _, _, _] rfl tyS_laws_Conf rfl rfl rfl rfl hk) <| DT rfl rfl (fun K hk => CV1 rfl fun_laws_toConf rfl (fun w hs => laws_toConf _ w) hk) <| DA rfl rfl (fun K hk => CN1 rfl fun_spec_NewStream rfl (fun w hs => spec_NewStream_T s id o p n hq hc1 hc2 hn hr h64) hk) <| fun vv1 ch1 how1 => ?_
  obtain ⟨sv1, rfl, hO1⟩ := how1
  obtain ⟨R1, rc1, rfl, hR1, hrd1⟩ := hO1.shape eInt
  refine DT rfl rfl (fun K hk => MV rfl rfl hk) <| DT rfl rfl (fun K hk => XT rfl rfl rfl hk) <| DT rfl rfl (fun K hk => XT rfl rfl rfl hk) <| dw_free rfl rfl <| fun b3 => dw_nil <| ?_
  refine ⟨fp_of rfl rfl rfl (fun K hk => XT rfl rfl rfl hk), ?_⟩
  refine cw_take <| cw_st rfl rfl (fun K hk => rw_storeN (i := 0) [_, _, _, _, _, _, _, _, _, _, _, _, _, _, _, _, _, _, _, _, _, _, _, _, _, _, _, _, _, _, _, _, _, _, _, _, _, _, _] [_, _, _, _, _, _, _, _, _, _, _, _, _, _, _, _, _, _, _, _, _, _, _, _, _, _, _, _, _, _, _, _, _, _, _, _, _, _, _] [_, _, _] tyS_impl_Stream.sz rfl rfl rfl rfl rfl rfl rfl rfl rfl hk) <| cw_det rfl rfl (fun K hk => AS rfl rfl hk) <| cw_nil <| SQ <| gw_drawF [(0, .det), (1, .det), (2, .det), (3, .det), (4, .det), (5, .det), (6, .add), (7, .det), (8, .det), (9, .det), (10, (.free 56 [.int .i64 0, .int .i64 0, .int .i64 0, .int .i64 0, .int .i64 0, .slice none 0 0, .slice none 0 0, .slice none 0 0, .slice none 0 0, .int .i64 0, .int .i64 0, .int .i64 0, .int .i64 0, .int .i64 0, .int .i64 0, .int .i64 0, .int .i64 0, .int .i64 0, .int .i64 0, .slice none 0 0, .int .i64 0, .int .i64 0, .int .i64 0, .int .i64 0, .int .i64 0, .int .i64 0, .int .i64 0, .int .i64 0, .int .i64 0, .int .i64 0, .bool false, .bool false, .bool false, .bool false, .bool false, .bool false, .bool false, .int .i64 0, .bool false]))] [11, 12] 9 mixed rfl (free_det (free_det (free_det (free_det (free_det (free_det (free_add (free_det (free_det (free_det (free_new rfl rfl tyZ_impl_Stream free_nil))))))))))) <| ?_
  refine DT rfl rfl (fun K hk => MV rfl rfl hk) <| DT rfl rfl (fun K hk => MV rfl rfl hk) <| DT rfl rfl (fun K hk => LS (i := 2) [_, _, _, _, _, _, _, _] rfl tyS_laws_Conf rfl rfl rfl rfl hk) <| DT rfl rfl (fun K hk => CV1 rfl fun_laws_toConf rfl (fun w hs => laws_toConf _ w) hk) <| DT rfl rfl (fun K hk => LS (i := 1) [_, _, _, _, _, _, _, _] rfl tyS_laws_Conf rfl rfl rfl rfl hk) <| DT rfl rfl (fun K hk => CV1 rfl fun_laws_toConf rfl (fun w hs => laws_toConf _ w) hk) <| DA rfl rfl (fun K hk => CN1 rfl fun_impl_NewStream rfl (fun w hs => impl_NewStream_T s id o p n hq hc1 hc2 hn hr h64) hk) <| fun vv2 ch2 how2 => ?_
  obtain ⟨sv2, rfl, hO2⟩ := how2
  obtain ⟨R2, rc2, rfl, hR2, hrd2⟩ := hO2.shape eInt
  refine DT rfl rfl (fun K hk => MV rfl rfl hk) <| DT rfl rfl (fun K hk => XT rfl rfl rfl hk) <| DT rfl rfl (fun K hk => XT rfl rfl rfl hk) <| dw_free rfl rfl <| fun b4 => dw_nil <| ?_
  refine ⟨fp_of rfl rfl rfl (fun K hk => XT rfl rfl rfl hk), ?_⟩
  refine cw_take <| cw_st rfl rfl (fun K hk => rw_storeN (i := 0) [_, _, _, _, _, _, _, _, _, _, _, _, _, _, _, _, _, _, _, _, _, _, _, _, _, _, _, _, _, _, _, _, _, _, _, _, _, _, _] [_, _, _, _, _, _, _, _, _, _, _, _, _, _, _, _, _, _, _, _, _, _, _, _, _, _, _, _, _, _, _, _, _, _, _, _, _, _, _] [_, _, _, _] tyS_impl_Stream.sz rfl rfl rfl rfl rfl rfl rfl rfl rfl hk) <| cw_det rfl rfl (fun K hk => AS rfl rfl hk) <| cw_nil <| SQ <| SQ <| RG <| LS (i := 0) [_, _, _, _, _, _, _, _, _, _, _, _, _, _, _, _, _, _, _, _, _, _, _, _, _, _, _, _, _, _, _, _, _, _, _, _, _, _, _] rfl tyS_impl_Stream rfl rfl rfl rfl <| ?_
  refine LS (i := 1) [_, _, _, _, _, _, _, _, _, _, _, _, _, _, _, _, _, _, _, _, _, _, _, _, _, _, _, _, _, _, _, _, _, _, _, _, _, _, _] rfl tyS_impl_Stream rfl rfl rfl rfl <| CV1 rfl fun_laws_eqStream rfl (fun w hs => laws_eqStream ⟨_, _, _, _, _, rfl, ⟨_, _, rfl, hrd2 _ (fun c hc => hs.at_ c (List.mem_append_right _ (List.mem_append_left _ hc)))⟩, ⟨none, 0, rfl, RdL.nil _ _ _ _⟩, ⟨none, 0, rfl, RdL.nil _ _ _ _⟩, ⟨none, 0, rfl, RdL.nil _ _ _ _⟩, ⟨none, 0, rfl, RdL.nil _ _ _ _⟩⟩ ⟨(show (List.replicate n (0 : Int)).length ≤ 134217728 by simp; omega), (Nat.zero_le _), (Nat.zero_le _), (Nat.zero_le _), (Nat.zero_le _), (fun _ h => absurd h List.not_mem_nil)⟩ ⟨_, _, _, _, _, rfl, ⟨_, _, rfl, hrd1 _ (fun c hc => hs.at_ c (List.mem_append_right _ (List.mem_append_right _ (List.mem_append_left _ hc))))⟩, ⟨none, 0, rfl, RdL.nil _ _ _ _⟩, ⟨none, 0, rfl, RdL.nil _ _ _ _⟩, ⟨none, 0, rfl, RdL.nil _ _ _ _⟩, ⟨none, 0, rfl, RdL.nil _ _ _ _⟩⟩) <| ?_
  refine NT rfl rfl <| MV rfl rfl <| ON rfl rfl rfl <| MV rfl rfl <| ON rfl rfl rfl <| MV rfl rfl <| ON rfl rfl rfl <| rw_neqSelfB (by kernel_rfl) rfl rfl rfl <| PF rfl rfl rfl rfl <| ND <| CF rfl rfl <| SK <| SQ <| RG <| AS rfl rfl <| ND <| SQ <| RG <| LS (i := 0) [_, _, _, _, _, _, _, _, _, _, _, _, _, _, _, _, _, _, _, _, _, _, _, _, _, _, _, _, _, _, _, _, _, _, _, _, _, _, _] rfl tyS_impl_Stream rfl rfl rfl rfl <| MV rfl rfl <| rw_ch (G := ch2) (R := ch1 ++ ([])) rfl fun_laws_markStream rfl (((List.Perm.refl _).trans ((List.Perm.refl _).append_left _))) (fun w hs hin hnd => laws_markStream _ hO2 (by first | omega | simp <;> omega) (by decide) (by decide) hin hnd) <| fun vh3 ch3 how3 => ?_
  obtain ⟨rfl, hO3⟩ := how3
  obtain ⟨hn3, hrv3, hR3, hrd3⟩ := hO3.reshape eInt
  refine AS rfl rfl <| ND <| SQ <| RG <| AS rfl rfl <| ND <| SQ <| RG <| LS (i := 0) [_, _, _, _, _, _, _, _, _, _, _, _, _, _, _, _, _, _, _, _, _, _, _, _, _, _, _, _, _, _, _, _, _, _, _, _, _, _, _] rfl tyS_impl_Stream rfl rfl rfl rfl <| MV rfl rfl <| CV1 rfl fun_laws_heldStream rfl (fun w hs => laws_heldStream _ ⟨_, _, hrv3, hrd3 _ (fun c hc => hs.at_ c (List.mem_append_right _ (List.mem_append_left _ hc)))⟩ (by first | omega | simp <;> omega)) <| AS rfl rfl <| ND <| SQ <| SQ <| RG <| MV rfl rfl <| rw_lss rfl rfl rfl <| ?_
  refine ND <| CF rfl (kx_nn _) <| SK <| SQ <| SQ <| RG <| MV rfl rfl <| MV rfl rfl <| NS rfl rfl rfl <| ND <| CF rfl rfl <| SK <| SQ <| gw_drawF [(0, .det), (1, .det), (2, .det), (3, .det), (4, .det), (5, .det), (6, .add), (7, .det), (8, .det), (9, .det), (10, (.free 56 [.int .i64 0, .int .i64 0, .int .i64 0, .int .i64 0, .int .i64 0, .slice none 0 0, .slice none 0 0, .slice none 0 0, .slice none 0 0, .int .i64 0, .int .i64 0, .int .i64 0, .int .i64 0, .int .i64 0, .int .i64 0, .int .i64 0, .int .i64 0, .int .i64 0, .int .i64 0, .slice none 0 0, .int .i64 0, .int .i64 0, .int .i64 0, .int .i64 0, .int .i64 0, .int .i64 0, .int .i64 0, .int .i64 0, .int .i64 0, .int .i64 0, .bool false, .bool false, .bool false, .bool false, .bool false, .bool false, .bool false, .int .i64 0, .bool false]))] [11, 12] 9 mixed rfl (free_det (free_det (free_det (free_det (free_det (free_det (free_add (free_det (free_det (free_det (free_new rfl rfl tyZ_impl_Stream free_nil))))))))))) <| ?_
  refine DT rfl rfl (fun K hk => MV rfl rfl hk) <| DT rfl rfl (fun K hk => MV rfl rfl hk) <| DT rfl rfl (fun K hk => LS (i := 3) [_, _, _, _, _, _, _, _] rfl tyS_laws_Conf rfl rfl rfl rfl hk) <| DT rfl rfl (fun K hk => CV1 rfl fun_laws_toConf rfl (fun w hs => laws_toConf _ w) hk) <| DT rfl rfl (fun K hk => LS (i := 2) [_, _, _, _, _, _, _, _] rfl tyS_laws_Conf rfl rfl rfl rfl hk) <| DT rfl rfl (fun K hk => CV1 rfl fun_laws_toConf rfl (fun w hs => laws_toConf _ w) hk) <| DA rfl rfl (fun K hk => CN1 rfl fun_impl_NewStream rfl (fun w hs => impl_NewStream_T s id o p n hq hc1 hc2 hn hr h64) hk) <| fun vv4 ch4 how4 => ?_
  obtain ⟨sv4, rfl, hO4⟩ := how4
  obtain ⟨R4, rc4, rfl, hR4, hrd4⟩ := hO4.shape eInt
  refine DT rfl rfl (fun K hk => MV rfl rfl hk) <| DT rfl rfl (fun K hk => XT rfl rfl rfl hk) <| DT rfl rfl (fun K hk => XT rfl rfl rfl hk) <| dw_free rfl rfl <| fun b5 => dw_nil <| ?_
  refine ⟨fp_of rfl rfl rfl (fun K hk => XT rfl rfl rfl hk), ?_⟩
  refine cw_take <| cw_st rfl rfl (fun K hk => rw_storeN (i := 0) [_, _, _, _, _, _, _, _, _, _, _, _, _, _, _, _, _, _, _, _, _, _, _, _, _, _, _, _, _, _, _, _, _, _, _, _, _, _, _] [_, _, _, _, _, _, _, _, _, _, _, _, _, _, _, _, _, _, _, _, _, _, _, _, _, _, _, _, _, _, _, _, _, _, _, _, _, _, _] [_, _, _, _, _] tyS_impl_Stream.sz rfl rfl rfl rfl rfl rfl rfl rfl rfl hk) <| cw_det rfl rfl (fun K hk => AS rfl rfl hk) <| cw_nil <| SQ <| SQ <| RG <| LS (i := 0) [_, _, _, _, _, _, _, _, _, _, _, _, _, _, _, _, _, _, _, _, _, _, _, _, _, _, _, _, _, _, _, _, _, _, _, _, _, _, _] rfl tyS_impl_Stream rfl rfl rfl rfl <| ?_
  refine LS (i := 2) [_, _, _, _, _, _, _, _, _, _, _, _, _, _, _, _, _, _, _, _, _, _, _, _, _, _, _, _, _, _, _, _, _, _, _, _, _, _, _] rfl tyS_impl_Stream rfl rfl rfl rfl <| CV1 rfl fun_laws_eqStream rfl (fun w hs => laws_eqStream ⟨_, _, _, _, _, rfl, ⟨_, _, rfl, hrd4 _ (fun c hc => hs.at_ c (List.mem_append_right _ (List.mem_append_left _ hc)))⟩, ⟨none, 0, rfl, RdL.nil _ _ _ _⟩, ⟨none, 0, rfl, RdL.nil _ _ _ _⟩, ⟨none, 0, rfl, RdL.nil _ _ _ _⟩, ⟨none, 0, rfl, RdL.nil _ _ _ _⟩⟩ ⟨(show (List.replicate n (0 : Int)).length ≤ 134217728 by simp; omega), (Nat.zero_le _), (Nat.zero_le _), (Nat.zero_le _), (Nat.zero_le _), (fun _ h => absurd h List.not_mem_nil)⟩ ⟨_, _, _, _, _, rfl, ⟨_, _, rfl, hrd1 _ (fun c hc => hs.at_ c (List.mem_append_right _ (List.mem_append_right _ (List.mem_append_right _ (List.mem_append_left _ hc)))))⟩, ⟨none, 0, rfl, RdL.nil _ _ _ _⟩, ⟨none, 0, rfl, RdL.nil _ _ _ _⟩, ⟨none, 0, rfl, RdL.nil _ _ _ _⟩, ⟨none, 0, rfl, RdL.nil _ _ _ _⟩⟩) <| ?_
  refine NT rfl rfl <| MV rfl rfl <| ON rfl rfl rfl <| MV rfl rfl <| ON rfl rfl rfl <| MV rfl rfl <| ON rfl rfl rfl <| rw_neqSelfB (by kernel_rfl) rfl rfl rfl <| PF rfl rfl rfl rfl <| ND <| CF rfl rfl <| SK <| SQ <| RG <| AS rfl rfl <| ND <| SQ <| RG <| LS (i := 1) [_, _, _, _, _, _, _, _, _, _, _, _, _, _, _, _, _, _, _, _, _, _, _, _, _, _, _, _, _, _, _, _, _, _, _, _, _, _, _] rfl tyS_impl_Stream rfl rfl rfl rfl <| MV rfl rfl <| CV1 rfl fun_laws_heldStream rfl (fun w hs => laws_heldStream _ ⟨_, _, hrv3, hrd3 _ (fun c hc => hs.at_ c (List.mem_append_right _ (List.mem_append_right _ (List.mem_append_left _ hc))))⟩ (by first | omega | simp <;> omega)) <| ?_
  refine AS rfl rfl <| ND <| SQ <| SQ <| RG <| MV rfl rfl <| rw_lss rfl rfl rfl <| ND <| CF rfl (kx_nn _) <| SK <| SQ <| SQ <| RG <| MV rfl rfl <| MV rfl rfl <| NS rfl rfl rfl <| ND <| CF rfl rfl <| SK <| SQ <| RG <| AS rfl rfl <| ND <| ret_cv Try.func5 (res1 Try.func5 rfl (rv_tmp rfl)) <| ?_
  rfl

theorem law_FnExactNewStream_F (s : Bool) (id : Int) (o p : Conf) (hc : (isQuic id && isConf o && isConf p) = false) (w : World) : CV Try.prog 5 [.bool s, .int .i64 id, .agg o.cells.toArray, .agg p.cells.toArray] w (.bool true) := by
  refine cv_of Try.func5 rfl rfl rfl <| SQ <| RG <| BX [_, _, _, _, _, _, _, _] rfl rfl rfl <| fun b1 => BX [_, _, _, _, _, _, _, _] rfl rfl rfl <| fun b2 => AS rfl rfl <| ND <| SQ <| gw_drawF [(0, .det), (1, .det), (2, .det), (3, .det), (4, .det), (5, .det), (6, .det), (7, .det), (8, .det), (9, .det), (10, (.free 56 [.int .i64 0, .int .i64 0, .int .i64 0, .int .i64 0, .int .i64 0, .slice none 0 0, .slice none 0 0, .slice none 0 0, .slice none 0 0, .int .i64 0, .int .i64 0, .int .i64 0, .int .i64 0, .int .i64 0, .int .i64 0, .int .i64 0, .int .i64 0, .int .i64 0, .int .i64 0, .slice none 0 0, .int .i64 0, .int .i64 0, .int .i64 0, .int .i64 0, .int .i64 0, .int .i64 0, .int .i64 0, .int .i64 0, .int .i64 0, .int .i64 0, .bool false, .bool false, .bool false, .bool false, .bool false, .bool false, .bool false, .int .i64 0, .bool false]))] [11, 12] 9 mixed rfl (free_det (free_det (free_det (free_det (free_det (free_det (free_det (free_det (free_det (free_det (free_new rfl rfl tyZ_impl_Stream free_nil))))))))))) <| ?_
  refine DT rfl rfl (fun K hk => MV rfl rfl hk) <| DT rfl rfl (fun K hk => MV rfl rfl hk) <| DT rfl rfl (fun K hk => LS (i := 1) [_, _, _, _, _, _, _, _] rfl tyS_laws_Conf rfl rfl rfl rfl hk) <| DT rfl rfl (fun K hk => CV1 rfl fun_laws_toConf rfl (fun w hs => laws_toConf _ w) hk) <| DT rfl rfl (fun K hk => LS (i := 0) [_, _, _, _, _, _, _, _] rfl tyS_laws_Conf rfl rfl rfl rfl hk) <| DT rfl rfl (fun K hk => CV1 rfl fun_laws_toConf rfl (fun w hs => laws_toConf _ w) hk) <| DT rfl rfl (fun K hk => CV1 rfl fun_spec_NewStream rfl (fun w hs => spec_NewStream_F s id o p hc w) hk) <| ?_
  refine DT rfl rfl (fun K hk => MV rfl rfl hk) <| DT rfl rfl (fun K hk => XT rfl rfl rfl hk) <| DT rfl rfl (fun K hk => XT rfl rfl rfl hk) <| dw_free rfl rfl <| fun b3 => dw_nil <| ?_
  refine ⟨fp_of rfl rfl rfl (fun K hk => XT rfl rfl rfl hk), ?_⟩
  refine cw_take <| cw_st rfl rfl (fun K hk => rw_storeN (i := 0) [_, _, _, _, _, _, _, _, _, _, _, _, _, _, _, _, _, _, _, _, _, _, _, _, _, _, _, _, _, _, _, _, _, _, _, _, _, _, _] [_, _, _, _, _, _, _, _, _, _, _, _, _, _, _, _, _, _, _, _, _, _, _, _, _, _, _, _, _, _, _, _, _, _, _, _, _, _, _] [_, _, _] tyS_impl_Stream.sz rfl rfl rfl rfl rfl rfl rfl rfl rfl hk) <| cw_det rfl rfl (fun K hk => AS rfl rfl hk) <| cw_nil <| SQ <| gw_drawF [(0, .det), (1, .det), (2, .det), (3, .det), (4, .det), (5, .det), (6, .det), (7, .det), (8, .det), (9, .det), (10, (.free 56 [.int .i64 0, .int .i64 0, .int .i64 0, .int .i64 0, .int .i64 0, .slice none 0 0, .slice none 0 0, .slice none 0 0, .slice none 0 0, .int .i64 0, .int .i64 0, .int .i64 0, .int .i64 0, .int .i64 0, .int .i64 0, .int .i64 0, .int .i64 0, .int .i64 0, .int .i64 0, .slice none 0 0, .int .i64 0, .int .i64 0, .int .i64 0, .int .i64 0, .int .i64 0, .int .i64 0, .int .i64 0, .int .i64 0, .int .i64 0, .int .i64 0, .bool false, .bool false, .bool false, .bool false, .bool false, .bool false, .bool false, .int .i64 0, .bool false]))] [11, 12] 9 mixed rfl (free_det (free_det (free_det (free_det (free_det (free_det (free_det (free_det (free_det (free_det (free_new rfl rfl tyZ_impl_Stream free_nil))))))))))) <| ?_
  refine DT rfl rfl (fun K hk => MV rfl rfl hk) <| DT rfl rfl (fun K hk => MV rfl rfl hk) <| DT rfl rfl (fun K hk => LS (i := 2) [_, _, _, _, _, _, _, _] rfl tyS_laws_Conf rfl rfl rfl rfl hk) <| DT rfl rfl (fun K hk => CV1 rfl fun_laws_toConf rfl (fun w hs => laws_toConf _ w) hk) <| DT rfl rfl (fun K hk => LS (i := 1) [_, _, _, _, _, _, _, _] rfl tyS_laws_Conf rfl rfl rfl rfl hk) <| DT rfl rfl (fun K hk => CV1 rfl fun_laws_toConf rfl (fun w hs => laws_toConf _ w) hk) <| DT rfl rfl (fun K hk => CV1 rfl fun_impl_NewStream rfl (fun w hs => impl_NewStream_F s id o p hc w) hk) <| ?_
  refine DT rfl rfl (fun K hk => MV rfl rfl hk) <| DT rfl rfl (fun K hk => XT rfl rfl rfl hk) <| DT rfl rfl (fun K hk => XT rfl rfl rfl hk) <| dw_free rfl rfl <| fun b4 => dw_nil <| ?_
  refine ⟨fp_of rfl rfl rfl (fun K hk => XT rfl rfl rfl hk), ?_⟩
  refine cw_take <| cw_st rfl rfl (fun K hk => rw_storeN (i := 0) [_, _, _, _, _, _, _, _, _, _, _, _, _, _, _, _, _, _, _, _, _, _, _, _, _, _, _, _, _, _, _, _, _, _, _, _, _, _, _] [_, _, _, _, _, _, _, _, _, _, _, _, _, _, _, _, _, _, _, _, _, _, _, _, _, _, _, _, _, _, _, _, _, _, _, _, _, _, _] [_, _, _, _] tyS_impl_Stream.sz rfl rfl rfl rfl rfl rfl rfl rfl rfl hk) <| cw_det rfl rfl (fun K hk => AS rfl rfl hk) <| cw_nil <| SQ <| SQ <| RG <| LS (i := 0) [_, _, _, _, _, _, _, _, _, _, _, _, _, _, _, _, _, _, _, _, _, _, _, _, _, _, _, _, _, _, _, _, _, _, _, _, _, _, _] rfl tyS_impl_Stream rfl rfl rfl rfl <| ?_
  refine LS (i := 1) [_, _, _, _, _, _, _, _, _, _, _, _, _, _, _, _, _, _, _, _, _, _, _, _, _, _, _, _, _, _, _, _, _, _, _, _, _, _, _] rfl tyS_impl_Stream rfl rfl rfl rfl <| CV1 rfl fun_laws_eqStream rfl (fun w hs => laws_eqStream ⟨_, _, _, _, _, rfl, ⟨none, 0, rfl, RdL.nil _ _ _ _⟩, ⟨none, 0, rfl, RdL.nil _ _ _ _⟩, ⟨none, 0, rfl, RdL.nil _ _ _ _⟩, ⟨none, 0, rfl, RdL.nil _ _ _ _⟩, ⟨none, 0, rfl, RdL.nil _ _ _ _⟩⟩ ⟨(Nat.zero_le _), (Nat.zero_le _), (Nat.zero_le _), (Nat.zero_le _), (Nat.zero_le _), (fun _ h => absurd h List.not_mem_nil)⟩ ⟨_, _, _, _, _, rfl, ⟨none, 0, rfl, RdL.nil _ _ _ _⟩, ⟨none, 0, rfl, RdL.nil _ _ _ _⟩, ⟨none, 0, rfl, RdL.nil _ _ _ _⟩, ⟨none, 0, rfl, RdL.nil _ _ _ _⟩, ⟨none, 0, rfl, RdL.nil _ _ _ _⟩⟩) <| ?_
  refine NT rfl rfl <| MV rfl rfl <| ON rfl rfl rfl <| MV rfl rfl <| ON rfl rfl rfl <| MV rfl rfl <| ON rfl rfl rfl <| rw_neqSelfB (by kernel_rfl) rfl rfl rfl <| PF rfl rfl rfl rfl <| ND <| CF rfl rfl <| SK <| SQ <| RG <| AS rfl rfl <| ND <| SQ <| RG <| LS (i := 0) [_, _, _, _, _, _, _, _, _, _, _, _, _, _, _, _, _, _, _, _, _, _, _, _, _, _, _, _, _, _, _, _, _, _, _, _, _, _, _] rfl tyS_impl_Stream rfl rfl rfl rfl <| MV rfl rfl <| rw_ch (G := []) (R := []) rfl fun_laws_markStream rfl (List.Perm.refl _) (fun w hs hin hnd => laws_markStream (l := []) (c := 0) (A := none) zeroStream ⟨[], .inl ⟨none, rfl, rfl, rfl⟩⟩ (by decide) (by decide) (by decide) hin hnd) <| fun vz chz hz => ?_
  obtain ⟨rfl, hz⟩ := hz
  refine AS rfl rfl <| ND <| SQ <| RG <| AS rfl rfl <| ND <| SQ <| RG <| LS (i := 0) [_, _, _, _, _, _, _, _, _, _, _, _, _, _, _, _, _, _, _, _, _, _, _, _, _, _, _, _, _, _, _, _, _, _, _, _, _, _, _] rfl tyS_impl_Stream rfl rfl rfl rfl <| MV rfl rfl <| CV1 rfl fun_laws_heldStream rfl (fun w hs => laws_heldStream (n := 0) zeroStream ⟨none, 0, rfl, RdL.nil _ _ _ _⟩ (by decide)) <| AS rfl rfl <| ND <| SQ <| SQ <| RG <| MV rfl rfl <| rw_lss rfl rfl rfl <| ND <| CF rfl (kx_nn _) <| SK <| SQ <| SQ <| RG <| MV rfl rfl <| ?_
  refine MV rfl rfl <| NS rfl rfl rfl <| ND <| CF rfl rfl <| SK <| SQ <| gw_drawF [(0, .det), (1, .det), (2, .det), (3, .det), (4, .det), (5, .det), (6, .det), (7, .det), (8, .det), (9, .det), (10, (.free 56 [.int .i64 0, .int .i64 0, .int .i64 0, .int .i64 0, .int .i64 0, .slice none 0 0, .slice none 0 0, .slice none 0 0, .slice none 0 0, .int .i64 0, .int .i64 0, .int .i64 0, .int .i64 0, .int .i64 0, .int .i64 0, .int .i64 0, .int .i64 0, .int .i64 0, .int .i64 0, .slice none 0 0, .int .i64 0, .int .i64 0, .int .i64 0, .int .i64 0, .int .i64 0, .int .i64 0, .int .i64 0, .int .i64 0, .int .i64 0, .int .i64 0, .bool false, .bool false, .bool false, .bool false, .bool false, .bool false, .bool false, .int .i64 0, .bool false]))] [11, 12] 9 mixed rfl (free_det (free_det (free_det (free_det (free_det (free_det (free_det (free_det (free_det (free_det (free_new rfl rfl tyZ_impl_Stream free_nil))))))))))) <| ?_
  refine DT rfl rfl (fun K hk => MV rfl rfl hk) <| DT rfl rfl (fun K hk => MV rfl rfl hk) <| DT rfl rfl (fun K hk => LS (i := 3) [_, _, _, _, _, _, _, _] rfl tyS_laws_Conf rfl rfl rfl rfl hk) <| DT rfl rfl (fun K hk => CV1 rfl fun_laws_toConf rfl (fun w hs => laws_toConf _ w) hk) <| DT rfl rfl (fun K hk => LS (i := 2) [_, _, _, _, _, _, _, _] rfl tyS_laws_Conf rfl rfl rfl rfl hk) <| DT rfl rfl (fun K hk => CV1 rfl fun_laws_toConf rfl (fun w hs => laws_toConf _ w) hk) <| DT rfl rfl (fun K hk => CV1 rfl fun_impl_NewStream rfl (fun w hs => impl_NewStream_F s id o p hc w) hk) <| ?_
  refine DT rfl rfl (fun K hk => MV rfl rfl hk) <| DT rfl rfl (fun K hk => XT rfl rfl rfl hk) <| DT rfl rfl (fun K hk => XT rfl rfl rfl hk) <| dw_free rfl rfl <| fun b5 => dw_nil <| ?_
  refine ⟨fp_of rfl rfl rfl (fun K hk => XT rfl rfl rfl hk), ?_⟩
  refine cw_take <| cw_st rfl rfl (fun K hk => rw_storeN (i := 0) [_, _, _, _, _, _, _, _, _, _, _, _, _, _, _, _, _, _, _, _, _, _, _, _, _, _, _, _, _, _, _, _, _, _, _, _, _, _, _] [_, _, _, _, _, _, _, _, _, _, _, _, _, _, _, _, _, _, _, _, _, _, _, _, _, _, _, _, _, _, _, _, _, _, _, _, _, _, _] [_, _, _, _, _] tyS_impl_Stream.sz rfl rfl rfl rfl rfl rfl rfl rfl rfl hk) <| cw_det rfl rfl (fun K hk => AS rfl rfl hk) <| cw_nil <| SQ <| SQ <| RG <| LS (i := 0) [_, _, _, _, _, _, _, _, _, _, _, _, _, _, _, _, _, _, _, _, _, _, _, _, _, _, _, _, _, _, _, _, _, _, _, _, _, _, _] rfl tyS_impl_Stream rfl rfl rfl rfl <| ?_
  refine LS (i := 2) [_, _, _, _, _, _, _, _, _, _, _, _, _, _, _, _, _, _, _, _, _, _, _, _, _, _, _, _, _, _, _, _, _, _, _, _, _, _, _] rfl tyS_impl_Stream rfl rfl rfl rfl <| CV1 rfl fun_laws_eqStream rfl (fun w hs => laws_eqStream ⟨_, _, _, _, _, rfl, ⟨none, 0, rfl, RdL.nil _ _ _ _⟩, ⟨none, 0, rfl, RdL.nil _ _ _ _⟩, ⟨none, 0, rfl, RdL.nil _ _ _ _⟩, ⟨none, 0, rfl, RdL.nil _ _ _ _⟩, ⟨none, 0, rfl, RdL.nil _ _ _ _⟩⟩ ⟨(Nat.zero_le _), (Nat.zero_le _), (Nat.zero_le _), (Nat.zero_le _), (Nat.zero_le _), (fun _ h => absurd h List.not_mem_nil)⟩ ⟨_, _, _, _, _, rfl, ⟨none, 0, rfl, RdL.nil _ _ _ _⟩, ⟨none, 0, rfl, RdL.nil _ _ _ _⟩, ⟨none, 0, rfl, RdL.nil _ _ _ _⟩, ⟨none, 0, rfl, RdL.nil _ _ _ _⟩, ⟨none, 0, rfl, RdL.nil _ _ _ _⟩⟩) <| ?_
  refine NT rfl rfl <| MV rfl rfl <| ON rfl rfl rfl <| MV rfl rfl <| ON rfl rfl rfl <| MV rfl rfl <| ON rfl rfl rfl <| rw_neqSelfB (by kernel_rfl) rfl rfl rfl <| PF rfl rfl rfl rfl <| ND <| CF rfl rfl <| SK <| SQ <| RG <| AS rfl rfl <| ND <| SQ <| RG <| LS (i := 1) [_, _, _, _, _, _, _, _, _, _, _, _, _, _, _, _, _, _, _, _, _, _, _, _, _, _, _, _, _, _, _, _, _, _, _, _, _, _, _] rfl tyS_impl_Stream rfl rfl rfl rfl <| MV rfl rfl <| CV1 rfl fun_laws_heldStream rfl (fun w hs => laws_heldStream (n := 0) zeroStream ⟨none, 0, rfl, RdL.nil _ _ _ _⟩ (by decide)) <| ?_
  refine AS rfl rfl <| ND <| SQ <| SQ <| RG <| MV rfl rfl <| rw_lss rfl rfl rfl <| ND <| CF rfl (kx_nn _) <| SK <| SQ <| SQ <| RG <| MV rfl rfl <| MV rfl rfl <| NS rfl rfl rfl <| ND <| CF rfl rfl <| SK <| SQ <| RG <| AS rfl rfl <| ND <| ret_cv Try.func5 (res1 Try.func5 rfl (rv_tmp rfl)) <| ?_
  rfl

theorem law_FnExactNewStream (s : Bool) (id : Int) (o p : Conf) (w : World) : CV Try.prog 5 [.bool s, .int .i64 id, .agg o.cells.toArray, .agg p.cells.toArray] w (.bool true) := by
  cases h0 : isQuic id with
  | false => exact law_FnExactNewStream_F s id o p (by rw [h0]; rfl) w
  | true =>
    cases h1 : isConf o with
    | false => exact law_FnExactNewStream_F s id o p (by rw [h0, h1]; rfl) w
    | true =>
      cases h2 : isConf p with
      | false => exact law_FnExactNewStream_F s id o p (by rw [h0, h1, h2]; rfl) w
      | true =>
        obtain ⟨n, hn, h64, hr⟩ := ring_nat (conf_ring h1)
        exact law_FnExactNewStream_T s id o p n h0 h1 h2 hn hr h64 w
end Go.Proofs.Ytmoegjhihjgmgaa
