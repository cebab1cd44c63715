/- New rings, senders, streams. No program in sight. -/
import Derived.Test.YtbhnekiclbfmgaaNewQ
import Derived.Test.YtbhnekiclbfmgaaSlh
namespace Go.Proofs.Ytbhnekiclbfmgaa
open SL Go.RowKit
def isUni (id : Int) : Bool := isQuic id && bits .and .i64 id 2 == 2
def isServerId (id : Int) : Bool := isQuic id && bits .and .i64 id 1 == 1
def isOwn (s : Bool) (id : Int) : Bool := isQuic id && (isServerId id == s)
def canSendOn (s : Bool) (id : Int) : Bool := isQuic id && (!isUni id || isOwn s id)
def canRecvOn (s : Bool) (id : Int) : Bool := isQuic id && (!isUni id || !isOwn s id)
def newRing (n : Nat) : Ring := ⟨(n : Int), 0, 0, List.replicate n 0⟩
def newSender (n : Nat) : Sender := ⟨0, newRing n, [], [], [], -1, 0, 0, 0⟩
def newReceiver : Receiver := ⟨0, ⟨0, []⟩, -1, 0, 0⟩
def newStream (s : Bool) (id : Int) (o p : Conf) (n : Nat) : Stream :=
  ⟨id, newSender n, newCredit p.window, newReceiver, newWindow o.window o.windowMost, defaultPriority, canSendOn s id, canRecvOn s id, false, false, false, false, 0, false⟩
def zeroStream : Stream := ⟨0, ⟨0, ⟨0, 0, 0, []⟩, [], [], [], 0, 0, 0, 0⟩, ⟨0, 0, 0, 0⟩, ⟨0, ⟨0, []⟩, 0, 0, 0⟩, ⟨0, 0, 0, 0, 0, 0⟩, ⟨0, false⟩, false, false, false, false, false, false, 0, false⟩
theorem ring_nat {r : Int} (h : isRingSize r = true) : ∃ n : Nat, r = (n : Int) ∧ n ≤ 64 ∧ isRingSize (n : Int) = true := by
  have h1 : 1 ≤ r ∧ r ≤ 64 := by
    simp only [isRingSize, within, Bool.and_eq_true, decide_eq_true_eq] at h; omega
  refine ⟨r.toNat, by omega, by omega, ?_⟩
  rw [show ((r.toNat : Nat) : Int) = r by omega]; exact h
theorem conf_ring {o : Conf} (h : isConf o = true) : isRingSize o.ring = true := by
  simp only [isConf, Bool.and_eq_true] at h; exact h.1.1.1.1.1.1.1
end Go.Proofs.Ytbhnekiclbfmgaa
