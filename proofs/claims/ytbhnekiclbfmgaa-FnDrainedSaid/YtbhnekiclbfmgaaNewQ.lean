/- New credits, windows, counts, allowances, connections. No program in sight. -/
import Derived.Test.YtbhnekiclbfmgaaValS
namespace Go.Proofs.Ytbhnekiclbfmgaa
open SL Go.RowKit
theorem SL.gw_loop1 {C : Cx} {k : List Item} {env : Env} {B F : List Ck} {c : Code} (h : GW C (.code c :: .inLoop c :: k) env B F) : GW C (.code (.loop c) :: k) env B F :=
  fun E a w hd hf hs => Good.step (fun _ _ => step_loop) (h E a w hd hf hs)
theorem ring_power' (n : Int) : isRingSize n = (decide (0 < n) && decide (n ≤ 64) && (bits .and .i64 n (w64 (n - 1)) == 0)) := by
  unfold isRingSize within
  by_cases h1 : (1 : Int) ≤ n <;> by_cases h2 : n ≤ 64 <;> simp [h1, h2, show ((0 : Int) < n) = (1 ≤ n) from rfl]
def newCredit (n : Int) : Credit := bif isQuic n then ⟨n, 0, -1, -1⟩ else ⟨0, 0, 0, 0⟩
def newWindow (s m : Int) : Window := bif within m 1 4096 && within s 1 m then ⟨s, m, s, 0, 0, 0⟩ else ⟨0, 0, 0, 0, 0, 0⟩
def newCount (n : Int) : Count := bif within n 0 1152921504606846976 then ⟨n, 0, -1⟩ else ⟨0, 0, 0⟩
def newAllow (n : Int) : Allow := bif within n 0 1000 then ⟨n, n, 0, 0⟩ else ⟨0, 0, 0, 0⟩
def newConn (s : Bool) (o p : Conf) : Conn :=
  ⟨s, o, p, [], newCredit p.total, newWindow o.total o.totalMost, newCount p.bidi, newCount p.uni, newAllow o.bidi, newAllow o.uni, false, false, false, -1, 0, [], 0, 0⟩
def zeroConn : Conn :=
  ⟨false, ⟨0, 0, 0, 0, 0, 0, 0, 0⟩, ⟨0, 0, 0, 0, 0, 0, 0, 0⟩, [], ⟨0, 0, 0, 0⟩, ⟨0, 0, 0, 0, 0, 0⟩, ⟨0, 0, 0⟩, ⟨0, 0, 0⟩, ⟨0, 0, 0, 0⟩, ⟨0, 0, 0, 0⟩, false, false, false, 0, 0, [], 0, 0⟩
end Go.Proofs.Ytbhnekiclbfmgaa
