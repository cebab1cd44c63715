/- New credits, windows, counts, allowances, connections. No program in sight. -/
import Derived.Test.YtbhnekiclbfmgaaGreatValS
namespace Go.Proofs.YtbhnekiclbfmgaaGreat
open SL Go.RowKit
theorem SL.gw_loop1 {C : Cx} {k : List Item} {env : Env} {B F : List Ck} {c : Code} (h : GW C (.code c :: .inLoop c :: k) env B F) : GW C (.code (.loop c) :: k) env B F :=
  fun E a w hd hf hs => Good.step (fun _ _ => step_loop) (h E a w hd hf hs)
def newCredit (n : Int) : Credit := bif isQuic n then ⟨n, 0, -1, -1⟩ else ⟨0, 0, 0, 0⟩
def newWindow (s m : Int) : Window := bif within m 1 4096 && within s 1 m then ⟨s, m, s, 0, 0, 0⟩ else ⟨0, 0, 0, 0, 0, 0⟩
end Go.Proofs.YtbhnekiclbfmgaaGreat
