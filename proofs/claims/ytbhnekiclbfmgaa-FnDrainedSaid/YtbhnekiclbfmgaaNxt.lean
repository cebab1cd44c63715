/- What piece comes next: whether there is one. No program in sight. -/
import Derived.Test.YtbhnekiclbfmgaaSly
namespace Go.Proofs.Ytbhnekiclbfmgaa
open SL Go.RowKit
def nextHigh (r : Range) (m lim : Int) : Int := bif decide (m < w64 (min r.high lim - r.low)) then w64 (r.low + max m 0) else min r.high lim
def nextOkS (b : Bool) (s : Sender) (m lim : Int) : Bool :=
  (b && !decide (2 < s.state)) && (match s.pending with | [] => s.fin == 1 | r :: _ => !decide (min r.high lim ≤ r.low) && !decide (nextHigh r m lim ≤ r.low))
theorem nextOkS_cons {b : Bool} {s : Sender} {m lim : Int} {r : Range} (h : s.pending[0]? = some r) : nextOkS b s m lim = ((b && !decide (2 < s.state)) && (!decide (min r.high lim ≤ r.low) && !decide (nextHigh r m lim ≤ r.low))) := by
  unfold nextOkS
  cases hp : s.pending with
  | nil => rw [hp] at h; cases h
  | cons y l => rw [hp] at h; simp at h; subst h; rfl
theorem nextOkS_nil {b : Bool} {s : Sender} {m lim : Int} (h : s.pending = []) : nextOkS b s m lim = ((b && !decide (2 < s.state)) && s.fin == 1) := by
  unfold nextOkS; rw [h]
end Go.Proofs.Ytbhnekiclbfmgaa
