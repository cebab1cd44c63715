/- Priorities read from text: pieces between commas, trimmed, one after the other. No program in sight. -/
import Derived.Test.YtbhnekiclbfmgaaGreatSls
import Derived.Lib.Split
import Derived.Lib.SplitLaws
import Derived.Lib.TrimByte
namespace Go.Proofs.YtbhnekiclbfmgaaGreat
open SL Go.RowKit
def cutFrom (c : UInt8) : List UInt8 → List UInt8 → List (List UInt8)
  | p, [] => [p]
  | p, b :: l => bif b == c then p :: cutFrom c [] l else cutFrom c (p ++ [b]) l
def pieces (l : List UInt8) : List (List UInt8) := cutFrom 44 [] l
/-! one piece -/
/-! lists of strings, steps -/
abbrev mkS (t : List UInt8) : ByteArray := ⟨t.toArray⟩
theorem str_get {L : List (List UInt8)} {i : Nat} {x : ByteArray} (h : (L.map mkS)[i]? = some x) : ∃ t, L[i]? = some t ∧ x = mkS t := by
  rw [List.getElem?_map] at h
  cases hl : L[i]? with
  | none => simp [hl] at h
  | some t => simp [hl] at h; exact ⟨t, rfl, h.symm⟩
section
variable {p : Priority} {t : List UInt8} {a b c : UInt8}
end
end Go.Proofs.YtbhnekiclbfmgaaGreat
