/-
  DERIVED. GIVEN WITH THE SEED: THE CARDS: each row of YtmjdcdimkkabmaaDoorRows.lean that lists a variable, with what it lists TIED to the program's text (the seventh form; the later family's looks); each row that meets fmt, with fmt's text TOLD by the authors' own Lean function (tested against real Go, not proved from fmt's source: count such statements apart). THE CARD IS WHAT COUNTS. Prove the row's statement (the work); the ties are given (YtmjdcdimkkabmaaDoorTie.lean); close each card by the builder's one call (the guide's Derived/Test/ToyasCard.lean, 'card_holds'). Laid BY PROGRAM, IN A SANDBOX (cutbox-door.mjs). By AI agents, Wed Nov 11 2026. No macro, syntax, notation, axiom, sorry.
-/
import Derived.Test.YtmjdcdimkkabmaaDoorRows
import GoSem.ClaimSeven
namespace Go.Proofs.YtmjdcdimkkabmaaDoor
namespace Rows

/-- THE TIED CARD OF 'laws.FnExactParsePriority'. -/
def fnExactParsePriorityCard : Claim7 := { stood := { row := fnExactParsePriorityRow, standIns := [], harness := (true, "3e06e7a4b2ed651669901199a8c64cd5161555c1f239493c070aff1fb9dcb04f"), looks := false }, kinds := [], alts := [], laidByText := true, laidKinds := [.data, .pinned], laidTests := true, laidLooks := .later }
def FnExactParsePriorityCardSaid : Prop := Claim7.holds Tryd.pinned (.plain (OpenSpec.ofChange fnExactParsePrioritySpec)) fnExactParsePriorityCard

/-- THE TIED CARD OF 'laws.FnExactMergePriority'. -/
def fnExactMergePriorityCard : Claim7 := { stood := { row := fnExactMergePriorityRow, standIns := [], harness := (true, "3e06e7a4b2ed651669901199a8c64cd5161555c1f239493c070aff1fb9dcb04f"), looks := false }, kinds := [], alts := [], laidByText := true, laidKinds := [.data, .pinned], laidTests := true, laidLooks := .later }
def FnExactMergePriorityCardSaid : Prop := Claim7.holds Tryd.pinned (.plain (OpenSpec.ofChange fnExactMergePrioritySpec)) fnExactMergePriorityCard

/-- THE SECOND FORM's CARD OF 'laws.FnExactParsePriority'. -/
def fnExactParsePriorityUptoCard : Claim7 := { stood := { row := fnExactParsePriorityUptoRow, standIns := [], harness := (true, "3e06e7a4b2ed651669901199a8c64cd5161555c1f239493c070aff1fb9dcb04f"), looks := false }, kinds := [], alts := [], laidByText := true, laidKinds := [.data, .pinned], laidTests := true, laidLooks := .later }
def FnExactParsePriorityUptoCardSaid : Prop := Claim7.holds Tryd.pinned (.plain (OpenSpec.upto fnExactParsePrioritySpec)) fnExactParsePriorityUptoCard

/-- THE SECOND FORM's CARD OF 'laws.FnExactMergePriority'. -/
def fnExactMergePriorityUptoCard : Claim7 := { stood := { row := fnExactMergePriorityUptoRow, standIns := [], harness := (true, "3e06e7a4b2ed651669901199a8c64cd5161555c1f239493c070aff1fb9dcb04f"), looks := false }, kinds := [], alts := [], laidByText := true, laidKinds := [.data, .pinned], laidTests := true, laidLooks := .later }
def FnExactMergePriorityUptoCardSaid : Prop := Claim7.holds Tryd.pinned (.plain (OpenSpec.upto fnExactMergePrioritySpec)) fnExactMergePriorityUptoCard
end Rows
end Go.Proofs.YtmjdcdimkkabmaaDoor
