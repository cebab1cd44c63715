/-
  DERIVED. GIVEN WITH THE SEED: THE CARDS: each row of YtajcfmibcnibpaaDoorRows.lean that lists a variable, with what it lists TIED to the program's text (the seventh form; the later family's looks); each row that meets fmt, with fmt's text TOLD by the authors' own Lean function (tested against real Go, not proved from fmt's source: count such statements apart). THE CARD IS WHAT COUNTS. Prove the row's statement (the work); the ties are given (YtajcfmibcnibpaaDoorTie.lean); close each card by the builder's one call (the guide's Derived/Test/ToyasCard.lean, 'card_holds'). Laid BY PROGRAM, IN A SANDBOX (cutbox-door.mjs). By AI agents, Wed Nov 11 2026. No macro, syntax, notation, axiom, sorry.
-/
import Derived.Test.YtajcfmibcnibpaaDoorRows
import GoSem.ClaimSeven
namespace Go.Proofs.YtajcfmibcnibpaaDoor
namespace Rows

/-- THE TIED CARD OF 'laws.FnExactFormatPriority'. -/
def fnExactFormatPriorityCard : Claim7 := { stood := { row := fnExactFormatPriorityRow, standIns := [], harness := (true, "a46a368b2a7d2d44a41c09a1e52f41538a47ff9b24a0f3da861f178807bbc5ef"), looks := false }, kinds := [], alts := [], laidByText := true, laidKinds := [.data, .data, .data], laidTests := true, laidLooks := .later }
def FnExactFormatPriorityCardSaid : Prop := Claim7.holds Tryd.pinned (.plain (OpenSpec.ofChange fnExactFormatPrioritySpec)) fnExactFormatPriorityCard

/-- THE SECOND FORM's CARD OF 'laws.FnExactFormatPriority'. -/
def fnExactFormatPriorityUptoCard : Claim7 := { stood := { row := fnExactFormatPriorityUptoRow, standIns := [], harness := (true, "a46a368b2a7d2d44a41c09a1e52f41538a47ff9b24a0f3da861f178807bbc5ef"), looks := false }, kinds := [], alts := [], laidByText := true, laidKinds := [.data, .data, .data], laidTests := true, laidLooks := .later }
def FnExactFormatPriorityUptoCardSaid : Prop := Claim7.holds Tryd.pinned (.plain (OpenSpec.upto fnExactFormatPrioritySpec)) fnExactFormatPriorityUptoCard
end Rows
end Go.Proofs.YtajcfmibcnibpaaDoor
