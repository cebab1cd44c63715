/-
  DERIVED. GIVEN WITH THE SEED: THE CARDS: each row of YtcobcopmkafcoaaDoorRows.lean that lists a variable, with what it lists TIED to the program's text (the seventh form; the later family's looks); each row that meets fmt, with fmt's text TOLD by the authors' own Lean function (tested against real Go, not proved from fmt's source: count such statements apart). THE CARD IS WHAT COUNTS. Prove the row's statement (the work); the ties are given (YtcobcopmkafcoaaDoorTie.lean); close each card by the builder's one call (the guide's Derived/Test/ToyasCard.lean, 'card_holds'). Laid BY PROGRAM, IN A SANDBOX (cutbox-door.mjs). By AI agents, Wed Nov 11 2026. No macro, syntax, notation, axiom, sorry.
-/
import Derived.Test.YtcobcopmkafcoaaDoorRows
import GoSem.ClaimSeven
namespace Go.Proofs.YtcobcopmkafcoaaDoor
namespace Rows

/-- THE TIED CARD OF 'laws.FnPriorities'. -/
def fnPrioritiesCard : Claim7 := { stood := { row := fnPrioritiesRow, standIns := [], harness := (true, "d1d920bcda5e7cb69198123630758c7573a027bc92c7efa5b1eafe6c6e1ae7bb"), looks := false }, kinds := [], alts := [], laidByText := true, laidKinds := [.data, .data, .data, .data, .pinned], laidTests := true, laidLooks := .later }
def FnPrioritiesCardSaid : Prop := Claim7.holds Tryd.pinned (.plain (OpenSpec.ofChange fnPrioritiesSpec)) fnPrioritiesCard

/-- THE SECOND FORM's CARD OF 'laws.FnPriorities'. -/
def fnPrioritiesUptoCard : Claim7 := { stood := { row := fnPrioritiesUptoRow, standIns := [], harness := (true, "d1d920bcda5e7cb69198123630758c7573a027bc92c7efa5b1eafe6c6e1ae7bb"), looks := false }, kinds := [], alts := [], laidByText := true, laidKinds := [.data, .data, .data, .data, .pinned], laidTests := true, laidLooks := .later }
def FnPrioritiesUptoCardSaid : Prop := Claim7.holds Tryd.pinned (.plain (OpenSpec.upto fnPrioritiesSpec)) fnPrioritiesUptoCard
end Rows
end Go.Proofs.YtcobcopmkafcoaaDoor
