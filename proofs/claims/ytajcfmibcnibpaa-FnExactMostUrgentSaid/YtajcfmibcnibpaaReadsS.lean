/- The arguments of the laws, read. -/
import Derived.Test.YtajcfmibcnibpaaRd
import Derived.Test.YtajcfmibcnibpaaElems
import Derived.Test.YtajcfmibcnibpaaProg
import Derived.Test.YtajcfmibcnibpaaChecked
namespace Go.Proofs.Ytajcfmibcnibpaa
open SL Go.ChangeShapes Go.WideShapes Go.ChangeAt Go.RowKit
theorem row_own : ownKnob Try.prog.godebug = none := by kernel_rfl
theorem row_laid : laidOutB Try.prog = true := by kernel_rfl
theorem read_laws_Priority {H : Type} {enc : TypeId × Value → H} {W : World} {base : Nat} {sp : Nat → Bool} {held : Bool} {fuel : Nat} {cs : List Value} {x : DataW H × List MemPlace}
    (h : DataW.trod enc Try.prog W base sp held fuel 67 cs = some x) : ∃ c : Priority, cs = c.cells := by
  obtain ⟨xs, n, _, _, hl, hxl, hg⟩ := DataW.trod_struct Try.underlying67 h
  have hl : cs.length = 2 := hl.trans (by kernel_rfl)
  obtain ⟨y0, g0⟩ := fld hg hxl 0 rfl (k := 1) (by kernel_rfl)
  obtain ⟨a0, e0, _, _⟩ := DataW.trod_int Try.underlying3 g0
  obtain ⟨y1, g1⟩ := fld hg hxl 1 rfl (k := 1) (by kernel_rfl)
  obtain ⟨a1, e1, _⟩ := DataW.trod_bool Try.underlying4 g1
  exact ⟨⟨a0, a1⟩, (cut_cons 0 1 e0 (cut_cons 1 1 e1 (cut_end hl)))⟩

theorem read_laws_Candidate {H : Type} {enc : TypeId × Value → H} {W : World} {base : Nat} {sp : Nat → Bool} {held : Bool} {fuel : Nat} {cs : List Value} {x : DataW H × List MemPlace}
    (h : DataW.trod enc Try.prog W base sp held fuel 69 cs = some x) : ∃ c : Candidate, cs = c.cells := by
  obtain ⟨xs, n, _, _, hl, hxl, hg⟩ := DataW.trod_struct Try.underlying69 h
  have hl : cs.length = 3 := hl.trans (by kernel_rfl)
  obtain ⟨y0, g0⟩ := fld hg hxl 0 rfl (k := 1) (by kernel_rfl)
  obtain ⟨a0, e0, _, _⟩ := DataW.trod_int Try.underlying3 g0
  obtain ⟨y1, g1⟩ := fld hg hxl 1 rfl (k := 2) (by kernel_rfl)
  obtain ⟨a1, e1⟩ := read_laws_Priority g1
  exact ⟨⟨a0, a1⟩, (cut_cons 0 1 e0 (cut_cons 1 2 e1 (cut_end hl)))⟩

theorem readS_Candidate {H : Type} {enc : TypeId × Value → H} {W : World} {base : Nat} {sp : Nat → Bool} {held : Bool} {fuel : Nat} {cs : List Value} {x : DataW H × List MemPlace}
    (h : DataW.trod enc Try.prog W base sp held fuel 22 cs = some x) : ∃ (v : Value) (l : List Candidate), cs = [v] ∧ RdS W 3 (Pl Candidate.cells) v l ∧ l.length ≤ 9223372036854775807 :=
  read_slice Try.underlying22 (by kernel_rfl) (by decide) (fun n cs y h => read_laws_Candidate h) h
end Go.Proofs.Ytajcfmibcnibpaa
