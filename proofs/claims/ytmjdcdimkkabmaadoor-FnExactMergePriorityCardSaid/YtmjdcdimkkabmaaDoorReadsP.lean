/- The arguments of the law, read. -/
import Derived.Test.YtmjdcdimkkabmaaDoorRd
import Derived.Test.YtmjdcdimkkabmaaDoorData
import Derived.Test.YtmjdcdimkkabmaaDoorProg
import Derived.Test.YtmjdcdimkkabmaaDoorChecked
namespace Go.Proofs.YtmjdcdimkkabmaaDoor
open SL Go.ChangeShapes Go.WideShapes Go.ChangeAt Go.RowKit
theorem row_own : ownKnob Tryd.prog.godebug = none := by kernel_rfl
theorem row_laid : laidOutB Tryd.prog = true := by kernel_rfl
theorem read_laws_Priority {H : Type} {enc : TypeId × Value → H} {W : World} {base : Nat} {sp : Nat → Bool} {held : Bool} {fuel : Nat} {cs : List Value} {x : DataW H × List MemPlace}
    (h : DataW.trod enc Tryd.prog W base sp held fuel 27 cs = some x) : ∃ c : Priority, cs = c.cells := by
  obtain ⟨xs, n, _, _, hl, hxl, hg⟩ := DataW.trod_struct Tryd.underlying27 h
  have hl : cs.length = 2 := hl.trans (by kernel_rfl)
  obtain ⟨y0, g0⟩ := fld hg hxl 0 rfl (k := 1) (by kernel_rfl)
  obtain ⟨a0, e0, _, _⟩ := DataW.trod_int Tryd.underlying3 g0
  obtain ⟨y1, g1⟩ := fld hg hxl 1 rfl (k := 1) (by kernel_rfl)
  obtain ⟨a1, e1, _⟩ := DataW.trod_bool Tryd.underlying4 g1
  exact ⟨⟨a0, a1⟩, (cut_cons 0 1 e0 (cut_cons 1 1 e1 (cut_end hl)))⟩
end Go.Proofs.YtmjdcdimkkabmaaDoor
