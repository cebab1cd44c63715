/- The arguments of the laws, read. -/
import Derived.Test.YtcdabfkankcodaaRd
import Derived.Test.YtcdabfkankcodaaElems
import Derived.Test.YtcdabfkankcodaaProg
import Derived.Test.YtcdabfkankcodaaChecked
namespace Go.Proofs.Ytcdabfkankcodaa
open SL Go.ChangeShapes Go.WideShapes Go.ChangeAt Go.RowKit
theorem row_own : ownKnob Try.prog.godebug = none := by kernel_rfl
theorem row_laid : laidOutB Try.prog = true := by kernel_rfl

theorem read_laws_Priority {H : Type} {enc : TypeId × Value → H} {W : World} {base : Nat} {sp : Nat → Bool} {held : Bool} {fuel : Nat} {cs : List Value} {x : DataW H × List MemPlace}
    (h : DataW.trod enc Try.prog W base sp held fuel 23 cs = some x) : ∃ c : Priority, cs = c.cells := by
  obtain ⟨xs, n, _, _, hl, hxl, hg⟩ := DataW.trod_struct Try.underlying23 h
  have hl : cs.length = 2 := hl.trans (by kernel_rfl)
  obtain ⟨y0, g0⟩ := fld hg hxl 0 rfl (k := 1) (by kernel_rfl)
  obtain ⟨a0, e0, _, _⟩ := DataW.trod_int Try.underlying3 g0
  obtain ⟨y1, g1⟩ := fld hg hxl 1 rfl (k := 1) (by kernel_rfl)
  obtain ⟨a1, e1, _⟩ := DataW.trod_bool Try.underlying4 g1
  exact ⟨⟨a0, a1⟩, (cut_cons 0 1 e0 (cut_cons 1 1 e1 (cut_end hl)))⟩

theorem read_laws_Conf {H : Type} {enc : TypeId × Value → H} {W : World} {base : Nat} {sp : Nat → Bool} {held : Bool} {fuel : Nat} {cs : List Value} {x : DataW H × List MemPlace}
    (h : DataW.trod enc Try.prog W base sp held fuel 32 cs = some x) : ∃ c : Conf, cs = c.cells := by
  obtain ⟨xs, n, _, _, hl, hxl, hg⟩ := DataW.trod_struct Try.underlying32 h
  have hl : cs.length = 8 := hl.trans (by kernel_rfl)
  obtain ⟨y0, g0⟩ := fld hg hxl 0 rfl (k := 1) (by kernel_rfl)
  obtain ⟨a0, e0, _, _⟩ := DataW.trod_int Try.underlying3 g0
  obtain ⟨y1, g1⟩ := fld hg hxl 1 rfl (k := 1) (by kernel_rfl)
  obtain ⟨a1, e1, _, _⟩ := DataW.trod_int Try.underlying3 g1
  obtain ⟨y2, g2⟩ := fld hg hxl 2 rfl (k := 1) (by kernel_rfl)
  obtain ⟨a2, e2, _, _⟩ := DataW.trod_int Try.underlying3 g2
  obtain ⟨y3, g3⟩ := fld hg hxl 3 rfl (k := 1) (by kernel_rfl)
  obtain ⟨a3, e3, _, _⟩ := DataW.trod_int Try.underlying3 g3
  obtain ⟨y4, g4⟩ := fld hg hxl 4 rfl (k := 1) (by kernel_rfl)
  obtain ⟨a4, e4, _, _⟩ := DataW.trod_int Try.underlying3 g4
  obtain ⟨y5, g5⟩ := fld hg hxl 5 rfl (k := 1) (by kernel_rfl)
  obtain ⟨a5, e5, _, _⟩ := DataW.trod_int Try.underlying3 g5
  obtain ⟨y6, g6⟩ := fld hg hxl 6 rfl (k := 1) (by kernel_rfl)
  obtain ⟨a6, e6, _, _⟩ := DataW.trod_int Try.underlying3 g6
  obtain ⟨y7, g7⟩ := fld hg hxl 7 rfl (k := 1) (by kernel_rfl)
  obtain ⟨a7, e7, _, _⟩ := DataW.trod_int Try.underlying3 g7
  exact ⟨⟨a0, a1, a2, a3, a4, a5, a6, a7⟩, (cut_cons 0 1 e0 (cut_cons 1 1 e1 (cut_cons 2 1 e2 (cut_cons 3 1 e3 (cut_cons 4 1 e4 (cut_cons 5 1 e5 (cut_cons 6 1 e6 (cut_cons 7 1 e7 (cut_end hl)))))))))⟩

theorem read_laws_Allow {H : Type} {enc : TypeId × Value → H} {W : World} {base : Nat} {sp : Nat → Bool} {held : Bool} {fuel : Nat} {cs : List Value} {x : DataW H × List MemPlace}
    (h : DataW.trod enc Try.prog W base sp held fuel 45 cs = some x) : ∃ c : Allow, cs = c.cells := by
  obtain ⟨xs, n, _, _, hl, hxl, hg⟩ := DataW.trod_struct Try.underlying45 h
  have hl : cs.length = 4 := hl.trans (by kernel_rfl)
  obtain ⟨y0, g0⟩ := fld hg hxl 0 rfl (k := 1) (by kernel_rfl)
  obtain ⟨a0, e0, _, _⟩ := DataW.trod_int Try.underlying3 g0
  obtain ⟨y1, g1⟩ := fld hg hxl 1 rfl (k := 1) (by kernel_rfl)
  obtain ⟨a1, e1, _, _⟩ := DataW.trod_int Try.underlying3 g1
  obtain ⟨y2, g2⟩ := fld hg hxl 2 rfl (k := 1) (by kernel_rfl)
  obtain ⟨a2, e2, _, _⟩ := DataW.trod_int Try.underlying3 g2
  obtain ⟨y3, g3⟩ := fld hg hxl 3 rfl (k := 1) (by kernel_rfl)
  obtain ⟨a3, e3, _, _⟩ := DataW.trod_int Try.underlying3 g3
  exact ⟨⟨a0, a1, a2, a3⟩, (cut_cons 0 1 e0 (cut_cons 1 1 e1 (cut_cons 2 1 e2 (cut_cons 3 1 e3 (cut_end hl)))))⟩

theorem read_laws_Count {H : Type} {enc : TypeId × Value → H} {W : World} {base : Nat} {sp : Nat → Bool} {held : Bool} {fuel : Nat} {cs : List Value} {x : DataW H × List MemPlace}
    (h : DataW.trod enc Try.prog W base sp held fuel 66 cs = some x) : ∃ c : Count, cs = c.cells := by
  obtain ⟨xs, n, _, _, hl, hxl, hg⟩ := DataW.trod_struct Try.underlying66 h
  have hl : cs.length = 3 := hl.trans (by kernel_rfl)
  obtain ⟨y0, g0⟩ := fld hg hxl 0 rfl (k := 1) (by kernel_rfl)
  obtain ⟨a0, e0, _, _⟩ := DataW.trod_int Try.underlying3 g0
  obtain ⟨y1, g1⟩ := fld hg hxl 1 rfl (k := 1) (by kernel_rfl)
  obtain ⟨a1, e1, _, _⟩ := DataW.trod_int Try.underlying3 g1
  obtain ⟨y2, g2⟩ := fld hg hxl 2 rfl (k := 1) (by kernel_rfl)
  obtain ⟨a2, e2, _, _⟩ := DataW.trod_int Try.underlying3 g2
  exact ⟨⟨a0, a1, a2⟩, (cut_cons 0 1 e0 (cut_cons 1 1 e1 (cut_cons 2 1 e2 (cut_end hl))))⟩

theorem read_laws_Piece {H : Type} {enc : TypeId × Value → H} {W : World} {base : Nat} {sp : Nat → Bool} {held : Bool} {fuel : Nat} {cs : List Value} {x : DataW H × List MemPlace}
    (h : DataW.trod enc Try.prog W base sp held fuel 56 cs = some x) : ∃ c : Piece, cs = c.cells := by
  obtain ⟨xs, n, _, _, hl, hxl, hg⟩ := DataW.trod_struct Try.underlying56 h
  have hl : cs.length = 3 := hl.trans (by kernel_rfl)
  obtain ⟨y0, g0⟩ := fld hg hxl 0 rfl (k := 1) (by kernel_rfl)
  obtain ⟨a0, e0, _, _⟩ := DataW.trod_int Try.underlying3 g0
  obtain ⟨y1, g1⟩ := fld hg hxl 1 rfl (k := 1) (by kernel_rfl)
  obtain ⟨a1, e1, _, _⟩ := DataW.trod_string Try.underlying9 g1
  obtain ⟨y2, g2⟩ := fld hg hxl 2 rfl (k := 1) (by kernel_rfl)
  obtain ⟨a2, e2, _⟩ := DataW.trod_bool Try.underlying4 g2
  exact ⟨⟨a0, a1, a2⟩, (cut_cons 0 1 e0 (cut_cons 1 1 e1 (cut_cons 2 1 e2 (cut_end hl))))⟩

theorem read_laws_Candidate {H : Type} {enc : TypeId × Value → H} {W : World} {base : Nat} {sp : Nat → Bool} {held : Bool} {fuel : Nat} {cs : List Value} {x : DataW H × List MemPlace}
    (h : DataW.trod enc Try.prog W base sp held fuel 91 cs = some x) : ∃ c : Candidate, cs = c.cells := by
  obtain ⟨xs, n, _, _, hl, hxl, hg⟩ := DataW.trod_struct Try.underlying91 h
  have hl : cs.length = 3 := hl.trans (by kernel_rfl)
  obtain ⟨y0, g0⟩ := fld hg hxl 0 rfl (k := 1) (by kernel_rfl)
  obtain ⟨a0, e0, _, _⟩ := DataW.trod_int Try.underlying3 g0
  obtain ⟨y1, g1⟩ := fld hg hxl 1 rfl (k := 2) (by kernel_rfl)
  obtain ⟨a1, e1⟩ := read_laws_Priority g1
  exact ⟨⟨a0, a1⟩, (cut_cons 0 1 e0 (cut_cons 1 2 e1 (cut_end hl)))⟩

theorem readS_int {H : Type} {enc : TypeId × Value → H} {W : World} {base : Nat} {sp : Nat → Bool} {held : Bool} {fuel : Nat} {cs : List Value} {x : DataW H × List MemPlace}
    (h : DataW.trod enc Try.prog W base sp held fuel 39 cs = some x) : ∃ (v : Value) (l : List Int), cs = [v] ∧ RdS W 1 (Pl intC) v l ∧ l.length ≤ 9223372036854775807 :=
  read_slice Try.underlying39 (by kernel_rfl) (by decide) (fun n cs y h => by
    obtain ⟨a, e, _, _⟩ := DataW.trod_int Try.underlying3 h
    exact ⟨a, e⟩) h

theorem readS_Candidate {H : Type} {enc : TypeId × Value → H} {W : World} {base : Nat} {sp : Nat → Bool} {held : Bool} {fuel : Nat} {cs : List Value} {x : DataW H × List MemPlace}
    (h : DataW.trod enc Try.prog W base sp held fuel 73 cs = some x) : ∃ (v : Value) (l : List Candidate), cs = [v] ∧ RdS W 3 (Pl Candidate.cells) v l ∧ l.length ≤ 9223372036854775807 :=
  read_slice Try.underlying73 (by kernel_rfl) (by decide) (fun n cs y h => read_laws_Candidate h) h
end Go.Proofs.Ytcdabfkankcodaa
