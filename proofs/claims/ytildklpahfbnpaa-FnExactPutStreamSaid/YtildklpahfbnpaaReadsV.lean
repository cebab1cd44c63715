/- The arguments of the laws, read: data with slices. -/
import Derived.Test.YtildklpahfbnpaaRd
import Derived.Test.YtildklpahfbnpaaDeep
import Derived.Test.YtildklpahfbnpaaProg
import Derived.Test.YtildklpahfbnpaaChecked
namespace Go.Proofs.Ytildklpahfbnpaa
open SL Go.ChangeShapes Go.WideShapes Go.ChangeAt Go.RowKit
theorem row_own : ownKnob Try.prog.godebug = none := by kernel_rfl
theorem row_laid : laidOutB Try.prog = true := by kernel_rfl
theorem and_i {a b : Bool} (h1 : a = true) (h2 : b = true) : (a && b) = true := by rw [h1, h2]; rfl
theorem row_mapsRowed : mapsRowed Try.prog = true := by kernel_rfl
theorem row_pstops : (Try.prog.stops == []) = true := by kernel_rfl
theorem row_pknobs : (Try.prog.stopKnobs == []) = true := by kernel_rfl
theorem row_heard : Try.prog.stopsHeard = true := by kernel_rfl
theorem row_enter : Try.prog.mayEnter = true := by kernel_rfl

theorem read_laws_Priority {H : Type} {enc : TypeId × Value → H} {W : World} {base : Nat} {sp : Nat → Bool} {held : Bool} {fuel : Nat} {cs : List Value} {x : DataW H × List MemPlace}
    (h : DataW.trod enc Try.prog W base sp held fuel 38 cs = some x) : ∃ c : Priority, cs = c.cells := by
  obtain ⟨xs, n, _, _, hl, hxl, hg⟩ := DataW.trod_struct Try.underlying38 h
  have hl : cs.length = 2 := hl.trans (by kernel_rfl)
  obtain ⟨y0, g0⟩ := fld hg hxl 0 rfl (k := 1) (by kernel_rfl)
  obtain ⟨a0, e0, _, _⟩ := DataW.trod_int Try.underlying3 g0
  obtain ⟨y1, g1⟩ := fld hg hxl 1 rfl (k := 1) (by kernel_rfl)
  obtain ⟨a1, e1, _⟩ := DataW.trod_bool Try.underlying4 g1
  exact ⟨⟨a0, a1⟩, (cut_cons 0 1 e0 (cut_cons 1 1 e1 (cut_end hl)))⟩

theorem read_laws_Conf {H : Type} {enc : TypeId × Value → H} {W : World} {base : Nat} {sp : Nat → Bool} {held : Bool} {fuel : Nat} {cs : List Value} {x : DataW H × List MemPlace}
    (h : DataW.trod enc Try.prog W base sp held fuel 72 cs = some x) : ∃ c : Conf, cs = c.cells := by
  obtain ⟨xs, n, _, _, hl, hxl, hg⟩ := DataW.trod_struct Try.underlying72 h
  have hl : cs.length = 8 := hl.trans (by kernel_rfl)
  obtain ⟨y0, g0⟩ := fld hg hxl 0 rfl (k := 1) (by kernel_rfl)
  obtain ⟨a0, e0, _, _⟩ := DataW.trod_int Try.underlying3 g0
  obtain ⟨y1, g1⟩ := fld hg hxl 1 rfl (k := 1) (by kernel_rfl)
  obtain ⟨a1, e1, _, _⟩ := DataW.trod_int Try.underlying3 g1
  obtain ⟨y2, g2⟩ := fld hg hxl 2 rfl (k := 1) (by kernel_rfl)
  obtain ⟨a2, e2, _, _⟩ := DataW.trod_int Try.underlying3 g2
  obtain ⟨y3, g3⟩ := fld hg hxl 3 rfl (k := 1) (by kernel_rfl)
  obtain ⟨a3, e3, _, _⟩ := DataW.trod_int Try.underlying3 g3
  obtain ⟨y4, g4⟩ := fld hg hxl 4 rfl (k := 1) (by kernel_rfl)
  obtain ⟨a4, e4, _, _⟩ := DataW.trod_int Try.underlying3 g4
  obtain ⟨y5, g5⟩ := fld hg hxl 5 rfl (k := 1) (by kernel_rfl)
  obtain ⟨a5, e5, _, _⟩ := DataW.trod_int Try.underlying3 g5
  obtain ⟨y6, g6⟩ := fld hg hxl 6 rfl (k := 1) (by kernel_rfl)
  obtain ⟨a6, e6, _, _⟩ := DataW.trod_int Try.underlying3 g6
  obtain ⟨y7, g7⟩ := fld hg hxl 7 rfl (k := 1) (by kernel_rfl)
  obtain ⟨a7, e7, _, _⟩ := DataW.trod_int Try.underlying3 g7
  exact ⟨⟨a0, a1, a2, a3, a4, a5, a6, a7⟩, (cut_cons 0 1 e0 (cut_cons 1 1 e1 (cut_cons 2 1 e2 (cut_cons 3 1 e3 (cut_cons 4 1 e4 (cut_cons 5 1 e5 (cut_cons 6 1 e6 (cut_cons 7 1 e7 (cut_end hl)))))))))⟩

theorem read_laws_Allow {H : Type} {enc : TypeId × Value → H} {W : World} {base : Nat} {sp : Nat → Bool} {held : Bool} {fuel : Nat} {cs : List Value} {x : DataW H × List MemPlace}
    (h : DataW.trod enc Try.prog W base sp held fuel 76 cs = some x) : ∃ c : Allow, cs = c.cells := by
  obtain ⟨xs, n, _, _, hl, hxl, hg⟩ := DataW.trod_struct Try.underlying76 h
  have hl : cs.length = 4 := hl.trans (by kernel_rfl)
  obtain ⟨y0, g0⟩ := fld hg hxl 0 rfl (k := 1) (by kernel_rfl)
  obtain ⟨a0, e0, _, _⟩ := DataW.trod_int Try.underlying3 g0
  obtain ⟨y1, g1⟩ := fld hg hxl 1 rfl (k := 1) (by kernel_rfl)
  obtain ⟨a1, e1, _, _⟩ := DataW.trod_int Try.underlying3 g1
  obtain ⟨y2, g2⟩ := fld hg hxl 2 rfl (k := 1) (by kernel_rfl)
  obtain ⟨a2, e2, _, _⟩ := DataW.trod_int Try.underlying3 g2
  obtain ⟨y3, g3⟩ := fld hg hxl 3 rfl (k := 1) (by kernel_rfl)
  obtain ⟨a3, e3, _, _⟩ := DataW.trod_int Try.underlying3 g3
  exact ⟨⟨a0, a1, a2, a3⟩, (cut_cons 0 1 e0 (cut_cons 1 1 e1 (cut_cons 2 1 e2 (cut_cons 3 1 e3 (cut_end hl)))))⟩

theorem read_laws_Count {H : Type} {enc : TypeId × Value → H} {W : World} {base : Nat} {sp : Nat → Bool} {held : Bool} {fuel : Nat} {cs : List Value} {x : DataW H × List MemPlace}
    (h : DataW.trod enc Try.prog W base sp held fuel 74 cs = some x) : ∃ c : Count, cs = c.cells := by
  obtain ⟨xs, n, _, _, hl, hxl, hg⟩ := DataW.trod_struct Try.underlying74 h
  have hl : cs.length = 3 := hl.trans (by kernel_rfl)
  obtain ⟨y0, g0⟩ := fld hg hxl 0 rfl (k := 1) (by kernel_rfl)
  obtain ⟨a0, e0, _, _⟩ := DataW.trod_int Try.underlying3 g0
  obtain ⟨y1, g1⟩ := fld hg hxl 1 rfl (k := 1) (by kernel_rfl)
  obtain ⟨a1, e1, _, _⟩ := DataW.trod_int Try.underlying3 g1
  obtain ⟨y2, g2⟩ := fld hg hxl 2 rfl (k := 1) (by kernel_rfl)
  obtain ⟨a2, e2, _, _⟩ := DataW.trod_int Try.underlying3 g2
  exact ⟨⟨a0, a1, a2⟩, (cut_cons 0 1 e0 (cut_cons 1 1 e1 (cut_cons 2 1 e2 (cut_end hl))))⟩

theorem read_laws_Range {H : Type} {enc : TypeId × Value → H} {W : World} {base : Nat} {sp : Nat → Bool} {held : Bool} {fuel : Nat} {cs : List Value} {x : DataW H × List MemPlace}
    (h : DataW.trod enc Try.prog W base sp held fuel 219 cs = some x) : ∃ c : Range, cs = c.cells := by
  obtain ⟨xs, n, _, _, hl, hxl, hg⟩ := DataW.trod_struct Try.underlying219 h
  have hl : cs.length = 2 := hl.trans (by kernel_rfl)
  obtain ⟨y0, g0⟩ := fld hg hxl 0 rfl (k := 1) (by kernel_rfl)
  obtain ⟨a0, e0, _, _⟩ := DataW.trod_int Try.underlying3 g0
  obtain ⟨y1, g1⟩ := fld hg hxl 1 rfl (k := 1) (by kernel_rfl)
  obtain ⟨a1, e1, _, _⟩ := DataW.trod_int Try.underlying3 g1
  exact ⟨⟨a0, a1⟩, (cut_cons 0 1 e0 (cut_cons 1 1 e1 (cut_end hl)))⟩

theorem read_laws_Credit {H : Type} {enc : TypeId × Value → H} {W : World} {base : Nat} {sp : Nat → Bool} {held : Bool} {fuel : Nat} {cs : List Value} {x : DataW H × List MemPlace}
    (h : DataW.trod enc Try.prog W base sp held fuel 29 cs = some x) : ∃ c : Credit, cs = c.cells := by
  obtain ⟨xs, n, _, _, hl, hxl, hg⟩ := DataW.trod_struct Try.underlying29 h
  have hl : cs.length = 4 := hl.trans (by kernel_rfl)
  obtain ⟨y0, g0⟩ := fld hg hxl 0 rfl (k := 1) (by kernel_rfl)
  obtain ⟨a0, e0, _, _⟩ := DataW.trod_int Try.underlying3 g0
  obtain ⟨y1, g1⟩ := fld hg hxl 1 rfl (k := 1) (by kernel_rfl)
  obtain ⟨a1, e1, _, _⟩ := DataW.trod_int Try.underlying3 g1
  obtain ⟨y2, g2⟩ := fld hg hxl 2 rfl (k := 1) (by kernel_rfl)
  obtain ⟨a2, e2, _, _⟩ := DataW.trod_int Try.underlying3 g2
  obtain ⟨y3, g3⟩ := fld hg hxl 3 rfl (k := 1) (by kernel_rfl)
  obtain ⟨a3, e3, _, _⟩ := DataW.trod_int Try.underlying3 g3
  exact ⟨⟨a0, a1, a2, a3⟩, (cut_cons 0 1 e0 (cut_cons 1 1 e1 (cut_cons 2 1 e2 (cut_cons 3 1 e3 (cut_end hl)))))⟩

theorem read_laws_Window {H : Type} {enc : TypeId × Value → H} {W : World} {base : Nat} {sp : Nat → Bool} {held : Bool} {fuel : Nat} {cs : List Value} {x : DataW H × List MemPlace}
    (h : DataW.trod enc Try.prog W base sp held fuel 36 cs = some x) : ∃ c : Window, cs = c.cells := by
  obtain ⟨xs, n, _, _, hl, hxl, hg⟩ := DataW.trod_struct Try.underlying36 h
  have hl : cs.length = 6 := hl.trans (by kernel_rfl)
  obtain ⟨y0, g0⟩ := fld hg hxl 0 rfl (k := 1) (by kernel_rfl)
  obtain ⟨a0, e0, _, _⟩ := DataW.trod_int Try.underlying3 g0
  obtain ⟨y1, g1⟩ := fld hg hxl 1 rfl (k := 1) (by kernel_rfl)
  obtain ⟨a1, e1, _, _⟩ := DataW.trod_int Try.underlying3 g1
  obtain ⟨y2, g2⟩ := fld hg hxl 2 rfl (k := 1) (by kernel_rfl)
  obtain ⟨a2, e2, _, _⟩ := DataW.trod_int Try.underlying3 g2
  obtain ⟨y3, g3⟩ := fld hg hxl 3 rfl (k := 1) (by kernel_rfl)
  obtain ⟨a3, e3, _, _⟩ := DataW.trod_int Try.underlying3 g3
  obtain ⟨y4, g4⟩ := fld hg hxl 4 rfl (k := 1) (by kernel_rfl)
  obtain ⟨a4, e4, _, _⟩ := DataW.trod_int Try.underlying3 g4
  obtain ⟨y5, g5⟩ := fld hg hxl 5 rfl (k := 1) (by kernel_rfl)
  obtain ⟨a5, e5, _, _⟩ := DataW.trod_int Try.underlying3 g5
  exact ⟨⟨a0, a1, a2, a3, a4, a5⟩, (cut_cons 0 1 e0 (cut_cons 1 1 e1 (cut_cons 2 1 e2 (cut_cons 3 1 e3 (cut_cons 4 1 e4 (cut_cons 5 1 e5 (cut_end hl)))))))⟩

theorem readQ_laws_Chunk {H : Type} {enc : TypeId × Value → H} {W : World} {base : Nat} {sp : Nat → Bool} {held : Bool} {fuel : Nat} {cs : List Value} {x : DataW H × List MemPlace}
    (h : DataW.trod enc Try.prog W base sp held fuel 236 cs = some x) : ∃ c : Chunk, Pl Chunk.cells W cs c ∧ c.data.size ≤ 9223372036854775807 := by
  obtain ⟨xs, n, _, _, hl, hxl, hg⟩ := DataW.trod_struct Try.underlying236 h
  have hl : cs.length = 2 := hl.trans (by kernel_rfl)
  obtain ⟨y0, g0⟩ := fld hg hxl 0 rfl (k := 1) (by kernel_rfl)
  obtain ⟨a0, e0, _, _⟩ := DataW.trod_int Try.underlying3 g0
  obtain ⟨y1, g1⟩ := fld hg hxl 1 rfl (k := 1) (by kernel_rfl)
  obtain ⟨a1, e1, _, z1⟩ := DataW.trod_string Try.underlying9 g1
  exact ⟨⟨a0, a1⟩, (cut_cons 0 1 e0 (cut_cons 1 1 e1 (cut_end hl))), by simp only [maxLen] at z1; exact z1⟩

theorem readQ_laws_Frame {H : Type} {enc : TypeId × Value → H} {W : World} {base : Nat} {sp : Nat → Bool} {held : Bool} {fuel : Nat} {cs : List Value} {x : DataW H × List MemPlace}
    (h : DataW.trod enc Try.prog W base sp held fuel 241 cs = some x) : ∃ c : Frame', Pl Frame'.cells W cs c ∧ c.data.size ≤ 9223372036854775807 := by
  obtain ⟨xs, n, _, _, hl, hxl, hg⟩ := DataW.trod_struct Try.underlying241 h
  have hl : cs.length = 9 := hl.trans (by kernel_rfl)
  obtain ⟨y0, g0⟩ := fld hg hxl 0 rfl (k := 1) (by kernel_rfl)
  obtain ⟨a0, e0, _, _⟩ := DataW.trod_int Try.underlying3 g0
  obtain ⟨y1, g1⟩ := fld hg hxl 1 rfl (k := 1) (by kernel_rfl)
  obtain ⟨a1, e1, _, _⟩ := DataW.trod_int Try.underlying3 g1
  obtain ⟨y2, g2⟩ := fld hg hxl 2 rfl (k := 1) (by kernel_rfl)
  obtain ⟨a2, e2, _, _⟩ := DataW.trod_int Try.underlying3 g2
  obtain ⟨y3, g3⟩ := fld hg hxl 3 rfl (k := 1) (by kernel_rfl)
  obtain ⟨a3, e3, _, z3⟩ := DataW.trod_string Try.underlying9 g3
  obtain ⟨y4, g4⟩ := fld hg hxl 4 rfl (k := 1) (by kernel_rfl)
  obtain ⟨a4, e4, _⟩ := DataW.trod_bool Try.underlying4 g4
  obtain ⟨y5, g5⟩ := fld hg hxl 5 rfl (k := 1) (by kernel_rfl)
  obtain ⟨a5, e5, _, _⟩ := DataW.trod_int Try.underlying3 g5
  obtain ⟨y6, g6⟩ := fld hg hxl 6 rfl (k := 1) (by kernel_rfl)
  obtain ⟨a6, e6, _, _⟩ := DataW.trod_int Try.underlying3 g6
  obtain ⟨y7, g7⟩ := fld hg hxl 7 rfl (k := 1) (by kernel_rfl)
  obtain ⟨a7, e7, _, _⟩ := DataW.trod_int Try.underlying3 g7
  obtain ⟨y8, g8⟩ := fld hg hxl 8 rfl (k := 1) (by kernel_rfl)
  obtain ⟨a8, e8, _⟩ := DataW.trod_bool Try.underlying4 g8
  exact ⟨⟨a0, a1, a2, a3, a4, a5, a6, a7, a8⟩, (cut_cons 0 1 e0 (cut_cons 1 1 e1 (cut_cons 2 1 e2 (cut_cons 3 1 e3 (cut_cons 4 1 e4 (cut_cons 5 1 e5 (cut_cons 6 1 e6 (cut_cons 7 1 e7 (cut_cons 8 1 e8 (cut_end hl)))))))))), by simp only [maxLen] at z3; exact z3⟩

theorem readS_Int {H : Type} {enc : TypeId × Value → H} {W : World} {base : Nat} {sp : Nat → Bool} {held : Bool} {fuel : Nat} {cs : List Value} {x : DataW H × List MemPlace}
    (h : DataW.trod enc Try.prog W base sp held fuel 22 cs = some x) : ∃ (v : Value) (l : List Int), cs = [v] ∧ RdS W 1 (Pl intC) v l ∧ l.length ≤ 9223372036854775807 :=
  read_slice (R := (Pl intC)) Try.underlying22 (by kernel_rfl) (by decide) (fun n cs y h => by
    obtain ⟨a, e, _, _⟩ := DataW.trod_int Try.underlying3 h
    exact ⟨a, e⟩) h

theorem readS_Range {H : Type} {enc : TypeId × Value → H} {W : World} {base : Nat} {sp : Nat → Bool} {held : Bool} {fuel : Nat} {cs : List Value} {x : DataW H × List MemPlace}
    (h : DataW.trod enc Try.prog W base sp held fuel 25 cs = some x) : ∃ (v : Value) (l : List Range), cs = [v] ∧ RdS W 2 (Pl Range.cells) v l ∧ l.length ≤ 9223372036854775807 :=
  read_slice (R := (Pl Range.cells)) Try.underlying25 (by kernel_rfl) (by decide) (fun n cs y h => read_laws_Range h) h

theorem readS_Chunk {H : Type} {enc : TypeId × Value → H} {W : World} {base : Nat} {sp : Nat → Bool} {held : Bool} {fuel : Nat} {cs : List Value} {x : DataW H × List MemPlace}
    (h : DataW.trod enc Try.prog W base sp held fuel 30 cs = some x) : ∃ (v : Value) (l : List Chunk), cs = [v] ∧ RdS W 2 (Pl Chunk.cells) v l ∧ l.length ≤ 9223372036854775807 ∧ ∀ y ∈ l, y.data.size ≤ 9223372036854775807 :=
  read_sliceQ (R := (Pl Chunk.cells)) (Q := fun y => y.data.size ≤ 9223372036854775807) Try.underlying30 (by kernel_rfl) (by decide) (fun n cs y h => readQ_laws_Chunk h) h

theorem readS_Frame {H : Type} {enc : TypeId × Value → H} {W : World} {base : Nat} {sp : Nat → Bool} {held : Bool} {fuel : Nat} {cs : List Value} {x : DataW H × List MemPlace}
    (h : DataW.trod enc Try.prog W base sp held fuel 190 cs = some x) : ∃ (v : Value) (l : List Frame'), cs = [v] ∧ RdS W 9 (Pl Frame'.cells) v l ∧ l.length ≤ 9223372036854775807 ∧ ∀ y ∈ l, y.data.size ≤ 9223372036854775807 :=
  read_sliceQ (R := (Pl Frame'.cells)) (Q := fun y => y.data.size ≤ 9223372036854775807) Try.underlying190 (by kernel_rfl) (by decide) (fun n cs y h => readQ_laws_Frame h) h

theorem read_laws_Ring {H : Type} {enc : TypeId × Value → H} {W : World} {base : Nat} {sp : Nat → Bool} {held : Bool} {fuel : Nat} {cs : List Value} {x : DataW H × List MemPlace}
    (h : DataW.trod enc Try.prog W base sp held fuel 24 cs = some x) : ∃ a : Ring, RdRing W cs a ∧ a.le 9223372036854775807 := by
  obtain ⟨xs, n, _, _, hl, hxl, hg⟩ := DataW.trod_struct Try.underlying24 h
  have hl : cs.length = 4 := hl.trans (by kernel_rfl)
  obtain ⟨y0, g0⟩ := fld hg hxl 0 rfl (k := 1) (by kernel_rfl)
  obtain ⟨a0, e0, _, _⟩ := DataW.trod_int Try.underlying3 g0
  obtain ⟨y1, g1⟩ := fld hg hxl 1 rfl (k := 1) (by kernel_rfl)
  obtain ⟨a1, e1, _, _⟩ := DataW.trod_int Try.underlying3 g1
  obtain ⟨y2, g2⟩ := fld hg hxl 2 rfl (k := 1) (by kernel_rfl)
  obtain ⟨a2, e2, _, _⟩ := DataW.trod_int Try.underlying3 g2
  obtain ⟨y3, g3⟩ := fld hg hxl 3 rfl (k := 1) (by kernel_rfl)
  obtain ⟨v3, a3, e3, k3, b3⟩ := readS_Int g3
  exact ⟨⟨a0, a1, a2, a3⟩, ⟨v3, (cut_cons 0 1 e0 (cut_cons 1 1 e1 (cut_cons 2 1 e2 (cut_cons 3 1 e3 (cut_end hl))))), k3⟩, b3⟩

theorem read_laws_Sender {H : Type} {enc : TypeId × Value → H} {W : World} {base : Nat} {sp : Nat → Bool} {held : Bool} {fuel : Nat} {cs : List Value} {x : DataW H × List MemPlace}
    (h : DataW.trod enc Try.prog W base sp held fuel 27 cs = some x) : ∃ a : Sender, RdSender W cs a ∧ a.le 9223372036854775807 := by
  obtain ⟨xs, n, _, _, hl, hxl, hg⟩ := DataW.trod_struct Try.underlying27 h
  have hl : cs.length = 12 := hl.trans (by kernel_rfl)
  obtain ⟨y0, g0⟩ := fld hg hxl 0 rfl (k := 1) (by kernel_rfl)
  obtain ⟨a0, e0, _, _⟩ := DataW.trod_int Try.underlying3 g0
  obtain ⟨y1, g1⟩ := fld hg hxl 1 rfl (k := 4) (by kernel_rfl)
  obtain ⟨a1, ⟨v1_0, e1, k1_0⟩, b1_0⟩ := read_laws_Ring g1
  obtain ⟨y2, g2⟩ := fld hg hxl 2 rfl (k := 1) (by kernel_rfl)
  obtain ⟨v2, a2, e2, k2, b2⟩ := readS_Range g2
  obtain ⟨y3, g3⟩ := fld hg hxl 3 rfl (k := 1) (by kernel_rfl)
  obtain ⟨v3, a3, e3, k3, b3⟩ := readS_Range g3
  obtain ⟨y4, g4⟩ := fld hg hxl 4 rfl (k := 1) (by kernel_rfl)
  obtain ⟨v4, a4, e4, k4, b4⟩ := readS_Range g4
  obtain ⟨y5, g5⟩ := fld hg hxl 5 rfl (k := 1) (by kernel_rfl)
  obtain ⟨a5, e5, _, _⟩ := DataW.trod_int Try.underlying3 g5
  obtain ⟨y6, g6⟩ := fld hg hxl 6 rfl (k := 1) (by kernel_rfl)
  obtain ⟨a6, e6, _, _⟩ := DataW.trod_int Try.underlying3 g6
  obtain ⟨y7, g7⟩ := fld hg hxl 7 rfl (k := 1) (by kernel_rfl)
  obtain ⟨a7, e7, _, _⟩ := DataW.trod_int Try.underlying3 g7
  obtain ⟨y8, g8⟩ := fld hg hxl 8 rfl (k := 1) (by kernel_rfl)
  obtain ⟨a8, e8, _, _⟩ := DataW.trod_int Try.underlying3 g8
  exact ⟨⟨a0, a1, a2, a3, a4, a5, a6, a7, a8⟩, ⟨v1_0, v2, v3, v4, (cut_cons 0 1 e0 (cut_cons 1 4 e1 (cut_cons 5 1 e2 (cut_cons 6 1 e3 (cut_cons 7 1 e4 (cut_cons 8 1 e5 (cut_cons 9 1 e6 (cut_cons 10 1 e7 (cut_cons 11 1 e8 (cut_end hl)))))))))), k1_0, k2, k3, k4⟩, b1_0, b2, b3, b4⟩

theorem read_laws_Buffer {H : Type} {enc : TypeId × Value → H} {W : World} {base : Nat} {sp : Nat → Bool} {held : Bool} {fuel : Nat} {cs : List Value} {x : DataW H × List MemPlace}
    (h : DataW.trod enc Try.prog W base sp held fuel 32 cs = some x) : ∃ a : Buffer, RdBuffer W cs a ∧ a.le 9223372036854775807 := by
  obtain ⟨xs, n, _, _, hl, hxl, hg⟩ := DataW.trod_struct Try.underlying32 h
  have hl : cs.length = 2 := hl.trans (by kernel_rfl)
  obtain ⟨y0, g0⟩ := fld hg hxl 0 rfl (k := 1) (by kernel_rfl)
  obtain ⟨a0, e0, _, _⟩ := DataW.trod_int Try.underlying3 g0
  obtain ⟨y1, g1⟩ := fld hg hxl 1 rfl (k := 1) (by kernel_rfl)
  obtain ⟨v1, a1, e1, k1, b1, q1⟩ := readS_Chunk g1
  exact ⟨⟨a0, a1⟩, ⟨v1, (cut_cons 0 1 e0 (cut_cons 1 1 e1 (cut_end hl))), k1⟩, b1, q1⟩

theorem read_laws_Receiver {H : Type} {enc : TypeId × Value → H} {W : World} {base : Nat} {sp : Nat → Bool} {held : Bool} {fuel : Nat} {cs : List Value} {x : DataW H × List MemPlace}
    (h : DataW.trod enc Try.prog W base sp held fuel 34 cs = some x) : ∃ a : Receiver, RdReceiver W cs a ∧ a.le 9223372036854775807 := by
  obtain ⟨xs, n, _, _, hl, hxl, hg⟩ := DataW.trod_struct Try.underlying34 h
  have hl : cs.length = 6 := hl.trans (by kernel_rfl)
  obtain ⟨y0, g0⟩ := fld hg hxl 0 rfl (k := 1) (by kernel_rfl)
  obtain ⟨a0, e0, _, _⟩ := DataW.trod_int Try.underlying3 g0
  obtain ⟨y1, g1⟩ := fld hg hxl 1 rfl (k := 2) (by kernel_rfl)
  obtain ⟨a1, ⟨v1_0, e1, k1_0⟩, b1_0, b1_1⟩ := read_laws_Buffer g1
  obtain ⟨y2, g2⟩ := fld hg hxl 2 rfl (k := 1) (by kernel_rfl)
  obtain ⟨a2, e2, _, _⟩ := DataW.trod_int Try.underlying3 g2
  obtain ⟨y3, g3⟩ := fld hg hxl 3 rfl (k := 1) (by kernel_rfl)
  obtain ⟨a3, e3, _, _⟩ := DataW.trod_int Try.underlying3 g3
  obtain ⟨y4, g4⟩ := fld hg hxl 4 rfl (k := 1) (by kernel_rfl)
  obtain ⟨a4, e4, _, _⟩ := DataW.trod_int Try.underlying3 g4
  exact ⟨⟨a0, a1, a2, a3, a4⟩, ⟨v1_0, (cut_cons 0 1 e0 (cut_cons 1 2 e1 (cut_cons 3 1 e2 (cut_cons 4 1 e3 (cut_cons 5 1 e4 (cut_end hl)))))), k1_0⟩, b1_0, b1_1⟩

theorem read_laws_Stream {H : Type} {enc : TypeId × Value → H} {W : World} {base : Nat} {sp : Nat → Bool} {held : Bool} {fuel : Nat} {cs : List Value} {x : DataW H × List MemPlace}
    (h : DataW.trod enc Try.prog W base sp held fuel 40 cs = some x) : ∃ a : Stream, RdStream W cs a ∧ a.le 9223372036854775807 := by
  obtain ⟨xs, n, _, _, hl, hxl, hg⟩ := DataW.trod_struct Try.underlying40 h
  have hl : cs.length = 39 := hl.trans (by kernel_rfl)
  obtain ⟨y0, g0⟩ := fld hg hxl 0 rfl (k := 1) (by kernel_rfl)
  obtain ⟨a0, e0, _, _⟩ := DataW.trod_int Try.underlying3 g0
  obtain ⟨y1, g1⟩ := fld hg hxl 1 rfl (k := 12) (by kernel_rfl)
  obtain ⟨a1, ⟨v1_0, v1_1, v1_2, v1_3, e1, k1_0, k1_1, k1_2, k1_3⟩, b1_0, b1_1, b1_2, b1_3⟩ := read_laws_Sender g1
  obtain ⟨y2, g2⟩ := fld hg hxl 2 rfl (k := 4) (by kernel_rfl)
  obtain ⟨a2, e2⟩ := read_laws_Credit g2
  obtain ⟨y3, g3⟩ := fld hg hxl 3 rfl (k := 6) (by kernel_rfl)
  obtain ⟨a3, ⟨v3_0, e3, k3_0⟩, b3_0, b3_1⟩ := read_laws_Receiver g3
  obtain ⟨y4, g4⟩ := fld hg hxl 4 rfl (k := 6) (by kernel_rfl)
  obtain ⟨a4, e4⟩ := read_laws_Window g4
  obtain ⟨y5, g5⟩ := fld hg hxl 5 rfl (k := 2) (by kernel_rfl)
  obtain ⟨a5, e5⟩ := read_laws_Priority g5
  obtain ⟨y6, g6⟩ := fld hg hxl 6 rfl (k := 1) (by kernel_rfl)
  obtain ⟨a6, e6, _⟩ := DataW.trod_bool Try.underlying4 g6
  obtain ⟨y7, g7⟩ := fld hg hxl 7 rfl (k := 1) (by kernel_rfl)
  obtain ⟨a7, e7, _⟩ := DataW.trod_bool Try.underlying4 g7
  obtain ⟨y8, g8⟩ := fld hg hxl 8 rfl (k := 1) (by kernel_rfl)
  obtain ⟨a8, e8, _⟩ := DataW.trod_bool Try.underlying4 g8
  obtain ⟨y9, g9⟩ := fld hg hxl 9 rfl (k := 1) (by kernel_rfl)
  obtain ⟨a9, e9, _⟩ := DataW.trod_bool Try.underlying4 g9
  obtain ⟨y10, g10⟩ := fld hg hxl 10 rfl (k := 1) (by kernel_rfl)
  obtain ⟨a10, e10, _⟩ := DataW.trod_bool Try.underlying4 g10
  obtain ⟨y11, g11⟩ := fld hg hxl 11 rfl (k := 1) (by kernel_rfl)
  obtain ⟨a11, e11, _⟩ := DataW.trod_bool Try.underlying4 g11
  obtain ⟨y12, g12⟩ := fld hg hxl 12 rfl (k := 1) (by kernel_rfl)
  obtain ⟨a12, e12, _, _⟩ := DataW.trod_int Try.underlying3 g12
  obtain ⟨y13, g13⟩ := fld hg hxl 13 rfl (k := 1) (by kernel_rfl)
  obtain ⟨a13, e13, _⟩ := DataW.trod_bool Try.underlying4 g13
  exact ⟨⟨a0, a1, a2, a3, a4, a5, a6, a7, a8, a9, a10, a11, a12, a13⟩, ⟨v1_0, v1_1, v1_2, v1_3, v3_0, (cut_cons 0 1 e0 (cut_cons 1 12 e1 (cut_cons 13 4 e2 (cut_cons 17 6 e3 (cut_cons 23 6 e4 (cut_cons 29 2 e5 (cut_cons 31 1 e6 (cut_cons 32 1 e7 (cut_cons 33 1 e8 (cut_cons 34 1 e9 (cut_cons 35 1 e10 (cut_cons 36 1 e11 (cut_cons 37 1 e12 (cut_cons 38 1 e13 (cut_end hl))))))))))))))), k1_0, k1_1, k1_2, k1_3, k3_0⟩, b1_0, b1_1, b1_2, b1_3, b3_0, b3_1⟩

theorem read_laws_Packet {H : Type} {enc : TypeId × Value → H} {W : World} {base : Nat} {sp : Nat → Bool} {held : Bool} {fuel : Nat} {cs : List Value} {x : DataW H × List MemPlace}
    (h : DataW.trod enc Try.prog W base sp held fuel 192 cs = some x) : ∃ a : Packet, RdPacket W cs a ∧ a.le 9223372036854775807 := by
  obtain ⟨xs, n, _, _, hl, hxl, hg⟩ := DataW.trod_struct Try.underlying192 h
  have hl : cs.length = 2 := hl.trans (by kernel_rfl)
  obtain ⟨y0, g0⟩ := fld hg hxl 0 rfl (k := 1) (by kernel_rfl)
  obtain ⟨a0, e0, _, _⟩ := DataW.trod_int Try.underlying3 g0
  obtain ⟨y1, g1⟩ := fld hg hxl 1 rfl (k := 1) (by kernel_rfl)
  obtain ⟨v1, a1, e1, k1, b1, q1⟩ := readS_Frame g1
  exact ⟨⟨a0, a1⟩, ⟨v1, (cut_cons 0 1 e0 (cut_cons 1 1 e1 (cut_end hl))), k1⟩, b1, q1⟩

theorem readS_Stream {H : Type} {enc : TypeId × Value → H} {W : World} {base : Nat} {sp : Nat → Bool} {held : Bool} {fuel : Nat} {cs : List Value} {x : DataW H × List MemPlace}
    (h : DataW.trod enc Try.prog W base sp held fuel 60 cs = some x) : ∃ (v : Value) (l : List Stream), cs = [v] ∧ RdS W 39 RdStream v l ∧ l.length ≤ 9223372036854775807 ∧ ∀ y ∈ l, y.le 9223372036854775807 :=
  read_sliceQ (R := RdStream) (Q := fun y => y.le 9223372036854775807) Try.underlying60 (by kernel_rfl) (by decide) (fun n cs y h => read_laws_Stream h) h

theorem readS_Packet {H : Type} {enc : TypeId × Value → H} {W : World} {base : Nat} {sp : Nat → Bool} {held : Bool} {fuel : Nat} {cs : List Value} {x : DataW H × List MemPlace}
    (h : DataW.trod enc Try.prog W base sp held fuel 77 cs = some x) : ∃ (v : Value) (l : List Packet), cs = [v] ∧ RdS W 2 RdPacket v l ∧ l.length ≤ 9223372036854775807 ∧ ∀ y ∈ l, y.le 9223372036854775807 :=
  read_sliceQ (R := RdPacket) (Q := fun y => y.le 9223372036854775807) Try.underlying77 (by kernel_rfl) (by decide) (fun n cs y h => read_laws_Packet h) h

theorem read_laws_Conn {H : Type} {enc : TypeId × Value → H} {W : World} {base : Nat} {sp : Nat → Bool} {held : Bool} {fuel : Nat} {cs : List Value} {x : DataW H × List MemPlace}
    (h : DataW.trod enc Try.prog W base sp held fuel 79 cs = some x) : ∃ a : Conn, RdConn W cs a ∧ a.le 9223372036854775807 := by
  obtain ⟨xs, n, _, _, hl, hxl, hg⟩ := DataW.trod_struct Try.underlying79 h
  have hl : cs.length = 50 := hl.trans (by kernel_rfl)
  obtain ⟨y0, g0⟩ := fld hg hxl 0 rfl (k := 1) (by kernel_rfl)
  obtain ⟨a0, e0, _⟩ := DataW.trod_bool Try.underlying4 g0
  obtain ⟨y1, g1⟩ := fld hg hxl 1 rfl (k := 8) (by kernel_rfl)
  obtain ⟨a1, e1⟩ := read_laws_Conf g1
  obtain ⟨y2, g2⟩ := fld hg hxl 2 rfl (k := 8) (by kernel_rfl)
  obtain ⟨a2, e2⟩ := read_laws_Conf g2
  obtain ⟨y3, g3⟩ := fld hg hxl 3 rfl (k := 1) (by kernel_rfl)
  obtain ⟨v3, a3, e3, k3, b3, q3⟩ := readS_Stream g3
  obtain ⟨y4, g4⟩ := fld hg hxl 4 rfl (k := 4) (by kernel_rfl)
  obtain ⟨a4, e4⟩ := read_laws_Credit g4
  obtain ⟨y5, g5⟩ := fld hg hxl 5 rfl (k := 6) (by kernel_rfl)
  obtain ⟨a5, e5⟩ := read_laws_Window g5
  obtain ⟨y6, g6⟩ := fld hg hxl 6 rfl (k := 3) (by kernel_rfl)
  obtain ⟨a6, e6⟩ := read_laws_Count g6
  obtain ⟨y7, g7⟩ := fld hg hxl 7 rfl (k := 3) (by kernel_rfl)
  obtain ⟨a7, e7⟩ := read_laws_Count g7
  obtain ⟨y8, g8⟩ := fld hg hxl 8 rfl (k := 4) (by kernel_rfl)
  obtain ⟨a8, e8⟩ := read_laws_Allow g8
  obtain ⟨y9, g9⟩ := fld hg hxl 9 rfl (k := 4) (by kernel_rfl)
  obtain ⟨a9, e9⟩ := read_laws_Allow g9
  obtain ⟨y10, g10⟩ := fld hg hxl 10 rfl (k := 1) (by kernel_rfl)
  obtain ⟨a10, e10, _⟩ := DataW.trod_bool Try.underlying4 g10
  obtain ⟨y11, g11⟩ := fld hg hxl 11 rfl (k := 1) (by kernel_rfl)
  obtain ⟨a11, e11, _⟩ := DataW.trod_bool Try.underlying4 g11
  obtain ⟨y12, g12⟩ := fld hg hxl 12 rfl (k := 1) (by kernel_rfl)
  obtain ⟨a12, e12, _⟩ := DataW.trod_bool Try.underlying4 g12
  obtain ⟨y13, g13⟩ := fld hg hxl 13 rfl (k := 1) (by kernel_rfl)
  obtain ⟨a13, e13, _, _⟩ := DataW.trod_int Try.underlying3 g13
  obtain ⟨y14, g14⟩ := fld hg hxl 14 rfl (k := 1) (by kernel_rfl)
  obtain ⟨a14, e14, _, _⟩ := DataW.trod_int Try.underlying3 g14
  obtain ⟨y15, g15⟩ := fld hg hxl 15 rfl (k := 1) (by kernel_rfl)
  obtain ⟨v15, a15, e15, k15, b15, q15⟩ := readS_Packet g15
  obtain ⟨y16, g16⟩ := fld hg hxl 16 rfl (k := 1) (by kernel_rfl)
  obtain ⟨a16, e16, _, _⟩ := DataW.trod_int Try.underlying3 g16
  obtain ⟨y17, g17⟩ := fld hg hxl 17 rfl (k := 1) (by kernel_rfl)
  obtain ⟨a17, e17, _, _⟩ := DataW.trod_int Try.underlying3 g17
  exact ⟨⟨a0, a1, a2, a3, a4, a5, a6, a7, a8, a9, a10, a11, a12, a13, a14, a15, a16, a17⟩, ⟨v3, v15, (cut_cons 0 1 e0 (cut_cons 1 8 e1 (cut_cons 9 8 e2 (cut_cons 17 1 e3 (cut_cons 18 4 e4 (cut_cons 22 6 e5 (cut_cons 28 3 e6 (cut_cons 31 3 e7 (cut_cons 34 4 e8 (cut_cons 38 4 e9 (cut_cons 42 1 e10 (cut_cons 43 1 e11 (cut_cons 44 1 e12 (cut_cons 45 1 e13 (cut_cons 46 1 e14 (cut_cons 47 1 e15 (cut_cons 48 1 e16 (cut_cons 49 1 e17 (cut_end hl))))))))))))))))))), k3, k15⟩, b3, q3, b15, q15⟩
end Go.Proofs.Ytildklpahfbnpaa
