/- Slices among the arguments of a law, read as lists. -/
import Derived.Test.YtbhnekiclbfmgaaRow
import Derived.Test.YtbhnekiclbfmgaaSlm
import Derived.ChangeSlices
import Derived.ChangeOld
namespace Go.Proofs.Ytbhnekiclbfmgaa
namespace SL
open Go.RowKit Go.WideShapes Go.ChangeShapes
theorem list_of {α : Type} {Q : Nat → α → Prop} : ∀ (n : Nat), (∀ i, i < n → ∃ x, Q i x) → ∃ l : List α, l.length = n ∧ ∀ i x, l[i]? = some x → Q i x
  | 0, _ => ⟨[], rfl, fun i x h => by simp at h⟩
  | n + 1, h => by
    obtain ⟨l, hl, hq⟩ := list_of n fun i hi => h i (by omega)
    obtain ⟨x, hx⟩ := h n (by omega)
    refine ⟨l ++ [x], by simp [hl], fun i y hy => ?_⟩
    by_cases hi : i < n
    · rw [List.getElem?_append_left (by omega)] at hy; exact hq i y hy
    · rw [List.getElem?_append_right (by omega)] at hy
      have : i = n := by
        have := (List.getElem?_eq_some_iff.1 hy).1
        simp at this; omega
      subst this
      simp [hl] at hy
      subst hy
      exact hx
section
variable {H : Type} {enc : TypeId × Value → H} {P : Program} {W : World} {base : Nat} {sp : Nat → Bool} {held : Bool} {fuel : Nat} {cs : List Value} {x : DataW H × List MemPlace}
theorem read_slice {α : Type} {k : Nat} {R : World → List Value → α → Prop} {t e : TypeId} (ht : P.underlying t = some (.slice e)) (hk : P.cellsOf e = k) (hpos : 0 < k)
    (he : ∀ (n : Nat) (cs : List Value) (y : DataW H × List MemPlace), DataW.trod enc P W base sp held n e cs = some y → ∃ a, R W cs a) (h : DataW.trod enc P W base sp held fuel t cs = some x) :
    ∃ (v : Value) (l : List α), cs = [v] ∧ RdS W k R v l ∧ l.length ≤ 9223372036854775807 := by
  rcases DataW.trod_slice ht h with ⟨rfl, _⟩ | ⟨a, len, cap, elems, rest, n, _, rfl, rfl, hb, hl, hm, hlen, hel, hsp, hns⟩
  · exact ⟨_, [], rfl, ⟨none, 0, rfl, RdL.nil _ _ _ _⟩, by simp⟩
  · have each : ∀ i, i < len → ∃ z : α, ∃ cs, R W cs z ∧ At W ((adr (some a)).add (i * k)) cs := by
      intro i hi
      have h1 := hel i hi
      rw [List.getElem?_eq_getElem (by omega)] at h1
      rw [Option.bind_eq_some_iff] at h1
      obtain ⟨cs', hcs, hy⟩ := h1
      obtain ⟨z, hz⟩ := he _ _ _ hy
      rw [hk] at hcs
      obtain ⟨_, hl', hc⟩ := World.cells?_some hcs
      refine ⟨z, cs', hz, World.cells?_block hcs hpos, fun j u hu => ?_⟩
      have hj : j < k := by
        have := (List.getElem?_eq_some_iff.1 hu).1
        omega
      rw [← hu]; exact hc j hj
    obtain ⟨l, hll, hq⟩ := list_of len each
    subst hll
    refine ⟨_, l, rfl, ⟨some a, cap, rfl, fun _ => ⟨a, rfl⟩, fun i x hx => hq i x hx⟩, ?_⟩
    simp only [maxLen] at hm; omega
theorem read_sliceQ {α : Type} {k : Nat} {R : World → List Value → α → Prop} {Q : α → Prop} {t e : TypeId} (ht : P.underlying t = some (.slice e)) (hk : P.cellsOf e = k) (hpos : 0 < k)
    (he : ∀ (n : Nat) (cs : List Value) (y : DataW H × List MemPlace), DataW.trod enc P W base sp held n e cs = some y → ∃ a, R W cs a ∧ Q a) (h : DataW.trod enc P W base sp held fuel t cs = some x) :
    ∃ (v : Value) (l : List α), cs = [v] ∧ RdS W k R v l ∧ l.length ≤ 9223372036854775807 ∧ ∀ y ∈ l, Q y := by
  obtain ⟨v, l, e, ⟨A, c, ev, hA, hq⟩, hl⟩ := read_slice (R := fun w cs a => R w cs a ∧ Q a) ht hk hpos he h
  refine ⟨v, l, e, ⟨A, c, ev, hA, fun i x hx => ?_⟩, hl, fun y hy => ?_⟩
  · obtain ⟨cs, ⟨hr, _⟩, ha⟩ := hq i x hx
    exact ⟨cs, hr, ha⟩
  · obtain ⟨i, hi⟩ := List.mem_iff_getElem?.1 hy
    obtain ⟨cs, ⟨_, hQ⟩, _⟩ := hq i y hi
    exact hQ
end
end SL
end Go.Proofs.Ytbhnekiclbfmgaa
