/- The elements of slices. -/
import Derived.Test.YtbhnekiclbfmgaaSln
import Derived.Test.YtbhnekiclbfmgaaData
namespace Go.Proofs.Ytbhnekiclbfmgaa
open SL Go.RowKit
theorem w64_id {n : Int} (h1 : -9223372036854775808 ≤ n) (h2 : n ≤ 9223372036854775807) : w64 n = n := w64_of h1 h2
theorem eInt : Elem 1 (PlO intC) (Pl intC) := .plain (fun _ => rfl) (fun x u hu => by simp [intC] at hu; subst hu; rfl)
theorem eStr : Elem 1 (PlO strC) (Pl strC) := .plain (fun _ => rfl) (fun x u hu => by simp [strC] at hu; subst hu; rfl)
theorem eCandidate : Elem 3 (PlO Candidate.cells) (Pl Candidate.cells) := .plain (fun _ => rfl) (fun x u hu => by simp [Candidate.cells] at hu; rcases hu with rfl | rfl | rfl <;> rfl)
abbrev OwI (T : Nat) (v : Value) (l : List Int) (ch : List Ck) : Prop := OwS T 1 (PlO intC) v l ch
theorem turns_bounds {n : Int} {i : Nat} (hn : 0 ≤ n ∧ n ≤ i) (hi : i < 134217728) (b : Bool) : 0 ≤ w64 (n + one b) ∧ w64 (n + one b) ≤ ((i + 1 : Nat) : Int) := by
  cases b
  · rw [w64_id (by simp [one]; omega) (by simp [one]; omega)]; simp [one]; omega
  · rw [w64_id (by simp [one]; omega) (by simp [one]; omega)]; simp [one]; omega
theorem turns_step (id n x : Int) (l : List Int) {i : Nat} (hn : 0 ≤ n ∧ n ≤ i) (hi : i < 134217728) : turnsFrom id n (x :: l) = turnsFrom id (w64 (n + one (x == id))) l := by
  show turnsFrom id (bif x == id then w64 (n + 1) else n) l = _
  cases x == id
  · show turnsFrom id n l = turnsFrom id (w64 (n + 0)) l
    rw [Int.add_zero, w64_id (by omega) (by omega)]
  · rfl
theorem szLen_le {α : Type} {l : List α} {n : Nat} (hb : l.length ≤ 9223372036854775807) (h : decide (szLen l (n : Int) < 0) = false) (hn : n ≤ 134217728 := by omega) : l.length ≤ n := by
  have h1 : ¬ szLen l (n : Int) < 0 := by simpa using h
  unfold szLen at h1
  rw [w64_id (by omega) (by omega)] at h1
  by_cases h2 : (n : Int) - (l.length : Int) < 0
  · simp [h2] at h1
  · omega
theorem take_all {α : Type} {l : List α} {i : Nat} (h : l.drop i = []) : l.take i = l := List.take_of_length_le (by have := congrArg List.length h; simp at this; omega)
theorem plain_exit {l : List Candidate} {i : Nat} {last : Int} (hn : l.drop i = []) (h0 : areCandidates l = false → i = 0) : nextId ((l.take i).map (·.id)) last = plainNext l last := by
  cases h : areCandidates l with
  | true => rw [take_all hn]; simp [plainNext, h]
  | false =>
    have hi := h0 h
    subst hi
    have hl : l = [] := hn
    subst hl
    cases h
theorem plain_exit0 {l : List Candidate} {i : Nat} {last : Int} (h : areCandidates l = false) (h0 : areCandidates l = false → i = 0) : nextId ((l.take i).map (·.id)) last = plainNext l last := by
  rw [h0 h]; simp [plainNext, h, nextId, after]
end Go.Proofs.Ytbhnekiclbfmgaa
