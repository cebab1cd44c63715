/- The elements of slices. -/
import Derived.Test.YtbhnekiclbfmgaaGreatSln
import Derived.Test.YtbhnekiclbfmgaaGreatData
namespace Go.Proofs.YtbhnekiclbfmgaaGreat
open SL Go.RowKit
theorem w64_id {n : Int} (h1 : -9223372036854775808 ≤ n) (h2 : n ≤ 9223372036854775807) : w64 n = n := w64_of h1 h2
theorem eInt : Elem 1 (PlO intC) (Pl intC) := .plain (fun _ => rfl) (fun x u hu => by simp [intC] at hu; subst hu; rfl)
theorem eStr : Elem 1 (PlO strC) (Pl strC) := .plain (fun _ => rfl) (fun x u hu => by simp [strC] at hu; subst hu; rfl)
theorem eCandidate : Elem 3 (PlO Candidate.cells) (Pl Candidate.cells) := .plain (fun _ => rfl) (fun x u hu => by simp [Candidate.cells] at hu; rcases hu with rfl | rfl | rfl <;> rfl)
theorem take_all {α : Type} {l : List α} {i : Nat} (h : l.drop i = []) : l.take i = l := List.take_of_length_le (by have := congrArg List.length h; simp at this; omega)
end Go.Proofs.YtbhnekiclbfmgaaGreat
