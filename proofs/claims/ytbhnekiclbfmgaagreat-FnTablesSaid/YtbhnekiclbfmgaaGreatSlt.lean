/- A region that draws its order, walked in every order: a tree. -/
import Derived.Test.YtbhnekiclbfmgaaGreatSld
namespace Go.Proofs.YtbhnekiclbfmgaaGreat
namespace SL
open Go.RowKit
/-- What is left of a region; L: what has come up. -/
def KA (C : Cx) (k : List Item) (ops : Array Oper) (m : Nat) (L : List Bool) : Env → List Ck → Act → World → Prop :=
  fun _ _ a w => wpAny C.P .any ops (QN fun a w => a.defers = [] ∧ Good C.P C.f C.R k a w) m L.toArray a w
section
variable {C : Cx} {k : List Item} {env : Env} {B F : List Ck} {ops : Array Oper} {m : Nat} {L : List Bool}
def Each (C : Cx) (k : List Item) (ops : Array Oper) (m : Nat) (L : List Bool) (env : Env) (B F : List Ck) : List Nat → Prop
  | [] => True
  | j :: js => (∃ o L', ops[j]? = some o ∧ L.set j true = L' ∧ RW C ops [o] (KA C k ops m L') env B F) ∧ Each C k ops m L env B F js
theorem Each.at_ : ∀ {js : List Nat} {j : Nat}, Each C k ops m L env B F js → j ∈ js → ∃ o, ops[j]? = some o ∧ RW C ops [o] (KA C k ops m (L.set j true)) env B F
  | [], _, _, h => by cases h
  | i :: js, j, h, hj => by
    obtain ⟨⟨o, L', h1, rfl, h3⟩, h⟩ := h
    rcases List.mem_cons.1 hj with rfl | hj
    · exact ⟨o, h1, h3⟩
    · exact Each.at_ h hj
end
end SL
end Go.Proofs.YtbhnekiclbfmgaaGreat
