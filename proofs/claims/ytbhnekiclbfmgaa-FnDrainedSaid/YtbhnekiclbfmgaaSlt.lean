/- A region that draws its order, walked in every order: a tree. -/
import Derived.Test.YtbhnekiclbfmgaaSld
namespace Go.Proofs.Ytbhnekiclbfmgaa
namespace SL
open Go.RowKit
/-- What is left of a region; L: what has come up. -/
def KA (C : Cx) (k : List Item) (ops : Array Oper) (m : Nat) (L : List Bool) : Env → List Ck → Act → World → Prop :=
  fun _ _ a w => wpAny C.P .any ops (QN fun a w => a.defers = [] ∧ Good C.P C.f C.R k a w) m L.toArray a w
def AW (C : Cx) (k : List Item) (ops : Array Oper) (m : Nat) (L : List Bool) (env : Env) (B F : List Ck) : Prop :=
  ∀ (V : Env) (E : List Ck) a w, a.defers = [] → Fits C.n (env ++ V) a.tmps → Sat C.w0 C.X w (B ++ (F ++ E)) → KA C k ops m L V E a w
section
variable {C : Cx} {k : List Item} {env : Env} {B F : List Ck} {ops : Array Oper} {m : Nat} {L : List Bool}
def Each (C : Cx) (k : List Item) (ops : Array Oper) (m : Nat) (L : List Bool) (env : Env) (B F : List Ck) : List Nat → Prop
  | [] => True
  | j :: js => (∃ o L', ops[j]? = some o ∧ L.set j true = L' ∧ RW C ops [o] (KA C k ops m L') env B F) ∧ Each C k ops m L env B F js
theorem Each.at_ : ∀ {js : List Nat} {j : Nat}, Each C k ops m L env B F js → j ∈ js → ∃ o, ops[j]? = some o ∧ RW C ops [o] (KA C k ops m (L.set j true)) env B F
  | [], _, _, h => by cases h
  | i :: js, j, h, hj => by
    obtain ⟨⟨o, L', h1, rfl, h3⟩, h⟩ := h
    rcases List.mem_cons.1 hj with rfl | hj
    · exact ⟨o, h1, h3⟩
    · exact Each.at_ h hj
theorem aw_done (hr : Region.ready .any ops L.toArray = []) (h : GW C k env B F) : AW C k ops m L env B F := by
  intro V E a w hd hf hs
  have h2 : a.defers = [] ∧ Good C.P C.f C.R k a w := ⟨hd, h E a w hd (hf.sub (Sub.append env V)) hs⟩
  cases m with
  | zero => exact ⟨hr, h2⟩
  | succ m => exact ⟨fun _ => h2, fun j hj => by rw [hr] at hj; cases hj⟩
theorem aw_step (js : List Nat) (hr : Region.ready .any ops L.toArray = js) (hne : js.isEmpty = false) (h : Each C k ops m L env B F js) : AW C k ops (m + 1) L env B F := by
  intro V E a w hd hf hs
  refine ⟨fun hn => ?_, fun j hj => ?_⟩
  · rw [hn] at hr; subst hr; cases hne
  · rw [hr] at hj
    obtain ⟨o, ho, hw⟩ := h.at_ hj
    have e : (L.toArray.setIfInBounds j true) = (L.set j true).toArray := by simp
    rw [e]
    exact wpOp_of_list ho (hw V E a w hd hf hs) fun a' w' h' => h'
theorem rw_aw (h : AW C k ops m L env B F) : RW C ops [] (KA C k ops m L) env B F := rw_nil h
theorem gw_tree {id : Nat} {l : List Oper} (hmix : C.P.follows .mixedOrders = true) (n : Nat) (L : List Bool) (hn : l.toArray.size = n) (hL : List.replicate n false = L) (h : AW C k l.toArray n L env B F) :
    GW C (.code (.region id l.toArray true) :: k) env B F := by
  intro E a w hd hf hs
  subst hL
  refine good_region (wp_region_any hmix ?_)
  rw [hn]
  have h1 := h [] E a _ hd (by simpa using hf) hs.drew
  unfold KA at h1
  simpa using h1
end
end SL
end Go.Proofs.Ytbhnekiclbfmgaa
