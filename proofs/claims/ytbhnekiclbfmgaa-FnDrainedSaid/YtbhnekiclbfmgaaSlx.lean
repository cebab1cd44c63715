/- A store at a place of an owned slice of numbers. -/
import Derived.Test.YtbhnekiclbfmgaaPut
import Derived.Test.YtbhnekiclbfmgaaDraw
namespace Go.Proofs.Ytbhnekiclbfmgaa
namespace SL
open Go.RowKit
section
variable {C : Cx} {env : Env} {B F : List Ck} {ops : Array Oper} {rest : List Oper}
variable {K : Env → List Ck → Act → World → Prop} {ty T : TypeId} {pos : String} {af : Array Edge} {x y : Operand}
theorem rw_storeOw {E n c i : Nat} {A : Option Addr} {L : List Int} {ch F' : List Ck} {q : Int} (hT : (C.P.info? T).map (·.size) = some 1) (hO : OwS E 1 (PlO intC) (.slice A n c) L ch) (hi : i < L.length)
    (hx : ev env x = some (.pointer (some ((adr A).add (i * 1))))) (hy : ev env y = some (.int .i64 q)) (hp : F.Perm (ch ++ F'))
    (h : ∀ ch', OwS E 1 (PlO intC) (.slice A n c) (L.set i q) ch' → RW C ops rest K env B (ch' ++ F')) :
    RW C ops (⟨none, .store T x y, ty, pos, af, none⟩ :: rest) K env B F := by
  obtain ⟨z, hz⟩ := get_of_lt hi
  obtain ⟨g, pre, rs, c1, mm, c2, h1, cy, h2, rfl, hn, hO1, ⟨rfl, rfl⟩, hO2, rfl, g1, g2, g3⟩ := hO.openAt hz
  have hl1 : c1.length = i * 1 := by rw [hO1.length eInt, List.length_take]; congr 1; omega
  have hx' : ev env x = some (.pointer (some ⟨g, pre.length + c1.length, none⟩)) := by rw [hx]; simp [adr, addr_add, hl1]
  refine rw_perm (B' := ⟨g, E, pre ++ ((c1 ++ (intC z ++ c2)) ++ rs)⟩ :: B) (F' := (h1 ++ ([] ++ h2)) ++ F') ((List.Perm.append_left B hp).trans take_blk) ?_
  refine rw_storeX (i := 0) [.int .i64 q] (pre ++ ((c1 ++ ([.int .i64 q] ++ c2)) ++ rs)) hT hx' hy rfl rfl rfl (by simp only [List.length_append, intC, List.length_cons, List.length_nil]; omega) (fun u hu => by simp at hu; subst hu; rfl) (splice_el (mm := intC z) (vs := [.int .i64 q]) rfl (by rfl)) ?_
  refine rw_perm (B' := B) (F' := (⟨g, E, pre ++ ((c1 ++ ([.int .i64 q] ++ c2)) ++ rs)⟩ :: (h1 ++ ([] ++ h2))) ++ F') take_blk.symm ?_
  refine h _ ?_
  rw [hn, set_split hz]
  refine OwS.closeG (hO1.append (.cons ⟨rfl, rfl⟩ hO2)) ?_ g1 g2 ?_
  · rw [← set_split hz, List.length_set]
  · rw [← g3]; simp [intC]
end
end SL
end Go.Proofs.Ytbhnekiclbfmgaa
