/- Function values; arrays of booleans; lengths. -/
import Derived.Test.YtbhnekiclbfmgaaSlq
import Derived.ChangeKeysEq
namespace Go.Proofs.Ytbhnekiclbfmgaa
namespace SL
open Go.RowKit

theorem Ck.In.at0 {c : Ck} {w : World} (h : c.In w) : At w ⟨c.b, 0, none⟩ c.cs :=
  ⟨h.lt, fun j u hu => by rw [addr_add, Nat.zero_add, h.cell, hu]⟩
theorem At.sat {w0 w : World} {q : Addr} {cs : List Value} {H : List Ck} (h : At w0 q cs) (hs : Sat w0 [] w H) : At w q cs := h.below hs.below
theorem lenpred_of {n : Nat} (h0 : 0 < n) (hn : n ≤ 134217728) : IntKind.i64.wrap ((n : Int) - 1) = ((n - 1 : Nat) : Int) := by
  rw [w64_of' (by omega) (by omega)]; omega
theorem len_eq_of {n m : Nat} (h : ((n : Int) == (m : Int)) = true) : n = m := by
  have : (n : Int) = m := by simpa using h
  omega
theorem len_ne_of {n m : Nat} (h : ((n : Int) == (m : Int)) = false) : n ≠ m := by
  intro e; simp [e] at h
structure TyA (P : Program) (T e n : Nat) : Prop where
  und : P.underlying T = some (.array n e)
  el : P.underlying e = some .bool
  k : P.cellsOf e = 1
  sz : (P.info? e).map (·.size) = some 1
  guard : P.eqGuardType P.depth T = false
theorem run_part_b {P : Program} {e : TypeId} (he : P.underlying e = some .bool) {xs : Array Value} {o : Nat} {v : Value} (hv : xs[o]? = some v) (w : World) : (part e xs o).run P w = .ok v w := by
  simp [part, isAgg, run_underlying he, hv]
theorem run_eqItems_b {P : Program} {e : TypeId} (he : P.underlying e = some .bool) (xs ys : Array Value) (d : Nat) (w : World) (f g : Nat → Bool) : ∀ (is : List Nat),
    (∀ i ∈ is, xs[i]? = some (.bool (f i)) ∧ ys[i]? = some (.bool (g i))) → (Op.eqItems (d + 1) e 1 xs ys is).run P w = .ok (is.all fun i => f i == g i) w
  | [], _ => by simp [Op.eqItems]
  | i :: is, h => by
    obtain ⟨h1, h2⟩ := h i (by simp)
    have ih := run_eqItems_b he xs ys d w f g is fun j hj => h j (by simp [hj])
    unfold Op.eqItems
    simp only [Nat.mul_one, Sem.run_bind, run_part_b he h1, run_part_b he h2, Go.run_equalIn_bool w d e _ _ he, Result.andThen_ok]
    cases hb : f i == g i
    · simp [hb]
    · simpa [hb] using ih
section
variable {C : Cx} {k : List Item} {env : Env} {B F : List Ck} {ops : Array Oper} {rest : List Oper}
variable {K : Env → List Ck → Act → World → Prop} {d : Nat} {ty : TypeId} {pos : String} {af : Array Edge} {x y z : Operand} {T yt : TypeId}
/-- A store; the blocks behind it written out. -/
theorem rw_storeN {T off i n : Nat} {b T' : Nat} {cs : List Value} {v : Value} (vs cs' : List Value) (B' : List Ck) (hT : (C.P.info? T).map (·.size) = some n) (hx : ev env x = some (.pointer (some ⟨b, off, none⟩))) (hy : ev env y = some v)
    (hB : B[i]? = some ⟨b, T', cs⟩) (hvs : v.cells.toList = vs) (hn : Nat.beq vs.length n = true) (hl : Nat.ble (off + n) cs.length = true) (h1 : vs.all (·.oneCell') = true) (hcs : splice cs off vs = cs') (hB' : B.set i ⟨b, T', cs'⟩ = B')
    (h : RW C ops rest K env B' F) :
    RW C ops (⟨none, .store T x y, ty, pos, af, none⟩ :: rest) K env B F := by
  subst hB'; exact rw_store vs cs' hT hx hy hB hvs hn hl h1 hcs h
theorem rw_makeFunc {g : FuncId} {xs : List Operand} {vs : List Value} (hd : Nat.blt d C.n = true) (hx : evs env xs = some vs) (h : RW C ops rest K ((d, .func (.func g) #[] vs.toArray) :: env) B F) :
    RW C ops (⟨some d, .makeFunc (.func g) #[] xs.toArray, ty, pos, af, none⟩ :: rest) K env B F :=
  rw_step hd (fun ρ hρ E w hs => ⟨w, by have h1 := evs_map hρ hx; simp [execOp, Instr.makeFunc, h1], hs⟩) h
/-- A call of a function that a variable holds. -/
theorem rw_cvF {g : FuncId} {f : Operand} {cap : List Value} {xs : List Operand} {tys : Array TypeId} {vs : List Value} {v : Value} (hd : Nat.blt d C.n = true) (hf : ev env f = some (.func (.func g) #[] cap.toArray))
    (hg : Fun C.P g) (hx : evs env xs = some vs) (hc : ∀ w, Sat C.w0 C.X w (B ++ F) → CV C.P g (vs ++ cap) w v)
    (h : RW C ops rest K ((d, v) :: env) B F) : RW C ops (⟨some d, .call ⟨.value f, xs.toArray, tys⟩, ty, pos, af, none⟩ :: rest) K env B F := by
  refine rw_stepC (g := g) (args := (vs ++ cap).toArray) (fun v' B' F' => v' = v ∧ B' = B ∧ F' = F) hd (fun ρ hρ w => ?_) (fun E w hs => ?_) (fun v' B' F' ⟨h1, h2, h3⟩ => by subst h1 h2 h3; exact h)
  · exact run_call (d := d) (ty := ty) (pos := pos) (af := af) (tys := tys) hg (evs_map hρ hx) (hρ f _ hf) w
  · refine (hc w hs.noE).mono fun e w' ⟨he, hb⟩ => ⟨v, B, F, he, ?_, rfl, rfl, rfl⟩
    have := Sat.call (G := []) (G' := []) (F := B ++ (F ++ E)) (by simpa using hs) (w' := w') ⟨hb.os, hb.tape, hb.output, hb.size, fun b hb' _ => hb.block b hb', by simp, by simp, by simp⟩
    simpa using this
theorem run_eqA {P : Program} {e n : Nat} (h : TyA P T e n) {xs ys : List Bool} (hx : xs.length = n) (hy : ys.length = n) (w : World) :
    (Op.equalIn 10000 T (.agg (xs.map Value.bool).toArray) (.agg (ys.map Value.bool).toArray)).run P w = .ok ((List.range n).all fun i => xs.getD i false == ys.getD i false) w := by
  obtain ⟨i, hi, _⟩ := Option.map_eq_some_iff.1 h.sz
  rw [run_equalIn_array w 9999 _ _ h.und hi, h.k]
  refine run_eqItems_b h.el _ _ 9998 w (fun i => xs.getD i false) (fun i => ys.getD i false) _ fun j hj => ?_
  have hj : j < n := by simpa using hj
  have h1 : j < xs.length := by omega
  have h2 : j < ys.length := by omega
  simp [h1, h2]
/-- An array of booleans written out. -/
theorem rw_buildA {e n : Nat} {zs : List Value} {xs : List (Nat × Operand)} {vs : List Value} (out : List Value) (hd : Nat.blt d C.n = true) (hT : TyA C.P T e n) (hZ : TyZ C.P T zs)
    (hx : evs env (xs.map (·.2)) = some vs) (hf : fillL (fun i => some (i * 1, 1)) zs ((xs.map (·.1)).zip vs) = some out) (h : RW C ops rest K ((d, .agg out.toArray) :: env) B F) :
    RW C ops (⟨some d, .build T xs.toArray, ty, pos, af, none⟩ :: rest) K env B F := by
  refine rw_step hd (fun ρ hρ E w hs => ⟨w, ?_, hs⟩) h
  obtain ⟨v, hz, hzs⟩ := run_zero_of hZ w
  have hm : (xs.map fun (i, x) => (i, ρ x)) = (xs.map (·.1)).zip vs := by
    rw [← evs_map hρ hx]
    clear hx hf
    induction xs with
    | nil => simp
    | cons i is ih => simpa using ih
  have hsz := run_sizeOf_of (P := C.P) hT.sz w
  have hfl := fill_of (fun i => some (i * 1, 1)) ((xs.map (·.1)).zip vs) v.cells out (by rw [hzs]; exact hf)
  have hm' : (xs.toArray.map fun (i, x) => (i, ρ x)).toList = (xs.map (·.1)).zip vs := by simpa using hm
  have hb : (Instr.build T (xs.toArray.map fun (i, x) => (i, ρ x))).run C.P w = .ok (.agg out.toArray) w := by
    unfold Instr.build
    simp only [Sem.run_bind, hz, Result.andThen_ok, run_underlying hT.und, hsz, hm', hfl, Sem.run_pure]
  simp only [execOp, Sem.run_bind, hb, Result.andThen_ok, Sem.run_pure]
theorem eqC_bools : ∀ (xs ys : List Bool), xs.length = ys.length → ((List.range xs.length).all fun i => xs.getD i false == ys.getD i false) = eqC (xs.map Value.bool) (ys.map Value.bool)
  | [], [], _ => rfl
  | [], _ :: _, h => by cases h
  | _ :: _, [], h => by cases h
  | x :: xs, y :: ys, h => by
    have ih := eqC_bools xs ys (by simpa using h)
    simp only [List.length_cons, List.range_succ_eq_map, List.all_cons, List.all_map, List.map_cons, eqC, veq, ← ih]
    simp [Function.comp_def]
theorem rw_eqlA {e n : Nat} (xs ys : List Bool) {us vs : List Value} (hd : Nat.blt d C.n = true) (hT : TyA C.P T e n) (hx : ev env x = some (.agg us.toArray)) (hy : ev env y = some (.agg vs.toArray))
    (hus : us = xs.map Value.bool) (hvs : vs = ys.map Value.bool) (h1 : xs.length = n) (h2 : ys.length = n)
    (h : RW C ops rest K ((d, .bool (eqC us vs)) :: env) B F) : RW C ops (⟨some d, .binOp .eql T x y yt, ty, pos, af, none⟩ :: rest) K env B F := by
  subst hus hvs
  refine rw_bin hd hx hy (fun w => ?_) h
  rw [← eqC_bools xs ys (by omega), h1]
  simp only [Sem.run_bind, run_eqGuard_agg w _ _ _ _ _ _ hT.guard, Result.andThen_ok, run_eql_struct, run_eqA hT h1 h2]
end
end SL
end Go.Proofs.Ytbhnekiclbfmgaa
