/- Equality of plain structs. -/
import Derived.Test.YtbhnekiclbfmgaaSln
import Derived.Laws.StructEq
namespace Go.Proofs.Ytbhnekiclbfmgaa
namespace SL
open Go.RowKit

def veq : Value → Value → Bool
  | .int _ a, .int _ b => a == b
  | .bool a, .bool b => a == b
  | .string a, .string b => a.toList == b.toList
  | _, _ => false
def eqC : List Value → List Value → Bool
  | [], [] => true
  | x :: xs, y :: ys => veq x y && eqC xs ys
  | _, _ => false
/-- Kinds of cells: 0 int, 1 bool, 2 string. -/
def kd (v : Value) : Nat := match v with | .int .i64 _ => 0 | .bool _ => 1 | .string _ => 2 | _ => 3
def kindOf (P : Program) (t : TypeId) : Option Nat := match P.underlying t with | some (.int .i64) => some 0 | some .bool => some 1 | some .string => some 2 | _ => none
def flatFields (P : Program) : Nat → List Field → Option (List Nat)
  | _, [] => some []
  | o, f :: fs => if (f.name == "_") = false ∧ f.offset = o then match kindOf P f.type, flatFields P (o + 1) fs with | some k, some ks => some (k :: ks) | _, _ => none else none
def isSt : Option TypeDesc → Bool
  | some (.struct _) => true
  | _ => false
structure TyQ (P : Program) (T : Nat) (ks : List Nat) : Prop where
  und : isSt (P.underlying T) = true
  fs : flatFields P 0 (P.fieldsOf T).toList = some ks
  stood : P.stoodInHeld T = false
  guard : P.eqGuardType P.depth T = false

theorem kindOf_p {P : Program} {t k : Nat} (h : kindOf P t = some k) : isP (P.underlying t) = true := by
  unfold kindOf at h
  split at h <;> simp_all [isP]
theorem run_part {P : Program} {t k : Nat} (h : kindOf P t = some k) {xs : Array Value} {o : Nat} {v : Value} (hv : xs[o]? = some v) (w : World) : (part t xs o).run P w = .ok v w := by
  have h1 := kindOf_p h
  cases hu : P.underlying t with
  | none => rw [hu] at h1; cases h1
  | some d => rw [hu] at h1; cases d <;> simp [isP] at h1 <;> simp [part, isAgg, run_underlying hu, hv]
theorem run_eqPrim {P : Program} {t k : Nat} (h : kindOf P t = some k) {x y : Value} (hx : kd x = k) (hy : kd y = k) (d : Nat) (w : World) : (Op.equalIn (d + 1) t x y).run P w = .ok (veq x y) w := by
  unfold kindOf at h
  split at h
  · rename_i hu; injection h with h; subst h
    unfold kd at hx hy
    split at hx <;> simp at hx
    split at hy <;> simp at hy
    simp [run_equalIn_int w d t _ _ _ _ hu, veq]
  · rename_i hu; injection h with h; subst h
    unfold kd at hx hy
    split at hx <;> simp at hx
    split at hy <;> simp at hy
    simp [Go.run_equalIn_bool w d t _ _ hu, veq]
  · rename_i hu; injection h with h; subst h
    unfold kd at hx hy
    split at hx <;> simp at hx
    split at hy <;> simp at hy
    simp [run_equalIn_string w d t _ _ hu, veq]
  · cases h
theorem run_eqFields {P : Program} {xs ys : List Value} (w : World) (d : Nat) : ∀ (fs : List Field) (ks : List Nat) (o : Nat), flatFields P o fs = some ks → (xs.drop o).map kd = ks → (ys.drop o).map kd = ks →
    (Op.eqFields (d + 1) xs.toArray ys.toArray fs).run P w = .ok (eqC (xs.drop o) (ys.drop o)) w
  | [], ks, o, h, hx, hy => by
    simp only [flatFields, Option.some.injEq] at h
    subst h
    have h1 : xs.drop o = [] := by simpa using hx
    have h2 : ys.drop o = [] := by simpa using hy
    simp [Op.eqFields, h1, h2, eqC]
  | f :: fs, ks, o, h, hx, hy => by
    unfold flatFields at h
    split at h
    · rename_i hc
      cases hk : kindOf P f.type with
      | none => simp [hk] at h
      | some k =>
        cases hr : flatFields P (o + 1) fs with
        | none => simp [hk, hr] at h
        | some ks' =>
          simp only [hk, hr, Option.some.injEq] at h
          subst h
          cases hxs : xs.drop o with
          | nil => simp [hxs] at hx
          | cons x xs' =>
            cases hys : ys.drop o with
            | nil => simp [hys] at hy
            | cons y ys' =>
              rw [hxs] at hx; rw [hys] at hy
              simp only [List.map_cons, List.cons.injEq] at hx hy
              have hx1 : xs[o]? = some x := by have := congrArg (·[0]?) hxs; simpa using this
              have hy1 : ys[o]? = some y := by have := congrArg (·[0]?) hys; simpa using this
              have hx2 : xs.drop (o + 1) = xs' := by rw [← List.drop_drop, hxs]; rfl
              have hy2 : ys.drop (o + 1) = ys' := by rw [← List.drop_drop, hys]; rfl
              have ih := run_eqFields w d fs ks' (o + 1) hr (by rw [hx2]; exact hx.2) (by rw [hy2]; exact hy.2)
              have hn : f.name ≠ "_" := by simpa using hc.1
              have p1 := run_part (P := P) hk (xs := xs.toArray) (o := f.offset) (v := x) (by rw [hc.2]; simpa using hx1) w
              have p2 := run_part (P := P) hk (xs := ys.toArray) (o := f.offset) (v := y) (by rw [hc.2]; simpa using hy1) w
              have p3 := run_eqPrim (P := P) hk hx.1 hy.1 d w
              unfold Op.eqFields
              rw [if_pos hn]
              simp only [Sem.run_bind, p1, p2, p3, Result.andThen_ok]
              rw [hx2, hy2] at ih
              cases hv : veq x y
              · simp [eqC, hv]
              · simp [eqC, hv, ih]
    · cases h

section
variable {C : Cx} {k : List Item} {env : Env} {B F : List Ck} {ops : Array Oper} {rest : List Oper}
variable {K : Env → List Ck → Act → World → Prop} {d : Nat} {ty : TypeId} {pos : String} {af : Array Edge} {x y z : Operand} {T yt : TypeId}
theorem run_eqQ {P : Program} {ks : List Nat} (h : TyQ P T ks) {xs ys : List Value} (hx : xs.map kd = ks) (hy : ys.map kd = ks) (w : World) : (Op.equalIn 10000 T (.agg xs.toArray) (.agg ys.toArray)).run P w = .ok (eqC xs ys) w := by
  have hu : P.underlying T = some (.struct (P.fieldsOf T)) := by
    have h1 := h.und
    unfold Program.fieldsOf
    cases hu : P.underlying T with
    | none => rw [hu] at h1; cases h1
    | some d => rw [hu] at h1; cases d <;> simp [isSt] at h1 <;> rfl
  rw [run_equalIn_struct w 9999 T _ _ hu h.stood]
  have := run_eqFields (P := P) (xs := xs) (ys := ys) w 9998 (P.fieldsOf T).toList ks 0 h.fs (by simpa using hx) (by simpa using hy)
  simpa using this
theorem rw_eqlQ {ks : List Nat} {xs ys : List Value} (hd : Nat.blt d C.n = true) (hT : TyQ C.P T ks) (hx : ev env x = some (.agg xs.toArray)) (hy : ev env y = some (.agg ys.toArray)) (hkx : xs.map kd = ks) (hky : ys.map kd = ks)
    (h : RW C ops rest K ((d, .bool (eqC xs ys)) :: env) B F) : RW C ops (⟨some d, .binOp .eql T x y yt, ty, pos, af, none⟩ :: rest) K env B F := by
  refine rw_bin hd hx hy (fun w => ?_) h
  simp only [Sem.run_bind, run_eqGuard_agg w _ _ _ _ _ _ hT.guard, Result.andThen_ok, run_eql_struct, run_eqQ hT hkx hky]
theorem rw_neqQ {ks : List Nat} {xs ys : List Value} (hd : Nat.blt d C.n = true) (hT : TyQ C.P T ks) (hx : ev env x = some (.agg xs.toArray)) (hy : ev env y = some (.agg ys.toArray)) (hkx : xs.map kd = ks) (hky : ys.map kd = ks)
    (h : RW C ops rest K ((d, .bool (!(eqC xs ys))) :: env) B F) : RW C ops (⟨some d, .binOp .neq T x y yt, ty, pos, af, none⟩ :: rest) K env B F := by
  refine rw_bin hd hx hy (fun w => ?_) h
  simp only [Sem.run_bind, run_eqGuard_agg w _ _ _ _ _ _ hT.guard, Result.andThen_ok, run_neq_struct, run_eqQ hT hkx hky]
end
end SL
end Go.Proofs.Ytbhnekiclbfmgaa
