/- Short names. -/
import Derived.Test.YtbhnekiclbfmgaaSln
universe u
namespace Go.Proofs.Ytbhnekiclbfmgaa
namespace SL
theorem MV : type_of% @rw_move := @rw_move
theorem AS : type_of% @rw_assign := @rw_assign
theorem FA : type_of% @rw_fieldAddr := @rw_fieldAddr
theorem FX : type_of% @rw_fieldAddrX := @rw_fieldAddrX
theorem LD : type_of% @rw_load := @rw_load
theorem LS : type_of% @rw_load_s := @rw_load_s
theorem ST : type_of% @rw_store := @rw_store
theorem ON : type_of% @rw_on := @rw_on
theorem OF : type_of% @rw_off := @rw_off
theorem OU : type_of% @rw_offu := @rw_offu
theorem ND : type_of% @rw_end := @rw_end
theorem SQ : type_of% @gw_seq := @gw_seq
theorem RG : type_of% @gw_region := @gw_region
theorem BK : type_of% @gw_block := @gw_block
theorem IB : type_of% @gw_inBlock := @gw_inBlock
theorem EX : type_of% @gw_exit := @gw_exit
theorem SK : type_of% @gw_skip := @gw_skip
theorem CT : type_of% @gw_condT := @gw_condT
theorem CF : type_of% @gw_condF := @gw_condF
theorem PT : type_of% @rw_pT := @rw_pT
theorem PF : type_of% @rw_pF := @rw_pF
theorem AL : type_of% @rw_alloc := @rw_alloc
theorem BX : type_of% @rw_box := @rw_box
theorem NT : type_of% @rw_not := @rw_not
theorem XT : type_of% @rw_extract := @rw_extract
theorem CV1 : type_of% @rw_cv := @rw_cv
theorem CN1 : type_of% @rw_cn := @rw_cn
theorem DT : type_of% @dw_det := @dw_det
theorem DA : type_of% @dw_add := @dw_add
theorem EQ1 : type_of% @rw_eql := @rw_eql
theorem NS : type_of% @rw_neqSelf := @rw_neqSelf
theorem Z {α : Sort u} {a : α} : a = a := rfl
theorem MR {α : Type u} {a : α} {l m : List α} (h : a ∈ m) : a ∈ l ++ m := List.mem_append_right l h
theorem ML {α : Type u} {a : α} {l m : List α} (h : a ∈ l) : a ∈ l ++ m := List.mem_append_left m h
theorem PR {α : Type u} {l : List α} : l.Perm l := List.Perm.refl l
open Go.RowKit
/-! ### operations that are passed over, many at once -/
def skipRun (n : Nat) (ops : Array Oper) : List Oper → Env → List Oper × Env
  | [], e => ([], e)
  | ⟨none, op, ty, pos, af, g⟩ :: rest, e => (⟨none, op, ty, pos, af, g⟩ :: rest, e)
  | ⟨some d, op, ty, pos, af, none⟩ :: rest, e => (⟨some d, op, ty, pos, af, none⟩ :: rest, e)
  | ⟨some d, op, ty, pos, af, some (j, b)⟩ :: rest, e =>
    match ops[j]?.bind (·.dst), Nat.blt d n with
    | some dj, true =>
      match look e dj, b with
      | some (.bool true), false => skipRun n ops rest ((d, undef) :: e)
      | some (.bool false), true => skipRun n ops rest ((d, undef) :: e)
      | some (.tuple ⟨[]⟩), _ => skipRun n ops rest ((d, undef) :: e)
      | _, _ => (⟨some d, op, ty, pos, af, some (j, b)⟩ :: rest, e)
    | _, _ => (⟨some d, op, ty, pos, af, some (j, b)⟩ :: rest, e)
section
variable {C : Cx} {k : List Item} {env : Env} {B F : List Ck} {ops : Array Oper} {rest : List Oper} {K : Env → List Ck → Act → World → Prop}
theorem rw_caseL {t : Bool} {j : Nat} (hj : look env j = some (.bool t)) (h1 : t = true → RW C ops rest K ((j, .bool true) :: env) B F) (h2 : t = false → RW C ops rest K ((j, .bool false) :: env) B F) : RW C ops rest K env B F := by
  have key : ∀ u, u = t → RW C ops rest K ((j, .bool u) :: env) B F → RW C ops rest K env B F := by
    intro u hu h
    subst hu
    intro V E a w hd hf hs
    refine h V E a w hd ⟨hf.1, fun i v hi => hf.2 i v ?_⟩ hs
    simp only [List.cons_append, look] at hi
    cases hb : Nat.beq j i with
    | true =>
      have : j = i := Nat.eq_of_beq_eq_true hb
      subst this
      simp at hi
      rw [look_append hj, hi]
    | false => simpa [hb] using hi
  cases t with
  | true => exact key _ rfl (h1 rfl)
  | false => exact key _ rfl (h2 rfl)
theorem skipRun_sound : ∀ (rest : List Oper) (env : Env), RW C ops (skipRun C.n ops rest env).1 K (skipRun C.n ops rest env).2 B F → RW C ops rest K env B F
  | [], _, h => h
  | ⟨none, _, _, _, _, _⟩ :: _, _, h => h
  | ⟨some _, _, _, _, _, none⟩ :: _, _, h => h
  | ⟨some d, op, ty, pos, af, some (j, b)⟩ :: rest, env, h => by
    unfold skipRun at h
    split at h
    · rename_i dj h1 h2
      split at h
      · rename_i h3
        exact rw_off (j := j) (dj := dj) (b := false) (t := true) h1 h3 rfl (by simpa using h2) (skipRun_sound rest _ h)
      · rename_i h3
        exact rw_off (j := j) (dj := dj) (b := true) (t := false) h1 h3 rfl (by simpa using h2) (skipRun_sound rest _ h)
      · rename_i h3
        exact rw_offu (j := j) (dj := dj) h1 h3 (by simpa using h2) (skipRun_sound rest _ h)
      · exact h
    · exact h
/-- All that is passed over here, at once. -/
theorem SKP {rest' : List Oper} {env' : Env} (h : skipRun C.n ops rest env = (rest', env')) (h2 : RW C ops rest' K env' B F) : RW C ops rest K env B F :=
  skipRun_sound rest env (by rw [h]; exact h2)
theorem rw_lit {t b : Bool} {j : Nat} (hj : look env j = some (.bool t)) (ht : t = b) (h : RW C ops rest K ((j, .bool b) :: env) B F) : RW C ops rest K env B F := by
  subst ht
  exact rw_caseL hj (fun e => by subst e; exact h) (fun e => by subst e; exact h)
end

/-! ### drawn regions: literals, and runs that are passed over -/
def offAt (n : Nat) (ops : Array Oper) (σ : Env) (j : Nat) : Option Nat :=
  match ops[j]? with
  | some ⟨some d, op, ty, pos, af, some (g, b)⟩ =>
    match ops[g]?.bind (·.dst), Nat.blt d n with
    | some dj, true =>
      match look (restr σ (Oper.looksAt ops ⟨some d, op, ty, pos, af, some (g, b)⟩)) dj, b with
      | some (.bool true), false => some d
      | some (.bool false), true => some d
      | some (.tuple ⟨[]⟩), _ => some d
      | _, _ => none
    | _, _ => none
  | _ => none
def plainK : Kd → Bool
  | .det => true
  | .detB => true
  | .chg => true
  | _ => false
def dskRun (n : Nat) (ops : Array Oper) : List (Nat × Kd) → Env → List (Nat × Kd) × Env
  | [], σ => ([], σ)
  | (j, k) :: π, σ => match offAt n ops σ j, plainK k with
    | some d, true => dskRun n ops π ((d, undef) :: σ)
    | _, _ => ((j, k) :: π, σ)
section
variable {C : Cx} {σ : Env} {B F : List Ck} {ops : Array Oper} {tl : Env → List Ck → Prop} {π : List (Nat × Kd)}
theorem offAt_sound {j d : Nat} (h : offAt C.n ops σ j = some d) : ∃ o, ops[j]? = some o ∧ o.dst = some d ∧ ∀ (K : Env → List Ck → Act → World → Prop) F, RW C ops [] K ((d, undef) :: restr σ (o.looksAt ops)) B F → RW C ops [o] K (restr σ (o.looksAt ops)) B F := by
  unfold offAt at h
  split at h
  · rename_i d' op ty pos af g b ho
    split at h
    · rename_i dj h1 h2
      split at h
      · rename_i h3
        cases h
        exact ⟨_, ho, rfl, fun K F hk => rw_off (j := g) (dj := dj) (b := false) (t := true) h1 h3 rfl (by simpa using h2) hk⟩
      · rename_i h3
        cases h
        exact ⟨_, ho, rfl, fun K F hk => rw_off (j := g) (dj := dj) (b := true) (t := false) h1 h3 rfl (by simpa using h2) hk⟩
      · rename_i h3
        cases h
        exact ⟨_, ho, rfl, fun K F hk => rw_offu (j := g) (dj := dj) h1 h3 (by simpa using h2) hk⟩
      · cases h
    · cases h
  · cases h
theorem dskRun_sound : ∀ (π : List (Nat × Kd)) (σ : Env), DW C ops B tl (dskRun C.n ops π σ).1 (dskRun C.n ops π σ).2 F → DW C ops B tl π σ F
  | [], _, h => h
  | (j, k) :: π, σ, h => by
    unfold dskRun at h
    split at h
    · rename_i d h1 h2
      obtain ⟨o, ho, hd, ha⟩ := offAt_sound (B := B) h1
      have ih := dskRun_sound π _ h
      cases k <;> first | (cases h2; done) | skip
      · exact dw_det ho hd (fun K => ha K F) ih
      · exact dw_detB ho hd (fun K => ha K []) ih
      · exact dw_chg0 ho hd (fun K => ha K F) ih
    · exact h
theorem DSK {π' : List (Nat × Kd)} {σ' : Env} (h : dskRun C.n ops π σ = (π', σ')) (h2 : DW C ops B tl π' σ' F) : DW C ops B tl π σ F :=
  dskRun_sound π σ (by rw [h]; exact h2)
theorem look_same {j : Nat} {v : Value} (hj : look σ j = some v) (i : Nat) : look ((j, v) :: σ) i = look σ i := by
  simp only [look]
  cases hb : Nat.beq j i with
  | true =>
    have : j = i := Nat.eq_of_beq_eq_true hb
    subst this
    exact hj.symm
  | false => rfl
variable {ts : List Oper} {K : Env → List Ck → Act → World → Prop} {k : List Item}
theorem dw_lit {t b : Bool} {j : Nat} (hj : look σ j = some (.bool t)) (ht : t = b) (h : DW C ops B (fun σ F => RW C ops ts (KG C k) σ B F) π ((j, .bool b) :: σ) F) : DW C ops B (fun σ F => RW C ops ts (KG C k) σ B F) π σ F := by
  subst ht
  exact DW.congr (fun σ σ' F F' hl hp h => rw_env hl (rw_perm (hp.symm.append_left B) h)) π _ _ F F (look_same hj) (.refl _) h
theorem dw_caseL {t : Bool} {j : Nat} (hj : look σ j = some (.bool t)) (h1 : t = true → DW C ops B (fun σ F => RW C ops ts (KG C k) σ B F) π ((j, .bool true) :: σ) F) (h2 : t = false → DW C ops B (fun σ F => RW C ops ts (KG C k) σ B F) π ((j, .bool false) :: σ) F) :
    DW C ops B (fun σ F => RW C ops ts (KG C k) σ B F) π σ F := by
  cases t with
  | true => exact dw_lit hj rfl (h1 rfl)
  | false => exact dw_lit hj rfl (h2 rfl)
theorem dw_caseN {t : Bool} {j : Nat} (hj : look σ j = some (.bool (!t))) (h1 : t = false → DW C ops B (fun σ F => RW C ops ts (KG C k) σ B F) π ((j, .bool true) :: σ) F) (h2 : t = true → DW C ops B (fun σ F => RW C ops ts (KG C k) σ B F) π ((j, .bool false) :: σ) F) :
    DW C ops B (fun σ F => RW C ops ts (KG C k) σ B F) π σ F := by
  cases t with
  | true => exact dw_lit hj rfl (h2 rfl)
  | false => exact dw_lit hj rfl (h1 rfl)
theorem rw_caseN {rest : List Oper} {t : Bool} {j : Nat} (hj : look σ j = some (.bool (!t))) (h1 : t = false → RW C ops rest K ((j, .bool true) :: σ) B F) (h2 : t = true → RW C ops rest K ((j, .bool false) :: σ) B F) : RW C ops rest K σ B F := by
  cases t with
  | true => exact rw_lit hj rfl (h2 rfl)
  | false => exact rw_lit hj rfl (h1 rfl)
theorem gw_condN {c : Operand} {x y : Code} {t : Bool} (hc : ev σ c = some (.bool (!t))) (h1 : t = false → GW C (.code x :: k) σ B F)
    (h2 : t = true → GW C (.code y :: k) σ B F) : GW C (.code (.cond c x y) :: k) σ B F := by
  cases t with
  | true => exact gw_false hc (h2 rfl)
  | false => exact gw_true hc (h1 rfl)
abbrev dd (j : Nat) : Nat × Kd := (j, .det)
theorem FD : ∀ {π : List (Nat × Kd)}, π.all (fun p => match p.2 with | .free _ _ => false | _ => true) = true → FreeOk C ops π
  | [], _ => free_nil
  | (j, k) :: π, h => by
    simp only [List.all_cons, Bool.and_eq_true] at h
    intro j' T zs hm
    rcases List.mem_cons.1 hm with h1 | h1
    · cases h1
      cases h.1
    · exact FD h.2 _ _ _ h1
theorem DM {j d : Nat} {x : Operand} {ty : TypeId} {pos : String} {af : Array Edge} {v : Value} (ho : ops[j]? = some ⟨some d, .move x, ty, pos, af, none⟩)
    (hd : Nat.blt d C.n = true) (hx : ev (restr σ (Oper.looksAt ops ⟨some d, .move x, ty, pos, af, none⟩)) x = some v)
    (h : DW C ops B tl π ((d, v) :: σ) F) : DW C ops B tl ((j, .det) :: π) σ F :=
  dw_det ho rfl (fun _ hk => rw_move hd hx hk) h
theorem RT {fn : Func} {w : World} {n t : Nat} {f : FuncId} {P : Program} {v u : Value} (hfn : P.funcs[f]? = some fn) (hr : fn.results = #[.tmp t]) (hu : look σ t = some u) (he : u = v) :
    GW ⟨P, f, n, w, [], fun e w' => e = .returned v ∧ Below w.heap.size w w'⟩ (.code .ret :: k) σ B F :=
  ret_cv hfn (res1 hfn hr (rv_tmp hu)) he
theorem RTE {fn : Func} {w : World} {n t : Nat} {f : FuncId} {P : Program} {v u : Value} (hfn : P.funcs[f]? = some fn) (hr : fn.results = #[.tmp t]) (hu : look σ t = some u) (he : u = v) :
    GW ⟨P, f, n, w, [], fun e w' => e = .returned v ∧ Below w.heap.size w w'⟩ [] σ B F :=
  ret_cvE hfn (res1 hfn hr (rv_tmp hu)) he
end
theorem pp {a b c X : List Ck} (h : X.Perm (b ++ c)) : (a ++ X).Perm (b ++ (a ++ c)) := (h.append_left _).trans (pullc _ _ _)
theorem pg {c F G G' : List Ck} (h : F.Perm (c ++ G)) (h2 : G.Perm G') : F.Perm (c ++ G') := h.trans (h2.append_left _)
theorem aA {α : Type u} {a b c : List α} : a ++ b ++ c = a ++ (b ++ c) := List.append_assoc a b c
theorem nA {α : Type u} {a : List α} : [] ++ a = a := List.nil_append a
theorem aN {α : Type u} {a : List α} : a ++ [] = a := List.append_nil a
theorem cA {α : Type u} {x : α} {a b : List α} : (x :: a) ++ b = x :: (a ++ b) := List.cons_append
end SL
end Go.Proofs.Ytbhnekiclbfmgaa
