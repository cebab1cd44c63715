/- Slices in the small logic: what can be read, what is owned, len, index, loads, make, append, loops. -/
import Derived.Test.YtbhnekiclbfmgaaSld
import Derived.Maps.AppendAt
namespace Go.Proofs.Ytbhnekiclbfmgaa
namespace SL
open Go.RowKit

theorem block_add (a : Addr) (n : Nat) : (a.add n).block = a.block := by unfold Addr.add; split <;> rfl
theorem add_add (a : Addr) (i j : Nat) : (a.add i).add j = a.add (i + j) := by
  unfold Addr.add
  by_cases hi : i = 0 <;> by_cases hj : j = 0 <;> simp [hi, hj, Nat.add_assoc]
theorem add_zero (a : Addr) : a.add 0 = a := by unfold Addr.add; simp
def adr (A : Option Addr) : Addr := match A with | some a => a | none => ⟨0, 0, none⟩

/-- These cells lie from q on. -/
def At (w : World) (q : Addr) (cs : List Value) : Prop := q.block < w.heap.size ∧ ∀ (j : Nat) (u : Value), cs[j]? = some u → w.cell? (q.add j) = some u
/-- The slice with address A reads as the list l: the cells of each element (k of them) stand in R to it. -/
def RdL {α : Type} (w : World) (k : Nat) (R : World → List Value → α → Prop) (A : Option Addr) (l : List α) : Prop :=
  (0 < l.length → ∃ a, A = some a) ∧ ∀ (i : Nat) (x : α), l[i]? = some x → ∃ cs, R w cs x ∧ At w ((adr A).add (i * k)) cs
/-- Elements without slices. -/
def Pl {α : Type} (f : α → List Value) : World → List Value → α → Prop := fun _ cs x => cs = f x
/-- What is read stays. -/
def Keeps {α : Type} (R : World → List Value → α → Prop) : Prop := ∀ w w' cs x, Below w.heap.size w w' → R w cs x → R w' cs x
theorem Pl.keeps {α : Type} {f : α → List Value} : Keeps (Pl f) := fun _ _ _ _ _ h => h

section
variable {α : Type} {w w' : World} {k : Nat} {R : World → List Value → α → Prop} {A : Option Addr} {l : List α} {q : Addr} {cs : List Value}
theorem At.below (h : At w q cs) (hb : Below w.heap.size w w') : At w' q cs :=
  ⟨Nat.lt_of_lt_of_le h.1 hb.size, fun j u hu => (hb.cell (by rw [block_add]; exact h.1)).trans (h.2 j u hu)⟩
theorem RdL.below (hR : Keeps R) (h : RdL w k R A l) (hb : Below w.heap.size w w') : RdL w' k R A l :=
  ⟨h.1, fun i x hx => by obtain ⟨cs, h1, h2⟩ := h.2 i x hx; exact ⟨cs, hR _ _ _ _ hb h1, h2.below hb⟩⟩
theorem RdL.nil (w : World) (k : Nat) (R : World → List Value → α → Prop) (A : Option Addr) : RdL w k R A [] := ⟨fun h => by simp at h, fun i x h => by simp at h⟩
theorem RdL.some (h : RdL w k R A l) {i : Nat} (hi : i < l.length) : A = some (adr A) := by
  obtain ⟨a, rfl⟩ := h.1 (by omega)
  rfl
theorem RdL.get (h : RdL w k R A l) {i : Nat} {x : α} (hx : l[i]? = Option.some x) : ∃ cs, R w cs x ∧ At w ((adr A).add (i * k)) cs := h.2 i x hx
theorem RdL.plain {f : α → List Value} (h : RdL w k (Pl f) A l) {i : Nat} {x : α} (hx : l[i]? = Option.some x) : At w ((adr A).add (i * k)) (f x) := by
  obtain ⟨cs, rfl, h2⟩ := h.2 i x hx
  exact h2
theorem At.ld {w0 : World} {H : List Ck} (h : At w0 q cs) (hs : Sat w0 [] w H) {j : Nat} {u : Value} (hj : cs[j]? = Option.some u) : w.cell? (q.add j) = Option.some u := (h.below hs.below).2 j u hj
theorem At.ld0 {w0 : World} {H : List Ck} (h : At w0 q cs) (hs : Sat w0 [] w H) {u : Value} (hj : cs[0]? = Option.some u) : w.cell? q = Option.some u := by
  have := h.ld hs hj; rwa [add_zero] at this
theorem At.lds {w0 : World} {H : List Ck} (h : At w0 q cs) (hs : Sat w0 [] w H) {off n : Nat} {vs : List Value} (hv : cut cs off n = vs) (j : Nat) (u : Value) (hj : vs[j]? = Option.some u) :
    w.cell? ((q.add off).add j) = Option.some u := by
  subst hv
  rw [add_add]
  refine h.ld hs ?_
  unfold cut at hj
  rw [List.getElem?_take] at hj
  split at hj
  · simpa using hj
  · cases hj
theorem At.lds0 {w0 : World} {H : List Ck} (h : At w0 q cs) (hs : Sat w0 [] w H) {n : Nat} {vs : List Value} (hv : cut cs 0 n = vs) (j : Nat) (u : Value) (hj : vs[j]? = Option.some u) :
    w.cell? (q.add j) = Option.some u := by
  have := h.lds hs hv j u hj; rwa [add_zero] at this
theorem RdL.sat {w0 : World} {H : List Ck} (hR : Keeps R) (h : RdL w0 k R A l) (hs : Sat w0 [] w H) : RdL w k R A l := h.below hR hs.below
end

section
variable {C : Cx} {k : List Item} {env : Env} {B F : List Ck} {ops : Array Oper} {rest : List Oper}
variable {K : Env → List Ck → Act → World → Prop} {d : Nat} {ty : TypeId} {pos : String} {af : Array Edge} {x y z : Operand}

/-! ### len, min, max -/
theorem run_builtin {ρ : Operand → Value} {b : Builtin} {xs : List Operand} {tys : Array TypeId} {P : Program} {vs : List Value} {r : Value} {w w' : World} (hx : xs.map ρ = vs)
    (hb : ∀ cs, (builtin b tys ty cs vs.toArray).run P w = .ok (.value r) w') :
    (execOp ρ ⟨some d, .call ⟨.builtin b, xs.toArray, tys⟩, ty, pos, af, none⟩).run P w = .ok (.value r) w' := by
  simp only [execOp, resolve, invoke, Sem.run_bind, Sem.run_pure, Result.andThen_ok, List.map_toArray, hx]
  exact hb _
theorem rw_len {T E n c : Nat} {A : Option Addr} {kk : Nat} (hd : Nat.blt d C.n = true) (hT : TyE C.P T E kk) (hx : ev env x = some (.slice A n c)) (h : RW C ops rest K ((d, .int .i64 (n : Int)) :: env) B F) :
    RW C ops (⟨some d, .call ⟨.builtin .len, #[x], #[T]⟩, ty, pos, af, none⟩ :: rest) K env B F :=
  rw_step hd (fun ρ hρ E w hs => ⟨w, run_builtin (xs := [x]) (vs := [.slice A n c]) (by simp [hρ x _ hx]) (fun cs => by simp [builtin, Builtin.len_, run_underlying hT.und, goInt]), hs⟩) h
theorem rw_lenS {T : Nat} {s : ByteArray} (hd : Nat.blt d C.n = true) (hT : C.P.underlying T = some .string) (hx : ev env x = some (.string s)) (h : RW C ops rest K ((d, .int .i64 (s.size : Int)) :: env) B F) :
    RW C ops (⟨some d, .call ⟨.builtin .len, #[x], #[T]⟩, ty, pos, af, none⟩ :: rest) K env B F :=
  rw_step hd (fun ρ hρ E w hs => ⟨w, run_builtin (xs := [x]) (vs := [.string s]) (by simp [hρ x _ hx]) (fun cs => by simp [builtin, Builtin.len_, run_underlying hT, goInt]), hs⟩) h
theorem rw_max {tys : Array TypeId} {IK : IntKind} {p q : Int} (hd : Nat.blt d C.n = true) (hx : ev env x = some (.int IK p)) (hy : ev env y = some (.int IK q)) (h : RW C ops rest K ((d, .int IK (max p q)) :: env) B F) :
    RW C ops (⟨some d, .call ⟨.builtin .max, #[x, y], tys⟩, ty, pos, af, none⟩ :: rest) K env B F :=
  rw_step hd (fun ρ hρ E w hs => ⟨w, run_builtin (xs := [x, y]) (vs := [.int IK p, .int IK q]) (by simp [hρ x _ hx, hρ y _ hy]) (fun cs => by
    simp [builtin, Builtin.max_, Builtin.max2, Int.max_def]; split <;> split <;> omega), hs⟩) h
theorem rw_min {tys : Array TypeId} {IK : IntKind} {p q : Int} (hd : Nat.blt d C.n = true) (hx : ev env x = some (.int IK p)) (hy : ev env y = some (.int IK q)) (h : RW C ops rest K ((d, .int IK (min p q)) :: env) B F) :
    RW C ops (⟨some d, .call ⟨.builtin .min, #[x, y], tys⟩, ty, pos, af, none⟩ :: rest) K env B F :=
  rw_step hd (fun ρ hρ E w hs => ⟨w, run_builtin (xs := [x, y]) (vs := [.int IK p, .int IK q]) (by simp [hρ x _ hx, hρ y _ hy]) (fun cs => by
    simp [builtin, Builtin.min_, Builtin.min2, Int.min_def]; split <;> split <;> omega), hs⟩) h

/-! ### the address of an element; a load from outside -/
theorem rw_indexAddr {T E n c kk : Nat} {p : Int} {A : Option Addr} {IK : IntKind} (i : Nat) (hd : Nat.blt d C.n = true) (hT : TyE C.P T E kk) (hx : ev env x = some (.slice A n c)) (hy : ev env y = some (.int IK p))
    (hp : p = (i : Int)) (hA : A = some (adr A)) (hi : i < n)
    (h : RW C ops rest K ((d, .pointer (some ((adr A).add (i * kk)))) :: env) B F) :
    RW C ops (⟨some d, .indexAddr T x y, ty, pos, af, none⟩ :: rest) K env B F := by
  obtain ⟨a, rfl⟩ : ∃ a, A = some a := ⟨_, hA⟩
  subst hp
  refine rw_step hd (fun ρ hρ E w hs => ⟨w, ?_, hs⟩) h
  have hz := run_sizeOf_of (P := C.P) hT.sz w
  simp [execOp, hρ x _ hx, hρ y _ hy, Instr.indexAt, asIntOf, run_underlying hT.und, hz, show ¬ n ≤ i by omega, adr]
theorem rw_loadX_s {T n : Nat} {q : Addr} (vs : List Value) (hd : Nat.blt d C.n = true) (hT : TyS C.P T n) (hx : ev env x = some (.pointer (some q)))
    (hn : vs.length = n) (hc : ∀ w, Sat C.w0 C.X w (B ++ F) → ∀ (j : Nat) (u : Value), vs[j]? = some u → w.cell? (q.add j) = some u) (h : RW C ops rest K ((d, .agg vs.toArray) :: env) B F) :
    RW C ops (⟨some d, .load T x, ty, pos, af, none⟩ :: rest) K env B F := by
  refine rw_step hd (fun ρ hρ E w hs => ⟨w, ?_, hs⟩) h
  have h1 := run_loadCells_list (P := C.P) w q vs (hc w hs.noE)
  rw [hn] at h1
  simp [execOp, hρ x _ hx, Instr.loadAt, Instr.sureAddr, loadVar, run_isAgg_s hT, run_sizeOf_of hT.sz, h1]
theorem rw_loadX {T : Nat} {q : Addr} (v : Value) (hd : Nat.blt d C.n = true) (hT : TyP C.P T) (hx : ev env x = some (.pointer (some q)))
    (hc : ∀ w, Sat C.w0 C.X w (B ++ F) → w.cell? q = some v) (h : RW C ops rest K ((d, v) :: env) B F) :
    RW C ops (⟨some d, .load T x, ty, pos, af, none⟩ :: rest) K env B F := by
  refine rw_step hd (fun ρ hρ E w hs => ⟨w, ?_, hs⟩) h
  have h1 := hc w hs.noE
  simp [execOp, hρ x _ hx, Instr.loadAt, Instr.sureAddr, loadVar, run_isAgg_p hT, h1]

/-! ### loops -/
/-- A loop: x is its state; its environment is that of x, and e, which the loop leaves alone. -/
theorem gw_loopR {c : Code} {α : Type} (inv : α → Prop) (meas : α → Nat) (ex : Env → α → Env) (Bx Fx : α → List Ck) (x0 : α) (e : Env)
    (hs : Sub (ex e x0) env) (hp : (Bx x0 ++ Fx x0).Sublist (B ++ F)) (h0 : inv x0)
    (round : ∀ x, inv x → (∀ x', inv x' → meas x' < meas x → GW C (.inLoop c :: k) (ex e x') (Bx x') (Fx x')) → GW C (.code c :: .inLoop c :: k) (ex e x) (Bx x) (Fx x)) :
    GW C (.code (.loop c) :: k) env B F :=
  gw_sub hs (gw_drop hp (gw_loop (fun m env B' F' => ∃ x, inv x ∧ meas x = m ∧ env = ex e x ∧ B' = Bx x ∧ F' = Fx x) ⟨_, x0, h0, rfl, rfl, rfl, rfl⟩
    fun m env B' F' ⟨x, hi, hm, he, hB, hF⟩ ih => by
      subst hm he hB hF
      exact round x hi fun x' hi' hm' => ih _ _ _ _ hm' ⟨x', hi', rfl, rfl, rfl, rfl⟩))
theorem gw_drop1 {c : Ck} (h : GW C k env B F) : GW C k env (c :: B) F := gw_drop (List.sublist_cons_self _ _) h
theorem Sub.consE {i : Nat} {v v' : Value} {e' e : Env} (h : look e i = some v) (hv : v = v') (hs : Sub e' e) : Sub ((i, v') :: e') e := by subst hv; exact Sub.cons h hs
end
/-- A value that is a slice and reads as the list l. -/
def RdS {α : Type} (w : World) (k : Nat) (R : World → List Value → α → Prop) (v : Value) (l : List α) : Prop := ∃ A c, v = .slice A l.length c ∧ RdL w k R A l
theorem RdS.below {α : Type} {w w' : World} {k : Nat} {R : World → List Value → α → Prop} {v : Value} {l : List α} (hR : Keeps R) (h : RdS w k R v l) (hb : Below w.heap.size w w') : RdS w' k R v l := by
  obtain ⟨A, c, e, h⟩ := h
  exact ⟨A, c, e, h.below hR hb⟩
theorem RdL.s {α : Type} {w0 w : World} {k : Nat} {R : World → List Value → α → Prop} {A : Option Addr} {c : Nat} {l : List α} {H : List Ck} (hR : Keeps R) (h : RdL w0 k R A l) (hs : Sat w0 [] w H) :
    RdS w k R (.slice A l.length c) l := ⟨A, c, rfl, h.sat hR hs⟩

/-! ### drawn regions, step by step -/
section
variable {C : Cx} {ops : Array Oper} {B F : List Ck} {σ : Env} {o : Oper} {d j : Nat} {tl : Env → List Ck → Prop} {π : List (Nat × Kd)} {R : Value → List Ck → Prop}
theorem dw_det {v : Value} (ho : ops[j]? = some o) (hd : o.dst = some d) (ha : ∀ K, RW C ops [] K ((d, v) :: restr σ (o.looksAt ops)) B F → RW C ops [o] K (restr σ (o.looksAt ops)) B F)
    (h : DW C ops B tl π ((d, v) :: σ) F) : DW C ops B tl ((j, .det) :: π) σ F :=
  ⟨o, d, v, ho, hd, fun K hK => ha K (rw_nil fun V E a w hdf hf hs => hK v [] ⟨rfl, rfl⟩ V E a w hdf hf (by simpa using hs)), h⟩
theorem dw_add (ho : ops[j]? = some o) (hd : o.dst = some d) (ha : ∀ K, (∀ v ch, R v ch → RW C ops [] K ((d, v) :: restr σ (o.looksAt ops)) B (ch ++ F)) → RW C ops [o] K (restr σ (o.looksAt ops)) B F)
    (h : ∀ v ch, R v ch → DW C ops B tl π ((d, v) :: σ) (ch ++ F)) : DW C ops B tl ((j, .add) :: π) σ F :=
  ⟨o, d, R, ho, hd, fun K hK => ha K (fun v ch hR => rw_nil fun V E a w hdf hf hs => hK v ch hR V E a w hdf hf hs), h⟩
theorem dw_detB {v : Value} (ho : ops[j]? = some o) (hd : o.dst = some d) (ha : ∀ K, RW C ops [] K ((d, v) :: restr σ (o.looksAt ops)) B [] → RW C ops [o] K (restr σ (o.looksAt ops)) B [])
    (h : DW C ops B tl π ((d, v) :: σ) F) : DW C ops B tl ((j, .detB) :: π) σ F :=
  ⟨o, d, v, ho, hd, fun K hK => ha K (rw_nil fun V E a w hdf hf hs => hK v [] ⟨rfl, rfl⟩ V E a w hdf hf (by simpa using hs)), h⟩
theorem dw_chg {Rr : List Ck} (ho : ops[j]? = some o) (hd : o.dst = some d) (ha : ∀ K, (∀ v G', R v G' → RW C ops [] K ((d, v) :: restr σ (o.looksAt ops)) B (G' ++ Rr)) → RW C ops [o] K (restr σ (o.looksAt ops)) B F)
    (h : ∀ v G', R v G' → DW C ops B tl π ((d, v) :: σ) (G' ++ Rr)) : DW C ops B tl ((j, .chg) :: π) σ F :=
  ⟨o, d, (fun v F' => ∃ G', R v G' ∧ F' = G' ++ Rr), ho, hd, fun K hK => ha K (fun v G' hR => rw_nil fun V E a w hdf hf hs => hK v _ ⟨G', hR, rfl⟩ V E a w hdf hf hs), fun v F' ⟨G', h1, h2⟩ => h2 ▸ h v G' h1⟩
theorem dw_chg0 {v : Value} (ho : ops[j]? = some o) (hd : o.dst = some d) (ha : ∀ K, RW C ops [] K ((d, v) :: restr σ (o.looksAt ops)) B F → RW C ops [o] K (restr σ (o.looksAt ops)) B F)
    (h : DW C ops B tl π ((d, v) :: σ) F) : DW C ops B tl ((j, .chg) :: π) σ F :=
  ⟨o, d, (fun v' F' => v' = v ∧ F' = F), ho, hd, fun K hK => ha K (rw_nil fun V E a w hdf hf hs => hK v F ⟨rfl, rfl⟩ V E a w hdf hf hs), fun v' F' ⟨h1, h2⟩ => by subst h1 h2; exact h⟩
theorem dw_sto {F' : List Ck} (ho : ops[j]? = some o) (hd : o.dst = none) (ha : ∀ K, RW C ops [] K (restr σ (o.looksAt ops)) B F' → RW C ops [o] K (restr σ (o.looksAt ops)) B F)
    (h : DW C ops B tl π σ F') : DW C ops B tl ((j, .sto) :: π) σ F :=
  ⟨o, (fun G => G = F'), ho, hd, fun K hK => ha K (rw_nil fun V E a w hdf hf hs => hK F' rfl V E a w hdf hf hs), fun G h1 => by subst h1; exact h⟩
theorem dw_free {T : Nat} {zs : List Value} (ho : ops[j]? = some o) (hd : o.dst = some d) (h : ∀ b, DW C ops B tl π ((d, .pointer (some ⟨b, 0, none⟩)) :: σ) ([⟨b, T, zs⟩] ++ F)) :
    DW C ops B tl ((j, .free T zs) :: π) σ F := by
  intro o' d' ho' hd' v ch ⟨b, hv, hch⟩
  rw [ho] at ho'; cases ho'
  rw [hd] at hd'; cases hd'
  subst hv hch
  exact h b
theorem dw_case {t : Bool} {i : Nat} (_ : look σ i = some (.bool t)) (h1 : t = true → DW C ops B tl π σ F) (h2 : t = false → DW C ops B tl π σ F) : DW C ops B tl π σ F := by
  cases t
  · exact h2 rfl
  · exact h1 rfl
theorem dw_nil (h : tl σ F) : DW C ops B tl [] σ F := h
theorem rw_take {c : Ck} {rest : List Oper} {K : Env → List Ck → Act → World → Prop} {env : Env} (h : RW C ops rest K env (c :: B) F) : RW C ops rest K env B ([c] ++ F) :=
  rw_perm (by simp) h
theorem free_nil : FreeOk C ops [] := fun _ _ _ h => by cases h
theorem free_det (h : FreeOk C ops π) : FreeOk C ops ((j, .det) :: π) := fun j T zs hm => by
  rcases List.mem_cons.1 hm with h1 | h1
  · cases h1
  · exact h _ _ _ h1
theorem free_detB (h : FreeOk C ops π) : FreeOk C ops ((j, .detB) :: π) := fun j T zs hm => by
  rcases List.mem_cons.1 hm with h1 | h1
  · cases h1
  · exact h _ _ _ h1
theorem free_chg (h : FreeOk C ops π) : FreeOk C ops ((j, .chg) :: π) := fun j T zs hm => by
  rcases List.mem_cons.1 hm with h1 | h1
  · cases h1
  · exact h _ _ _ h1
theorem free_sto (h : FreeOk C ops π) : FreeOk C ops ((j, .sto) :: π) := fun j T zs hm => by
  rcases List.mem_cons.1 hm with h1 | h1
  · cases h1
  · exact h _ _ _ h1
theorem free_add (h : FreeOk C ops π) : FreeOk C ops ((j, .add) :: π) := fun j T zs hm => by
  rcases List.mem_cons.1 hm with h1 | h1
  · cases h1
  · exact h _ _ _ h1
theorem free_new {T : Nat} {zs : List Value} {ty : TypeId} {pos : String} {af : Array Edge} (ho : ops[j]? = some ⟨some d, .alloc T, ty, pos, af, none⟩) (hd : Nat.blt d C.n = true) (hT : TyZ C.P T zs) (h : FreeOk C ops π) :
    FreeOk C ops ((j, .free T zs) :: π) := fun j T zs hm => by
  rcases List.mem_cons.1 hm with h1 | h1
  · cases h1
    refine ⟨_, _, ho, rfl, fun K hK => rw_alloc hd hT fun b => rw_nil fun V E a w hdf hf hs => hK _ [⟨b, T, zs⟩] ⟨b, rfl, rfl⟩ V E a w hdf hf ?_⟩
    simpa using hs
  · exact h _ _ _ h1
theorem gw_draw' {id : Nat} {l ts : List Oper} {k : List Item} {env : Env} (π : List (Nat × Kd)) (τ : List Nat) (hmix : C.P.follows .mixedOrders = true) (hok : okDraw l.toArray π τ = true) (hfr : FreeOk C l.toArray π)
    (hts : τ.filterMap (l.toArray[·]?) = ts)
    (h : DW C l.toArray B (fun σ F => RW C l.toArray ts (KG C k) σ B F) π env F) : GW C (.code (.region id l.toArray true) :: k) env B F := by
  subst hts
  exact gw_draw π τ hmix hok hfr h
end
section
variable {C : Cx} {k : List Item} {env : Env} {B F : List Ck}
/-- A loop that changes temporaries alone. -/
theorem gw_loopC {c : Code} {α : Type} (inv : α → Prop) (meas : α → Nat) (ex : Env → α → Env) (x0 : α) (e : Env)
    (hs : Sub (ex e x0) env) (h0 : inv x0)
    (round : ∀ x, inv x → (∀ x', inv x' → meas x' < meas x → GW C (.inLoop c :: k) (ex e x') B F) → GW C (.code c :: .inLoop c :: k) (ex e x) B F) :
    GW C (.code (.loop c) :: k) env B F :=
  gw_loopR inv meas ex (fun _ => B) (fun _ => F) x0 e hs (List.Sublist.refl _) h0 round
/-- A loop that changes temporaries and the blocks in F. -/
theorem gw_loopF {c : Code} {α : Type} (inv : α → Prop) (meas : α → Nat) (ex : Env → α → Env) (Fx : α → List Ck) (x0 : α) (e : Env)
    (hs : Sub (ex e x0) env) (hp : (Fx x0).Sublist F) (h0 : inv x0)
    (round : ∀ x, inv x → (∀ x', inv x' → meas x' < meas x → GW C (.inLoop c :: k) (ex e x') B (Fx x')) → GW C (.code c :: .inLoop c :: k) (ex e x) B (Fx x)) :
    GW C (.code (.loop c) :: k) env B F :=
  gw_loopR inv meas ex (fun _ => B) Fx x0 e hs (hp.append_left B) h0 round
/-- A loop; the blocks before it may change. -/
theorem gw_loopX {c : Code} {α : Type} (inv : α → Prop) (meas : α → Nat) (ex : Env → α → Env) (Bx Fx : List Ck → α → List Ck) (x0 : α) (e : Env)
    (hs : Sub (ex e x0) env) (hB : Bx B x0 = B) (hF : Fx F x0 = F) (h0 : inv x0)
    (round : ∀ x, inv x → (∀ x', inv x' → meas x' < meas x → GW C (.inLoop c :: k) (ex e x') (Bx B x') (Fx F x')) → GW C (.code c :: .inLoop c :: k) (ex e x) (Bx B x) (Fx F x)) :
    GW C (.code (.loop c) :: k) env B F :=
  gw_loopR inv meas ex (Bx B) (Fx F) x0 e hs (by rw [hB, hF]; exact List.Sublist.refl _) h0 round
theorem gw_dropN (n : Nat) (h : GW C k env (B.drop n) F) : GW C k env B F := gw_drop ((List.drop_sublist n B).append_right F) h
theorem ret_cvE {fn : Func} {w : World} {n : Nat} {f : FuncId} {P : Program} {v u : Value} (hfn : P.funcs[f]? = some fn)
    (hv : Res ⟨P, f, n, w, [], fun e w' => e = .returned v ∧ Below w.heap.size w w'⟩ env (B ++ F) u) (he : u = v) :
    GW ⟨P, f, n, w, [], fun e w' => e = .returned v ∧ Below w.heap.size w w'⟩ [] env B F :=
  gw_end fn hfn hv fun w' hs => ⟨by rw [he], hs.below⟩
theorem ret_cnE {fn : Func} {w : World} {n : Nat} {f : FuncId} {P : Program} {u : Value} {post : Value → List Ck → Prop} (ch : List Ck) (hfn : P.funcs[f]? = some fn)
    (hv : Res ⟨P, f, n, w, [], fun e w' => ∃ v ch, e = .returned v ∧ post v ch ∧ Sat w [] w' ch⟩ env (B ++ F) u) (hp : post u ch) (hch : ch.Sublist (B ++ F)) :
    GW ⟨P, f, n, w, [], fun e w' => ∃ v ch, e = .returned v ∧ post v ch ∧ Sat w [] w' ch⟩ [] env B F :=
  gw_end fn hfn hv fun _ hs => ⟨u, ch, rfl, hp, hs.weaken hch⟩
end
theorem drop_cons {α : Type} {l : List α} {i : Nat} {x : α} (h : l[i]? = some x) : l.drop i = x :: l.drop (i + 1) := by
  obtain ⟨hi, rfl⟩ := List.getElem?_eq_some_iff.1 h
  exact List.drop_eq_getElem_cons hi
theorem lt_of_dec {i n : Nat} (h : decide ((i : Int) < (n : Int)) = true) : i < n := by simpa using h
theorem w64_of {n : Int} (h1 : -9223372036854775808 ≤ n) (h2 : n ≤ 9223372036854775807) : IntKind.i64.wrap n = n := by
  rw [IntKind.wrap_i64]; omega
theorem w64_of' {n : Int} (h1 : -9223372036854775808 ≤ n) (h2 : n ≤ 9223372036854775807) : IntKind.i64.wrap n = n := by
  rw [IntKind.wrap_i64]; omega
theorem pred_of {i : Nat} (h : decide ((0 : Int) < (i : Int)) = true) (hi : i ≤ 134217728) : IntKind.i64.wrap ((i : Int) - 1) = ((i - 1 : Nat) : Int) := by
  have : 0 < i := by simpa using h
  rw [w64_of' (by omega) (by omega)]; omega
theorem pos_of {i : Nat} (h : decide ((0 : Int) < (i : Int)) = true) : 0 < i := by simpa using h
theorem zero_of {i : Nat} (h : decide ((0 : Int) < (i : Int)) = false) : i = 0 := by
  have : ¬ 0 < (i : Int) := by simpa using h
  omega
theorem le_of_dec {n m : Nat} (h : decide ((m : Int) < (n : Int)) = false) : n ≤ m := by
  have : ¬ (m : Int) < (n : Int) := by simpa using h
  omega
theorem pos_of_ne {n : Nat} (h : ((n : Int) == 0) = false) : 0 < n := by
  have : ¬ (n : Int) = 0 := by simpa using h
  omega
theorem nil_of_eq {α : Type} {l : List α} (h : ((l.length : Int) == 0) = true) : l = [] := by
  have : (l.length : Int) = 0 := by simpa using h
  exact List.eq_nil_of_length_eq_zero (by omega)
theorem nil_of_dec {α : Type} {l : List α} {i : Nat} (h : decide ((i : Int) < (l.length : Int)) = false) : l.drop i = [] := by
  apply List.drop_eq_nil_of_le
  simpa using h
theorem get_of_lt {α : Type} {l : List α} {i : Nat} (h : i < l.length) : ∃ x, l[i]? = some x := ⟨_, List.getElem?_eq_getElem h⟩
theorem w64_succ {i : Nat} (h : i < 9223372036854775807) : IntKind.i64.wrap ((i : Int) + 1) = ((i + 1 : Nat) : Int) := by
  rw [w64_of (by omega) (by omega)]; omega
theorem int_succ {i : Nat} (h : i < 9223372036854775807) : Value.int .i64 (IntKind.i64.wrap ((i : Int) + 1)) = .int .i64 ((i + 1 : Nat) : Int) := by rw [w64_succ h]
section
variable {C : Cx} {k : List Item} {env : Env} {B F : List Ck} {ops : Array Oper} {rest : List Oper} {K : Env → List Ck → Act → World → Prop} {ty : TypeId} {pos : String} {af : Array Edge} {x y : Operand}
theorem gw_giveB {B' : List Ck} (i : Nat) {c : Ck} (hB : B[i]? = some c) (hB' : B.eraseIdx i = B') (h : GW C k env B' ([c] ++ F)) : GW C k env B F := by
  refine gw_perm ?_ h
  subst hB'
  obtain ⟨hi, rfl⟩ := List.getElem?_eq_some_iff.1 hB
  have h1 : B.Perm (B[i] :: B.eraseIdx i) := by
    have e1 : B = B.take i ++ B[i] :: B.drop (i + 1) := by rw [← List.drop_eq_getElem_cons hi, List.take_append_drop]
    have e2 : B.eraseIdx i = B.take i ++ B.drop (i + 1) := List.eraseIdx_eq_take_drop_succ ..
    rw [e2]
    exact (List.Perm.of_eq e1).trans List.perm_middle
  refine (h1.append_right F).trans ?_
  exact List.perm_middle.symm
theorem rw_storeF {T off n : Nat} {b T' : Nat} {cs : List Value} {v : Value} {F1 : List Ck} (vs cs' : List Value) (hT : (C.P.info? T).map (·.size) = some n) (hx : ev env x = some (.pointer (some ⟨b, off, none⟩))) (hy : ev env y = some v)
    (hvs : v.cells.toList = vs) (hn : Nat.beq vs.length n = true) (hl : Nat.ble (off + n) cs.length = true) (h1 : vs.all (·.oneCell') = true) (hcs : splice cs off vs = cs')
    (h : RW C ops rest K env B ([⟨b, T', cs'⟩] ++ F1)) :
    RW C ops (⟨none, .store T x y, ty, pos, af, none⟩ :: rest) K env B ([⟨b, T', cs⟩] ++ F1) := by
  refine rw_perm (B' := ⟨b, T', cs⟩ :: B) (F' := F1) List.perm_middle ?_
  refine rw_store (i := 0) vs cs' hT hx hy rfl hvs hn hl h1 hcs ?_
  have hp : ((⟨b, T', cs⟩ :: B).set 0 ⟨b, T', cs'⟩ ++ F1).Perm (B ++ ([⟨b, T', cs'⟩] ++ F1)) := (List.perm_middle (l₁ := B) (l₂ := F1) (a := (⟨b, T', cs'⟩ : Ck))).symm
  exact rw_perm hp h
end
end SL
end Go.Proofs.Ytbhnekiclbfmgaa
