/- A small logic for walking functions: states are an assignment of temporaries and a list of owned blocks. No program in sight. -/
import Derived.WalkKit
import Derived.Orders
namespace Go.Proofs.Ytbhnekiclbfmgaa
namespace SL
open Go.RowKit

/-! ### environments -/
abbrev Env := List (Nat × Value)
def look : Env → Nat → Option Value
  | [], _ => none
  | (i, v) :: e, j => bif Nat.beq i j then some v else look e j
def Fits (n : Nat) (env : Env) (tm : Array Value) : Prop := tm.size = n ∧ ∀ i v, look env i = some v → tm.getD i undef = v
def ev (env : Env) : Operand → Option Value
  | .tmp t => look env t
  | .const v => some v
  | .global g => some (.pointer (some ⟨g, 0, none⟩))
  | .func f => some (.func (.func f) #[] #[])

theorem Fits.eval {n : Nat} {env : Env} {a : Act} (h : Fits n env a.tmps) {x : Operand} {v : Value} (hx : ev env x = some v) : a.eval x = v := by
  cases x with
  | tmp t => exact h.2 t v hx
  | const u => injection hx
  | global g => injection hx
  | func f => injection hx

theorem Fits.put {n : Nat} {env : Env} {tm : Array Value} (h : Fits n env tm) {d : Nat} (hd : Nat.blt d n = true) (v : Value) :
    Fits n ((d, v) :: env) (tm.setIfInBounds d v) := by
  have hd' : d < n := by simpa [Nat.blt_eq] using hd
  refine ⟨by simpa using h.1, fun i u hi => ?_⟩
  simp only [look] at hi
  cases hb : Nat.beq d i with
  | true =>
    have hdi : d = i := Nat.eq_of_beq_eq_true hb
    subst hdi
    simp at hi
    simp [h.1, hd', hi]
  | false =>
    have hdi : d ≠ i := Nat.ne_of_beq_eq_false hb
    simp [hb] at hi
    have := h.2 i u hi
    simpa [Array.getElem?_setIfInBounds, hdi] using this

/-- The smaller environment says less. -/
def Sub (e' e : Env) : Prop := ∀ i v, look e' i = some v → look e i = some v
theorem Sub.refl (e : Env) : Sub e e := fun _ _ h => h
theorem Sub.nil (e : Env) : Sub [] e := fun _ _ h => by cases h
theorem Sub.cons {i : Nat} {v : Value} {e' e : Env} (h : look e i = some v) (hs : Sub e' e) : Sub ((i, v) :: e') e := by
  intro j u hj
  simp only [look] at hj
  cases hb : Nat.beq i j with
  | true =>
    have : i = j := Nat.eq_of_beq_eq_true hb
    subst this
    simp at hj
    rw [h, hj]
  | false => simp [hb] at hj; exact hs j u hj
theorem Fits.sub {n : Nat} {e' e : Env} {tm : Array Value} (h : Fits n e tm) (hs : Sub e' e) : Fits n e' tm := ⟨h.1, fun i v hi => h.2 i v (hs i v hi)⟩

/-! ### owned blocks -/
structure Ck where
  b : Nat
  T : TypeId
  cs : List Value

def Ck.In (c : Ck) (w : World) : Prop := w.heap[c.b]? = some (.cells c.cs.toArray c.T (0, 0))

structure Sat (w0 : World) (X : List Nat) (w : World) (H : List Ck) : Prop where
  os : w.os = w0.os
  tape : w.tape = w0.tape
  output : w.output = w0.output
  size : w0.heap.size ≤ w.heap.size
  keep : ∀ b, b < w0.heap.size → b ∉ X → w.heap[b]? = w0.heap[b]?
  nd : (H.map Ck.b).Nodup
  own : ∀ c ∈ H, c.b ∈ X ∨ w0.heap.size ≤ c.b
  at_ : ∀ c ∈ H, c.In w

theorem Ck.In.lt {c : Ck} {w : World} (h : c.In w) : c.b < w.heap.size := by
  unfold Ck.In at h
  rcases Nat.lt_or_ge c.b w.heap.size with hlt | hge
  · exact hlt
  · rw [Array.getElem?_eq_none hge] at h; cases h

theorem Sat.below {w0 w : World} {H : List Ck} (h : Sat w0 [] w H) : Below w0.heap.size w0 w :=
  ⟨h.os, h.tape, h.output, h.size, fun k hk => h.keep k hk (by simp)⟩

theorem Sat.init (w0 : World) : Sat w0 [] w0 [] := ⟨rfl, rfl, rfl, Nat.le_refl _, fun _ _ _ => rfl, by simp, by simp, by simp⟩

theorem Sat.perm {w0 w : World} {X : List Nat} {H H' : List Ck} (h : Sat w0 X w H) (hp : H.Perm H') : Sat w0 X w H' :=
  ⟨h.os, h.tape, h.output, h.size, h.keep, (hp.map Ck.b).nodup_iff.1 h.nd, fun c hc => h.own c (hp.mem_iff.2 hc), fun c hc => h.at_ c (hp.mem_iff.2 hc)⟩

theorem Sat.weaken {w0 w : World} {X : List Nat} {H H' : List Ck} (h : Sat w0 X w H) (hs : H'.Sublist H) : Sat w0 X w H' :=
  ⟨h.os, h.tape, h.output, h.size, h.keep, (hs.map Ck.b).nodup h.nd, fun c hc => h.own c (hs.subset hc), fun c hc => h.at_ c (hs.subset hc)⟩

theorem Sat.drew {w0 w : World} {X : List Nat} {H : List Ck} (h : Sat w0 X w H) : Sat w0 X { w with drawn := w.drawn + 1 } H :=
  ⟨h.os, h.tape, h.output, h.size, h.keep, h.nd, h.own, h.at_⟩

/-- A new block. -/
theorem Sat.alloc {w0 w : World} {X : List Nat} {H : List Ck} (h : Sat w0 X w H) (T : TypeId) (cs : List Value) :
    Sat w0 X (w.alloc (.cells cs.toArray T)) (⟨w.heap.size, T, cs⟩ :: H) := by
  refine ⟨h.os, h.tape, h.output, by simpa using Nat.le_succ_of_le h.size, fun b hb hn => ?_, ?_, ?_, ?_⟩
  · rw [Below.heap_alloc _ _ _ (Nat.lt_of_lt_of_le hb h.size)]; exact h.keep b hb hn
  · simp only [List.map_cons, List.nodup_cons]
    refine ⟨fun hm => ?_, h.nd⟩
    obtain ⟨c, hc, hcb⟩ := List.mem_map.1 hm
    have := (h.at_ c hc).lt
    omega
  · intro c hc
    rcases List.mem_cons.1 hc with rfl | hc
    · exact .inr h.size
    · exact h.own c hc
  · intro c hc
    rcases List.mem_cons.1 hc with rfl | hc
    · exact heap_alloc_new w _
    · have h1 := h.at_ c hc
      show (w.alloc _).heap[c.b]? = _
      rw [Below.heap_alloc _ _ _ h1.lt]; exact h1

/-- A call: what the callee owned becomes what it hands back; all else stays. -/
theorem Sat.call {w0 w w' : World} {X : List Nat} {G G' F : List Ck} (h : Sat w0 X w (G ++ F)) (hc : Sat w (G.map Ck.b) w' G') : Sat w0 X w' (G' ++ F) := by
  have hnd := h.nd
  rw [List.map_append, List.nodup_append] at hnd
  refine ⟨hc.os.trans h.os, hc.tape.trans h.tape, hc.output.trans h.output, Nat.le_trans h.size hc.size, fun b hb hn => ?_, ?_, ?_, ?_⟩
  · rw [hc.keep b (Nat.lt_of_lt_of_le hb h.size) (fun hm => ?_)]
    · exact h.keep b hb hn
    · obtain ⟨c, hc', rfl⟩ := List.mem_map.1 hm
      rcases h.own c (List.mem_append_left _ hc') with h1 | h1
      · exact hn h1
      · omega
  · rw [List.map_append, List.nodup_append]
    refine ⟨hc.nd, hnd.2.1, fun x hx y hy hxy => ?_⟩
    subst hxy
    obtain ⟨c, hc', rfl⟩ := List.mem_map.1 hx
    obtain ⟨d, hd, hdb⟩ := List.mem_map.1 hy
    rcases hc.own c hc' with h1 | h1
    · exact hnd.2.2 _ h1 _ (List.mem_map.2 ⟨d, hd, hdb⟩) rfl
    · have := (h.at_ d (List.mem_append_right _ hd)).lt
      omega
  · intro c hc'
    rcases List.mem_append.1 hc' with h1 | h1
    · rcases hc.own c h1 with h2 | h2
      · obtain ⟨d, hd, hdb⟩ := List.mem_map.1 h2
        rw [← hdb]; exact h.own d (List.mem_append_left _ hd)
      · exact .inr (Nat.le_trans h.size h2)
    · exact h.own c (List.mem_append_right _ h1)
  · intro c hc'
    rcases List.mem_append.1 hc' with h1 | h1
    · exact hc.at_ c h1
    · have h2 := h.at_ c (List.mem_append_right _ h1)
      show w'.heap[c.b]? = _
      rw [hc.keep c.b h2.lt (fun hm => hnd.2.2 _ hm _ (List.mem_map.2 ⟨c, h1, rfl⟩) rfl)]
      exact h2

/-- A store into an owned block. -/
theorem Sat.set {w0 w : World} {X : List Nat} {c : Ck} {F : List Ck} (h : Sat w0 X w (c :: F)) (off : Nat) (v : Value) :
    Sat w0 X (w.setCell ⟨c.b, off, none⟩ v) ({ c with cs := c.cs.set off v } :: F) := by
  have hnd := h.nd
  simp only [List.map_cons, List.nodup_cons] at hnd
  refine ⟨h.os, h.tape, h.output, by simpa [World.setCell] using h.size, fun b hb hn => ?_, by simpa using h.nd, ?_, ?_⟩
  · rw [Below.heap_setCell _ _ _ _ (fun e => ?_)]
    · exact h.keep b hb hn
    · subst e
      rcases h.own c (by simp) with h1 | h1
      · exact hn h1
      · simp at hb; omega
  · intro d hd
    rcases List.mem_cons.1 hd with rfl | hd
    · exact h.own c (by simp)
    · exact h.own d (by simp [hd])
  · intro d hd
    rcases List.mem_cons.1 hd with rfl | hd
    · have h1 := h.at_ c (by simp)
      unfold Ck.In at h1 ⊢
      simp [World.setCell, Array.getElem?_modify, h1]
    · have h1 := h.at_ d (by simp [hd])
      show (w.setCell _ v).heap[d.b]? = _
      rw [Below.heap_setCell _ _ _ _ (fun e => hnd.1 (List.mem_map.2 ⟨d, hd, e⟩))]
      exact h1

/-! ### the walk of a body: 'Good': from this stack of code on the function comes to an end that R lets in -/
def Good (P : Program) (f : FuncId) (R : Ending → World → Prop) (k : List Item) (a : Act) (w : World) : Prop :=
  ∀ (b : Frame) (cs : List Frame), b.fn = f → b.kind = .normal → ∃ e w' fr, R e w' ∧ Comes P (lone (b.at a k) cs w) (lone fr cs w') e ∧ fr.fn = f ∧ fr.leaving P w' e

structure Cx where
  P : Program
  f : FuncId
  n : Nat
  w0 : World
  X : List Nat
  R : Ending → World → Prop

/-- From the stack k on, in every state that fits: the end is reached. -/
def GW (C : Cx) (k : List Item) (env : Env) (B F : List Ck) : Prop :=
  ∀ (E : List Ck) a w, a.defers = [] → Fits C.n env a.tmps → Sat C.w0 C.X w (B ++ (F ++ E)) → Good C.P C.f C.R k a w
theorem Sat.noE {w0 w : World} {X : List Nat} {B F E : List Ck} (h : Sat w0 X w (B ++ (F ++ E))) : Sat w0 X w (B ++ F) :=
  h.weaken ((List.sublist_append_left F E).append_left B)
theorem Sat.ofE {w0 w : World} {X : List Nat} {B F : List Ck} (h : Sat w0 X w (B ++ F)) : Sat w0 X w (B ++ (F ++ [])) := by simpa using h

theorem Good.step {P : Program} {f : FuncId} {R : Ending → World → Prop} {k k' : List Item} {a : Act} {w : World}
    (hs : ∀ (b : Frame) (cs : List Frame), step P (lone (b.at a k) cs w) = .next (lone (b.at a k') cs w)) (h : Good P f R k' a w) : Good P f R k a w := by
  intro b cs hb hk
  obtain ⟨e, w', fr, hR, hc, hf, hl⟩ := h b cs hb hk
  exact ⟨e, w', fr, hR, .of_steps (.one (hs b cs)) hc, hf, hl⟩

section
variable {C : Cx} {k : List Item} {env : Env} {B F : List Ck}

theorem gw_seq {x y : Code} (h : GW C (.code x :: .code y :: k) env B F) : GW C (.code (.seq x y) :: k) env B F :=
  fun E a w hd hf hs => Good.step (fun _ _ => step_seq) (h E a w hd hf hs)
theorem gw_skip (h : GW C k env B F) : GW C (.code .skip :: k) env B F :=
  fun E a w hd hf hs => Good.step (fun _ _ => step_skip) (h E a w hd hf hs)
theorem gw_block {id : Nat} {c : Code} (h : GW C (.code c :: .inBlock id :: k) env B F) : GW C (.code (.block id c) :: k) env B F :=
  fun E a w hd hf hs => Good.step (fun _ _ => step_block) (h E a w hd hf hs)
theorem gw_inBlock {id : Nat} (h : GW C k env B F) : GW C (.inBlock id :: k) env B F :=
  fun E a w hd hf hs => Good.step (fun _ _ => step_inBlock) (h E a w hd hf hs)
theorem gw_exit {id : Nat} {k' : List Item} (he : exitTo id k = some k') (h : GW C k' env B F) : GW C (.code (.exit id) :: k) env B F :=
  fun E a w hd hf hs => Good.step (fun _ _ => step_exit he) (h E a w hd hf hs)
theorem gw_true {c : Operand} {x y : Code} (hc : ev env c = some (.bool true)) (h : GW C (.code x :: k) env B F) : GW C (.code (.cond c x y) :: k) env B F :=
  fun E a w hd hf hs => Good.step (fun _ _ => step_cond (hf.eval hc)) (h E a w hd hf hs)
theorem gw_false {c : Operand} {x y : Code} (hc : ev env c = some (.bool false)) (h : GW C (.code y :: k) env B F) : GW C (.code (.cond c x y) :: k) env B F :=
  fun E a w hd hf hs => Good.step (fun _ _ => step_cond (hf.eval hc)) (h E a w hd hf hs)
theorem gw_cond {c : Operand} {x y : Code} {t : Bool} (hc : ev env c = some (.bool t)) (h1 : t = true → GW C (.code x :: k) env B F)
    (h2 : t = false → GW C (.code y :: k) env B F) : GW C (.code (.cond c x y) :: k) env B F := by
  cases t
  · exact gw_false hc (h2 rfl)
  · exact gw_true hc (h1 rfl)
/-- A loop: I m is what holds at its head with measure m. -/
theorem gw_loop {c : Code} (I : Nat → Env → List Ck → List Ck → Prop) (h0 : ∃ m, I m env B F)
    (round : ∀ m env B F, I m env B F → (∀ m' env' B' F', m' < m → I m' env' B' F' → GW C (.inLoop c :: k) env' B' F') → GW C (.code c :: .inLoop c :: k) env B F) :
    GW C (.code (.loop c) :: k) env B F := by
  have key : ∀ m env B F, I m env B F → GW C (.code c :: .inLoop c :: k) env B F := by
    intro m
    induction m using Nat.strongRecOn with
    | _ m ih =>
      intro env B F hI
      exact round m env B F hI fun m' env' B' F' hm hI' E a w hd hf hs => Good.step (fun _ _ => step_inLoop) (ih m' hm env' B' F' hI' E a w hd hf hs)
  obtain ⟨m, hm⟩ := h0
  exact fun E a w hd hf hs => Good.step (fun _ _ => step_loop) (key m env B F hm E a w hd hf hs)
/-- Say less of the state. -/
theorem gw_sub {env' : Env} (hs : Sub env' env) (h : GW C k env' B F) : GW C k env B F :=
  fun E a w hd hf hsat => h E a w hd (hf.sub hs) hsat
theorem gw_perm {B' F' : List Ck} (hp : (B ++ F).Perm (B' ++ F')) (h : GW C k env B' F') : GW C k env B F :=
  fun E a w hd hf hsat => h E a w hd hf (hsat.perm (by rw [← List.append_assoc, ← List.append_assoc]; exact hp.append_right E))
theorem gw_drop {B' F' : List Ck} (hp : (B' ++ F').Sublist (B ++ F)) (h : GW C k env B' F') : GW C k env B F :=
  fun E a w hd hf hsat => h E a w hd hf (hsat.weaken (by rw [← List.append_assoc, ← List.append_assoc]; exact hp.append_right E))

/-- The results of the function. -/
def Res (C : Cx) (env : Env) (H : List Ck) (v : Value) : Prop :=
  ∀ fn, C.P.funcs[C.f]? = some fn → ∀ tm w, Fits C.n env tm → Sat C.w0 C.X w H → (results fn tm).run C.P w = .ok v w
theorem gw_ret {v : Value} (fn : Func) (hfn : C.P.funcs[C.f]? = some fn) (hv : Res C env (B ++ F) v) (hR : ∀ w, Sat C.w0 C.X w (B ++ F) → C.R (.returned v) w) :
    GW C (.code .ret :: k) env B F := by
  intro E a w hd hf hs b cs hb hk
  exact ⟨.returned v, w, _, hR w hs.noE, .one step_ret, hb, rfl, hd, hk, fn, by rw [← hfn, ← hb]; rfl, hv fn hfn _ _ hf hs.noE⟩
theorem gw_end {v : Value} (fn : Func) (hfn : C.P.funcs[C.f]? = some fn) (hv : Res C env (B ++ F) v) (hR : ∀ w, Sat C.w0 C.X w (B ++ F) → C.R (.returned v) w) :
    GW C [] env B F := by
  intro E a w hd hf hs b cs hb hk
  exact ⟨.returned v, w, _, hR w hs.noE, .one step_end, hb, rfl, hd, hk, fn, by rw [← hfn, ← hb]; rfl, hv fn hfn _ _ hf hs.noE⟩

/-! ### regions -/
def QN (K : Act → World → Prop) : Exit → Act → World → Prop
  | .normal, a, w => K a w
  | _, _, _ => False
/-- The operations 'rest' of a region, then K (which is told the frames: of the environment, of the blocks). -/
def RW (C : Cx) (ops : Array Oper) (rest : List Oper) (K : Env → List Ck → Act → World → Prop) (env : Env) (B F : List Ck) : Prop :=
  ∀ (V : Env) (E : List Ck) a w, a.defers = [] → Fits C.n (env ++ V) a.tmps → Sat C.w0 C.X w (B ++ (F ++ E)) → wpList C.P ops (QN (K V E)) rest a w
/-- The region is followed by the stack k. -/
def KG (C : Cx) (k : List Item) : Env → List Ck → Act → World → Prop := fun _ _ a w => a.defers = [] ∧ Good C.P C.f C.R k a w
theorem look_append {e V : Env} {i : Nat} {v : Value} (h : look e i = some v) : look (e ++ V) i = some v := by
  induction e with
  | nil => cases h
  | cons p e ih =>
    obtain ⟨j, u⟩ := p
    simp only [List.cons_append, look] at h ⊢
    cases hb : Nat.beq j i <;> simp [hb] at h ⊢
    · exact ih h
    · exact h
theorem Sub.append (e V : Env) : Sub e (e ++ V) := fun _ _ h => look_append h
theorem ev_append {e V : Env} {x : Operand} {v : Value} (h : ev e x = some v) : ev (e ++ V) x = some v := by
  cases x with
  | tmp t => exact look_append h
  | _ => exact h

theorem good_region {P : Program} {f : FuncId} {R : Ending → World → Prop} {c : Code} {a : Act} {w : World}
    (h : c.wp P (QN (fun a w => a.defers = [] ∧ Good P f R k a w)) a w) : Good P f R (.code c :: k) a w := by
  intro b cs hb hk
  obtain ⟨e, a', w', hq, harr⟩ := h b k cs
  cases e with
  | normal =>
    obtain ⟨e, w'', fr, hR, hc, hf, hl⟩ := hq.2 b cs hb hk
    exact ⟨e, w'', fr, hR, .of_steps harr hc, hf, hl⟩
  | _ => exact hq.elim
theorem gw_region {id : Nat} {l : List Oper} (h : RW C l.toArray l (KG C k) env B F) : GW C (.code (.region id l.toArray false) :: k) env B F :=
  fun E a w hd hf hs => good_region (wp_region_lit (h [] E a w hd (by simpa using hf) hs))
variable {ops : Array Oper} {rest : List Oper} {K : Env → List Ck → Act → World → Prop}
theorem rw_nil (h : ∀ (V : Env) (E : List Ck) a w, a.defers = [] → Fits C.n (env ++ V) a.tmps → Sat C.w0 C.X w (B ++ (F ++ E)) → K V E a w) : RW C ops [] K env B F :=
  fun V E a w hd hf hs => wpList_nil (h V E a w hd hf hs)
theorem rw_end (h : GW C k env B F) : RW C ops [] (KG C k) env B F := rw_nil fun V E a w hd hf hs => ⟨hd, h E a w hd (hf.sub (Sub.append env V)) hs⟩
theorem rw_perm {B' F' : List Ck} (hp : (B ++ F).Perm (B' ++ F')) (h : RW C ops rest K env B' F') : RW C ops rest K env B F :=
  fun V E a w hd hf hsat => h V E a w hd hf (hsat.perm (by rw [← List.append_assoc, ← List.append_assoc]; exact hp.append_right E))

theorem oper_mono {P : Program} {o : Oper} {a : Act} {w : World} {K K' N N' : Act → World → Prop} (h : ∀ a w, N a w → N' a w) (_ : ∀ a w, K a w → K' a w)
    (hh : o.wp P a w N (QN K)) : o.wp P a w N' (QN K') := by
  unfold Oper.wp at *
  generalize (execOp a.eval o).run P w = r at *
  cases r with
  | ok n w' =>
    cases n <;> simp only [Oper.upon] at hh ⊢ <;>
      first
        | exact h _ _ hh
        | exact Calls.mono hh (fun e w'' he => by
            cases e with
            | returned v => exact h _ _ he
            | panicked c => exact he.elim
            | outgrown => obtain ⟨_, _, hf⟩ := he; exact hf.elim)
        | exact Rows.mono hh (fun _ _ he => h _ _ he)
  | halt x w' => cases x <;> simp only [Oper.upon] at hh ⊢ <;> exact hh.elim
theorem noOut {K : Act → World → Prop} (h : LetsOut (QN K)) : False := by obtain ⟨_, _, hf⟩ := h; exact hf
theorem wpList_mono_QN {P : Program} {ops : Array Oper} {K K' : Act → World → Prop} (h : ∀ a w, K a w → K' a w) :
    ∀ {l : List Oper} {a : Act} {w : World}, wpList P ops (QN K) l a w → wpList P ops (QN K') l a w
  | [], a, w, hh => h a w hh
  | o :: l, a, w, hh => by
    unfold wpList at hh ⊢
    split
    · rename_i hw
      rw [if_pos hw] at hh
      rcases hh with hh | ⟨_, hh⟩
      · exact .inl (oper_mono (fun _ _ h' => wpList_mono_QN h h') h hh)
      · exact (noOut hh).elim
    · rename_i hw
      rw [if_neg hw] at hh
      exact wpList_mono_QN h hh

/-- One operation that yields a value. -/
theorem rw_step {d : Nat} {op : Op} {ty : TypeId} {pos : String} {af : Array Edge} {v : Value} {B' F' : List Ck} (hd : Nat.blt d C.n = true)
    (hrun : ∀ ρ : Operand → Value, (∀ x u, ev env x = some u → ρ x = u) → ∀ E w, Sat C.w0 C.X w (B ++ (F ++ E)) →
      ∃ w', (execOp ρ ⟨some d, op, ty, pos, af, none⟩).run C.P w = .ok (.value v) w' ∧ Sat C.w0 C.X w' (B' ++ (F' ++ E)))
    (next : RW C ops rest K ((d, v) :: env) B' F') : RW C ops (⟨some d, op, ty, pos, af, none⟩ :: rest) K env B F := by
  intro V E a w hdf hf hs
  refine wpList_plain rfl fun K hK => ?_
  obtain ⟨w', hr, hs'⟩ := hrun a.eval (fun x u hx => hf.eval (ev_append hx)) E w hs
  unfold Oper.wp
  rw [hr]
  exact hK _ _ (next V E _ _ hdf (hf.put hd v) hs')
/-- One operation that yields a value that the machine picks. -/
theorem rw_stepE {d : Nat} {op : Op} {ty : TypeId} {pos : String} {af : Array Edge} (post : Value → List Ck → List Ck → Prop) (hd : Nat.blt d C.n = true)
    (hrun : ∀ ρ : Operand → Value, (∀ x u, ev env x = some u → ρ x = u) → ∀ E w, Sat C.w0 C.X w (B ++ (F ++ E)) →
      ∃ v B' F' w', (execOp ρ ⟨some d, op, ty, pos, af, none⟩).run C.P w = .ok (.value v) w' ∧ Sat C.w0 C.X w' (B' ++ (F' ++ E)) ∧ post v B' F')
    (next : ∀ v B' F', post v B' F' → RW C ops rest K ((d, v) :: env) B' F') : RW C ops (⟨some d, op, ty, pos, af, none⟩ :: rest) K env B F := by
  intro V E a w hdf hf hs
  refine wpList_plain rfl fun K hK => ?_
  obtain ⟨v, B', F', w', hr, hs', hp⟩ := hrun a.eval (fun x u hx => hf.eval (ev_append hx)) E w hs
  unfold Oper.wp
  rw [hr]
  exact hK _ _ (next v B' F' hp V E _ _ hdf (hf.put hd v) hs')
/-- One operation that calls. -/
theorem rw_stepC {d : Nat} {op : Op} {ty : TypeId} {pos : String} {af : Array Edge} {g : FuncId} {args : Array Value} (post : Value → List Ck → List Ck → Prop) (hd : Nat.blt d C.n = true)
    (hrun : ∀ ρ : Operand → Value, (∀ x u, ev env x = some u → ρ x = u) → ∀ w, (execOp ρ ⟨some d, op, ty, pos, af, none⟩).run C.P w = .ok (.enter g args) w)
    (hcall : ∀ E w, Sat C.w0 C.X w (B ++ (F ++ E)) → Calls C.P g args w fun e w' => ∃ v B' F', e = .returned v ∧ Sat C.w0 C.X w' (B' ++ (F' ++ E)) ∧ post v B' F')
    (next : ∀ v B' F', post v B' F' → RW C ops rest K ((d, v) :: env) B' F') : RW C ops (⟨some d, op, ty, pos, af, none⟩ :: rest) K env B F := by
  intro V E a w hdf hf hs
  refine wpList_plain rfl fun K hK => ?_
  have hr := hrun a.eval (fun x u hx => hf.eval (ev_append hx)) w
  unfold Oper.wp
  rw [hr]
  refine (hcall E w hs).mono fun e w' ⟨v, B', F', he, hs', hp⟩ => ?_
  subst he
  exact hK _ _ (next v B' F' hp V E _ _ hdf (hf.put hd v) hs')
/-- The same, no result taken. -/
theorem rw_stepC0 {op : Op} {ty : TypeId} {pos : String} {af : Array Edge} {g : FuncId} {args : Array Value} (post : List Ck → List Ck → Prop)
    (hrun : ∀ ρ : Operand → Value, (∀ x u, ev env x = some u → ρ x = u) → ∀ w, (execOp ρ ⟨none, op, ty, pos, af, none⟩).run C.P w = .ok (.enter g args) w)
    (hcall : ∀ E w, Sat C.w0 C.X w (B ++ (F ++ E)) → Calls C.P g args w fun e w' => ∃ v B' F', e = .returned v ∧ Sat C.w0 C.X w' (B' ++ (F' ++ E)) ∧ post B' F')
    (next : ∀ B' F', post B' F' → RW C ops rest K env B' F') : RW C ops (⟨none, op, ty, pos, af, none⟩ :: rest) K env B F := by
  intro V E a w hdf hf hs
  refine wpList_plain rfl fun K hK => ?_
  have hr := hrun a.eval (fun x u hx => hf.eval (ev_append hx)) w
  unfold Oper.wp
  rw [hr]
  refine (hcall E w hs).mono fun e w' ⟨v, B', F', he, hs', hp⟩ => ?_
  subst he
  exact hK _ _ (next B' F' hp V E _ _ hdf hf hs')
/-- One operation that yields nothing (a store). -/
theorem rw_step0 {op : Op} {ty : TypeId} {pos : String} {af : Array Edge} {B' F' : List Ck}
    (hrun : ∀ ρ : Operand → Value, (∀ x u, ev env x = some u → ρ x = u) → ∀ E w, Sat C.w0 C.X w (B ++ (F ++ E)) →
      ∃ w', (execOp ρ ⟨none, op, ty, pos, af, none⟩).run C.P w = .ok .skip w' ∧ Sat C.w0 C.X w' (B' ++ (F' ++ E)))
    (next : RW C ops rest K env B' F') : RW C ops (⟨none, op, ty, pos, af, none⟩ :: rest) K env B F := by
  intro V E a w hdf hf hs
  refine wpList_plain rfl fun K hK => ?_
  obtain ⟨w', hr, hs'⟩ := hrun a.eval (fun x u hx => hf.eval (ev_append hx)) E w hs
  unfold Oper.wp
  rw [hr]
  exact hK _ _ (next V E _ _ hdf hf hs')
/-- A guarded operation whose guard holds. -/
theorem rw_on {dst : Option Tmp} {op : Op} {ty : TypeId} {pos : String} {af : Array Edge} {j : Nat} {dj : Nat} {b t : Bool}
    (hj : ops[j]?.bind (·.dst) = some dj) (hb : look env dj = some (.bool t)) (ht : t = b) (next : RW C ops (⟨dst, op, ty, pos, af, none⟩ :: rest) K env B F) :
    RW C ops (⟨dst, op, ty, pos, af, some (j, b)⟩ :: rest) K env B F := by
  subst ht
  intro V E a w hdf hf hs
  have h := next V E a w hdf hf hs
  have hw : Region.wanted ⟨dst, op, ty, pos, af, some (j, t)⟩ (yielded ops a.tmps) = true := by
    have h1 := hf.2 dj _ (look_append hb)
    have h2 : a.tmps[dj]? = some (.bool t) := by
      cases h3 : a.tmps[dj]? with
      | none => simp [h3, undef] at h1
      | some u => simpa [h3] using h1
    simp [Region.wanted, yielded, hj, h2]
  have hw' : Region.wanted ⟨dst, op, ty, pos, af, none⟩ (yielded ops a.tmps) = true := rfl
  unfold wpList at h ⊢
  rw [if_pos hw]
  rw [if_pos hw'] at h
  exact h
/-- A guarded operation whose guard does not hold. -/
theorem rw_off {dst : Option Tmp} {op : Op} {ty : TypeId} {pos : String} {af : Array Edge} {j : Nat} {dj : Nat} {b t : Bool}
    (hj : ops[j]?.bind (·.dst) = some dj) (hb : look env dj = some (.bool t)) (ht : t = !b) (hd : dst.all (Nat.blt · C.n) = true)
    (next : RW C ops rest K (dst.elim env fun d => (d, undef) :: env) B F) :
    RW C ops (⟨dst, op, ty, pos, af, some (j, b)⟩ :: rest) K env B F := by
  intro V E a w hdf hf hs
  have hw : Region.wanted ⟨dst, op, ty, pos, af, some (j, b)⟩ (yielded ops a.tmps) = false := by
    have h1 := hf.2 dj _ (look_append hb)
    have h2 : a.tmps[dj]? = some (.bool t) := by
      cases h3 : a.tmps[dj]? with
      | none => simp [h3, undef] at h1
      | some u => simpa [h3] using h1
    simp only [Region.wanted, yielded, hj, Option.bind_some, h2, ht]
    cases b <;> rfl
  unfold wpList
  rw [if_neg (by rw [hw]; simp)]
  cases dst with
  | none => exact next V E a w hdf hf hs
  | some d => exact next V E _ w hdf (hf.put (by simpa using hd) undef) hs
/-- A guarded operation whose guard was itself passed over. -/
theorem rw_offu {dst : Option Tmp} {op : Op} {ty : TypeId} {pos : String} {af : Array Edge} {j : Nat} {dj : Nat} {b : Bool}
    (hj : ops[j]?.bind (·.dst) = some dj) (hb : look env dj = some undef) (hd : dst.all (Nat.blt · C.n) = true)
    (next : RW C ops rest K (dst.elim env fun d => (d, undef) :: env) B F) :
    RW C ops (⟨dst, op, ty, pos, af, some (j, b)⟩ :: rest) K env B F := by
  intro V E a w hdf hf hs
  have hw : Region.wanted ⟨dst, op, ty, pos, af, some (j, b)⟩ (yielded ops a.tmps) = false := by
    have h1 := hf.2 dj _ (look_append hb)
    have h2 : a.tmps[dj]? = none ∨ a.tmps[dj]? = some undef := by
      cases h3 : a.tmps[dj]? with
      | none => exact .inl rfl
      | some u => right; simpa [h3] using h1
    rcases h2 with h2 | h2 <;> simp [Region.wanted, yielded, hj, h2, undef]
  unfold wpList
  rw [if_neg (by rw [hw]; simp)]
  cases dst with
  | none => exact next V E a w hdf hf hs
  | some d => exact next V E _ w hdf (hf.put (by simpa using hd) undef) hs
end

/-- The parameters, as an environment. -/
def argEnv : Nat → List Value → Env
  | _, [] => []
  | i, v :: vs => (i, v) :: argEnv (i + 1) vs
theorem look_argEnv : ∀ (vs : List Value) (k i : Nat) (v : Value), look (argEnv k vs) i = some v → k ≤ i ∧ vs[i - k]? = some v
  | [], k, i, v, h => by cases h
  | u :: vs, k, i, v, h => by
    simp only [argEnv, look] at h
    cases hb : Nat.beq k i with
    | true =>
      have : k = i := Nat.eq_of_beq_eq_true hb
      subst this
      simp at h
      simp [h]
    | false =>
      have hne : k ≠ i := Nat.ne_of_beq_eq_false hb
      simp [hb] at h
      obtain ⟨h1, h2⟩ := look_argEnv vs (k + 1) i v h
      refine ⟨by omega, ?_⟩
      rw [show i - k = (i - (k + 1)) + 1 by omega]
      simpa using h2

/-- The head of a contract's proof. -/
theorem calls_of_gw {P : Program} {f : FuncId} {fn : Func} {c : Code} {args : Array Value} {w : World} {X : List Nat} {R : Ending → World → Prop} {env : Env} {B F : List Ck}
    (hf : P.funcs[f]? = some fn) (hb : fn.body = some c) (n : Nat) (hn : fn.ntmps = n) (hle : Nat.ble args.size n = true)
    (he : ∀ i v, look env i = some v → (args.getD i undef) = v) (hs : Sat w X w (B ++ F))
    (h : GW ⟨P, f, n, w, X, R⟩ [.code c] env B F) : Calls P f args w R := by
  intro cs
  let b : Frame := { (default : Frame) with fn := f, kind := .normal }
  have henter : Frame.enter P f args .normal =
      b.at { tmps := args ++ Array.replicate (fn.ntmps - args.size) undef, defers := [] } [.code c] := by
    simp [Frame.enter, Frame.at, hf, hb, b]
  have hle' : args.size ≤ n := by simpa using hle
  rw [henter]
  refine h [] _ w rfl ⟨by simp [hn]; omega, fun i v hi => ?_⟩ hs.ofE b cs rfl rfl
  have := he i v hi
  simp only [Array.getD_eq_getD_getElem?] at this ⊢
  rw [Array.getElem?_append]
  split
  · exact this
  · rename_i hlt
    rw [Array.getElem?_eq_none (by omega)] at this
    rw [← this]
    simp only [Array.getElem?_replicate]
    split <;> rfl
theorem calls_of {P : Program} {f : FuncId} {fn : Func} {c : Code} {vs : List Value} {w : World} {X : List Nat} {R : Ending → World → Prop} {B F : List Ck} {n : Nat}
    (hf : P.funcs[f]? = some fn) (hb : fn.body = some c) (hn : fn.ntmps = n) (hle : Nat.ble vs.length n = true) (hs : Sat w X w (B ++ F))
    (h : GW ⟨P, f, n, w, X, R⟩ [.code c] (argEnv 0 vs) B F) : Calls P f vs.toArray w R :=
  calls_of_gw hf hb n hn (by simpa using hle) (fun i v hi => by
    obtain ⟨_, h2⟩ := look_argEnv vs 0 i v hi
    simp at h2
    simp [h2]) hs h
end SL
end Go.Proofs.Ytbhnekiclbfmgaa
