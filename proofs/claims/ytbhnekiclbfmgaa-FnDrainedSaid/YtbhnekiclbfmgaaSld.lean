/- A region that draws its order: it is enough to walk it in one order, if every operation finds what it needs, whatever came up before it. -/
import Derived.Test.YtbhnekiclbfmgaaSlo
namespace Go.Proofs.Ytbhnekiclbfmgaa
namespace SL
open Go.RowKit

/-- What of an environment an operation looks at. -/
def restr (σ : Env) : List Nat → Env
  | [] => []
  | t :: L => match look σ t with | some v => (t, v) :: restr σ L | none => restr σ L
theorem look_restr (σ : Env) : ∀ (L : List Nat) (t : Nat) (v : Value), look (restr σ L) t = some v → look σ t = some v
  | [], _, _, h => by cases h
  | u :: L, t, v, h => by
    unfold restr at h
    cases hu : look σ u with
    | none => simp only [hu] at h; exact look_restr σ L t v h
    | some x =>
      simp only [hu, look] at h
      cases hb : Nat.beq u t with
      | true =>
        have : u = t := Nat.eq_of_beq_eq_true hb
        subst this
        simp at h
        rw [hu, h]
      | false => simp [hb] at h; exact look_restr σ L t v h
theorem restr_congr {σ σ' : Env} : ∀ {L : List Nat}, (∀ t ∈ L, look σ t = look σ' t) → restr σ L = restr σ' L
  | [], _ => rfl
  | t :: L, h => by
    unfold restr
    rw [h t (by simp), restr_congr (L := L) fun u hu => h u (by simp [hu])]

/-- One operation by itself: what it yields, and in which new blocks. -/
def AStep (C : Cx) (ops : Array Oper) (o : Oper) (d : Nat) (e : Env) (B F : List Ck) (R : Value → List Ck → Prop) : Prop :=
  ∀ K : Env → List Ck → Act → World → Prop,
    (∀ v ch, R v ch → ∀ (V : Env) (E : List Ck) a w, a.defers = [] → Fits C.n (((d, v) :: e) ++ V) a.tmps → Sat C.w0 C.X w (B ++ ((ch ++ F) ++ E)) → K V E a w) →
    RW C ops [o] K e B F

/-- How an operation stands in the order that is walked: 'det': it yields one value; 'add': it makes blocks, or yields what the machine picks, and all that is walked behind it waits for it; 'free': a new variable, which waits for nothing. -/
inductive Kd where
  | det
  | detB
  | add
  | chg
  | sto
  | free (T : Nat) (zs : List Value)

/-- One operation that changes the blocks at hand. -/
def XStep (C : Cx) (ops : Array Oper) (o : Oper) (d : Nat) (e : Env) (B F : List Ck) (R : Value → List Ck → Prop) : Prop :=
  ∀ K : Env → List Ck → Act → World → Prop,
    (∀ v F', R v F' → ∀ (V : Env) (E : List Ck) a w, a.defers = [] → Fits C.n (((d, v) :: e) ++ V) a.tmps → Sat C.w0 C.X w (B ++ (F' ++ E)) → K V E a w) →
    RW C ops [o] K e B F

/-- One operation that yields nothing. -/
def ZStep (C : Cx) (ops : Array Oper) (o : Oper) (e : Env) (B F : List Ck) (R : List Ck → Prop) : Prop :=
  ∀ K : Env → List Ck → Act → World → Prop,
    (∀ F', R F' → ∀ (V : Env) (E : List Ck) a w, a.defers = [] → Fits C.n (e ++ V) a.tmps → Sat C.w0 C.X w (B ++ (F' ++ E)) → K V E a w) →
    RW C ops [o] K e B F

def NewVar (T : Nat) (zs : List Value) (v : Value) (ch : List Ck) : Prop := ∃ b, v = .pointer (some ⟨b, 0, none⟩) ∧ ch = [⟨b, T, zs⟩]

def DW (C : Cx) (ops : Array Oper) (B : List Ck) (tl : Env → List Ck → Prop) : List (Nat × Kd) → Env → List Ck → Prop
  | [], σ, F => tl σ F
  | (j, .det) :: π, σ, F => ∃ o d v, ops[j]? = some o ∧ o.dst = some d ∧ AStep C ops o d (restr σ (o.looksAt ops)) B F (fun v' ch => v' = v ∧ ch = []) ∧ DW C ops B tl π ((d, v) :: σ) F
  | (j, .detB) :: π, σ, F => ∃ o d v, ops[j]? = some o ∧ o.dst = some d ∧ AStep C ops o d (restr σ (o.looksAt ops)) B [] (fun v' ch => v' = v ∧ ch = []) ∧ DW C ops B tl π ((d, v) :: σ) F
  | (j, .add) :: π, σ, F => ∃ o d R, ops[j]? = some o ∧ o.dst = some d ∧ AStep C ops o d (restr σ (o.looksAt ops)) B F R ∧ ∀ v ch, R v ch → DW C ops B tl π ((d, v) :: σ) (ch ++ F)
  | (j, .chg) :: π, σ, F => ∃ o d R, ops[j]? = some o ∧ o.dst = some d ∧ XStep C ops o d (restr σ (o.looksAt ops)) B F R ∧ ∀ v F', R v F' → DW C ops B tl π ((d, v) :: σ) F'
  | (j, .sto) :: π, σ, F => ∃ o R, ops[j]? = some o ∧ o.dst = none ∧ ZStep C ops o (restr σ (o.looksAt ops)) B F R ∧ ∀ F', R F' → DW C ops B tl π σ F'
  | (j, .free T zs) :: π, σ, F => ∀ o d, ops[j]? = some o → o.dst = some d → ∀ v ch, NewVar T zs v ch → DW C ops B tl π ((d, v) :: σ) (ch ++ F)

def FreeOk (C : Cx) (ops : Array Oper) (π : List (Nat × Kd)) : Prop :=
  ∀ j T zs, (j, .free T zs) ∈ π → ∃ o d, ops[j]? = some o ∧ o.dst = some d ∧ AStep C ops o d [] [] [] (NewVar T zs)

section
variable {C : Cx} {ops : Array Oper} {B F : List Ck} {e σ : Env} {o : Oper} {d : Nat} {R : Value → List Ck → Prop}

theorem AStep.perm {F' : List Ck} (h : AStep C ops o d e B F R) (hp : F.Perm F') : AStep C ops o d e B F' R := by
  intro K hK
  refine rw_perm (B' := B) (F' := F) (hp.symm.append_left B) (h K fun v ch hR V E a w hd hf hs => hK v ch hR V E a w hd hf (hs.perm ?_))
  exact (((hp.append_left ch).append_right E).append_left B)

theorem AStep.frame (h : AStep C ops o d e B F R) (G : List Ck) : AStep C ops o d e B (G ++ F) R := by
  intro K hK V E a w hd hf hs
  have h1 := h (fun V E' a w => ∀ E, E' = G ++ E → K V E a w) (fun v ch hR V E' a w hd hf hs E hE => hK v ch hR V E a w hd hf (hs.perm (by
    subst hE
    refine List.Perm.append_left B ?_
    rw [List.append_assoc, List.append_assoc, List.append_assoc]
    refine List.Perm.append_left ch ?_
    rw [← List.append_assoc, ← List.append_assoc]
    exact List.perm_append_comm.append_right E)))
  have h2 := h1 V (G ++ E) a w hd hf (hs.perm (by
    refine List.Perm.append_left B ?_
    rw [← List.append_assoc]
    exact List.perm_append_comm.append_right E))
  refine wpList_mono_QN ?_ h2
  exact fun a w h => h E rfl

theorem XStep.perm {F' : List Ck} (h : XStep C ops o d e B F R) (hp : F.Perm F') : XStep C ops o d e B F' R := by
  intro K hK
  exact rw_perm (B' := B) (F' := F) (hp.symm.append_left B) (h K hK)
theorem XStep.frame (h : XStep C ops o d e B F R) (G : List Ck) : XStep C ops o d e B (G ++ F) (fun v F'' => ∃ F', R v F' ∧ F'' = G ++ F') := by
  intro K hK V E a w hd hf hs
  have h1 := h (fun V E' a w => ∀ E, E' = G ++ E → K V E a w) (fun v F' hR V E' a w hd hf hs E hE => hK v _ ⟨F', hR, rfl⟩ V E a w hd hf (hs.perm (by
    subst hE
    refine List.Perm.append_left B ?_
    rw [← List.append_assoc]
    exact List.perm_append_comm.append_right E)))
  have h2 := h1 V (G ++ E) a w hd hf (hs.perm (by
    refine List.Perm.append_left B ?_
    rw [← List.append_assoc]
    exact List.perm_append_comm.append_right E))
  refine wpList_mono_QN ?_ h2
  exact fun a w h => h E rfl

theorem ZStep.perm {R : List Ck → Prop} {F' : List Ck} (h : ZStep C ops o e B F R) (hp : F.Perm F') : ZStep C ops o e B F' R := by
  intro K hK
  exact rw_perm (B' := B) (F' := F) (hp.symm.append_left B) (h K hK)
theorem ZStep.frame {R : List Ck → Prop} (h : ZStep C ops o e B F R) (G : List Ck) : ZStep C ops o e B (G ++ F) (fun F'' => ∃ F', R F' ∧ F'' = G ++ F') := by
  intro K hK V E a w hd hf hs
  have h1 := h (fun V E' a w => ∀ E, E' = G ++ E → K V E a w) (fun F' hR V E' a w hd hf hs E hE => hK _ ⟨F', hR, rfl⟩ V E a w hd hf (hs.perm (by
    subst hE
    refine List.Perm.append_left B ?_
    rw [← List.append_assoc]
    exact List.perm_append_comm.append_right E)))
  have h2 := h1 V (G ++ E) a w hd hf (hs.perm (by
    refine List.Perm.append_left B ?_
    rw [← List.append_assoc]
    exact List.perm_append_comm.append_right E))
  refine wpList_mono_QN ?_ h2
  exact fun a w h => h E rfl

theorem look_app_none {e V : Env} {i : Nat} (h : look e i = none) : look (e ++ V) i = look V i := by
  induction e with
  | nil => rfl
  | cons p e ih =>
    obtain ⟨j, u⟩ := p
    simp only [List.cons_append, look] at h ⊢
    cases hb : Nat.beq j i <;> simp [hb] at h ⊢
    exact ih h
theorem Fits.restr {n : Nat} {tm : Array Value} (h : Fits n σ tm) (L : List Nat) : Fits n (restr σ L ++ σ) tm := by
  refine ⟨h.1, fun i v hi => h.2 i v ?_⟩
  cases hr : look (SL.restr σ L) i with
  | none => rwa [look_app_none hr] at hi
  | some u =>
    rw [look_append hr] at hi
    rw [look_restr σ L i u hr, hi]
theorem Fits.unrestr {n : Nat} {tm : Array Value} {L : List Nat} {v : Value} (h : Fits n (((d, v) :: SL.restr σ L) ++ σ) tm) : Fits n ((d, v) :: σ) tm := by
  refine ⟨h.1, fun i u hi => h.2 i u ?_⟩
  simp only [List.cons_append, look] at hi ⊢
  cases hb : Nat.beq d i with
  | true => simpa [hb] using hi
  | false =>
    simp [hb] at hi ⊢
    cases hr : look (SL.restr σ L) i with
    | none => rw [look_app_none hr, hi]
    | some x =>
      rw [look_append hr]
      rw [look_restr σ L i x hr] at hi
      exact hi

/-- The operation, carried out where its operands are at hand. -/
theorem AStep.run {L : List Nat} (h : AStep C ops o d (restr σ L) B F R) {E : List Ck} {a : Act} {w : World} (hd : a.defers = []) (hf : Fits C.n σ a.tmps) (hs : Sat C.w0 C.X w (B ++ (F ++ E))) :
    wpList C.P ops (QN fun a w => a.defers = [] ∧ ∃ v ch, R v ch ∧ Fits C.n ((d, v) :: σ) a.tmps ∧ Sat C.w0 C.X w (B ++ ((ch ++ F) ++ E))) [o] a w := by
  have h1 := h (fun V E' a w => V = σ → E' = E → (a.defers = [] ∧ ∃ v ch, R v ch ∧ Fits C.n ((d, v) :: σ) a.tmps ∧ Sat C.w0 C.X w (B ++ ((ch ++ F) ++ E))))
    (fun v ch hR V E' a w hd' hf' hs' hV hE => by
      rw [hV] at hf'
      rw [hE] at hs'
      exact ⟨hd', v, ch, hR, hf'.unrestr, hs'⟩) σ E a w hd (hf.restr L) hs
  exact wpList_mono_QN (fun a w hh => hh rfl rfl) h1
theorem XStep.run {L : List Nat} (h : XStep C ops o d (restr σ L) B F R) {E : List Ck} {a : Act} {w : World} (hd : a.defers = []) (hf : Fits C.n σ a.tmps) (hs : Sat C.w0 C.X w (B ++ (F ++ E))) :
    wpList C.P ops (QN fun a w => a.defers = [] ∧ ∃ v F', R v F' ∧ Fits C.n ((d, v) :: σ) a.tmps ∧ Sat C.w0 C.X w (B ++ (F' ++ E))) [o] a w := by
  have h1 := h (fun V E' a w => V = σ → E' = E → (a.defers = [] ∧ ∃ v F', R v F' ∧ Fits C.n ((d, v) :: σ) a.tmps ∧ Sat C.w0 C.X w (B ++ (F' ++ E))))
    (fun v F' hR V E' a w hd' hf' hs' hV hE => by
      rw [hV] at hf'
      rw [hE] at hs'
      exact ⟨hd', v, F', hR, hf'.unrestr, hs'⟩) σ E a w hd (hf.restr L) hs
  exact wpList_mono_QN (fun a w hh => hh rfl rfl) h1
theorem Fits.unrestrZ {n : Nat} {tm : Array Value} {L : List Nat} (h : Fits n (SL.restr σ L ++ σ) tm) : Fits n σ tm := by
  refine ⟨h.1, fun i u hi => h.2 i u ?_⟩
  cases hr : look (SL.restr σ L) i with
  | none => rw [look_app_none hr, hi]
  | some x =>
    rw [look_append hr]
    rw [look_restr σ L i x hr] at hi
    exact hi
theorem ZStep.run {L : List Nat} {R : List Ck → Prop} (h : ZStep C ops o (restr σ L) B F R) {E : List Ck} {a : Act} {w : World} (hd : a.defers = []) (hf : Fits C.n σ a.tmps) (hs : Sat C.w0 C.X w (B ++ (F ++ E))) :
    wpList C.P ops (QN fun a w => a.defers = [] ∧ ∃ F', R F' ∧ Fits C.n σ a.tmps ∧ Sat C.w0 C.X w (B ++ (F' ++ E))) [o] a w := by
  have h1 := h (fun V E' a w => V = σ → E' = E → (a.defers = [] ∧ ∃ F', R F' ∧ Fits C.n σ a.tmps ∧ Sat C.w0 C.X w (B ++ (F' ++ E))))
    (fun F' hR V E' a w hd' hf' hs' hV hE => by
      rw [hV] at hf'
      rw [hE] at hs'
      exact ⟨hd', F', hR, hf'.unrestrZ, hs'⟩) σ E a w hd (hf.restr L) hs
  exact wpList_mono_QN (fun a w hh => hh rfl rfl) h1
theorem AStep.run0 (h : AStep C ops o d [] [] [] R) {E : List Ck} {a : Act} {w : World} (hd : a.defers = []) (hf : Fits C.n σ a.tmps) (hs : Sat C.w0 C.X w (B ++ (F ++ E))) :
    wpList C.P ops (QN fun a w => a.defers = [] ∧ ∃ v ch, R v ch ∧ Fits C.n ((d, v) :: σ) a.tmps ∧ Sat C.w0 C.X w (B ++ ((ch ++ F) ++ E))) [o] a w := by
  have h1 := h (fun V E' a w => V = σ → E' = B ++ (F ++ E) → (a.defers = [] ∧ ∃ v ch, R v ch ∧ Fits C.n ((d, v) :: σ) a.tmps ∧ Sat C.w0 C.X w (B ++ ((ch ++ F) ++ E))))
    (fun v ch hR V E' a w hd' hf' hs' hV hE => by
      rw [hV] at hf'
      rw [hE] at hs'
      refine ⟨hd', v, ch, hR, by simpa using hf', hs'.perm ?_⟩
      have h1 := ((List.perm_append_comm (l₁ := ch) (l₂ := B)).append_right F).append_right E
      simpa [List.append_assoc] using h1) σ (B ++ (F ++ E)) a w hd (by simpa using hf) (by simpa using hs)
  exact wpList_mono_QN (fun a w hh => hh rfl rfl) h1

theorem wpOp_of_list {P : Program} {j : Nat} {K : Act → World → Prop} {K' : Act → World → Prop} {Kf : Act → World → Prop} {a : Act} {w : World} (hj : ops[j]? = some o)
    (h : wpList P ops (QN K) [o] a w) (hk : ∀ a w, K a w → K' a w) : wpOp P ops (QN Kf) j K' a w := by
  unfold wpOp
  simp only [hj]
  unfold wpList at h
  split
  · rename_i hw
    rw [if_pos hw] at h
    rcases h with h | ⟨_, h⟩
    · refine .inl ?_
      have : ∀ a w, wpList P ops (QN K) [] a w → K' a w := fun a w hh => hk a w hh
      unfold Oper.wp at *
      generalize (execOp a.eval o).run P w = r at *
      cases r with
      | ok n w' =>
        cases n <;> simp only [Oper.upon] at h ⊢ <;>
          first
            | exact this _ _ h
            | exact Calls.mono h (fun e w'' he => by
                cases e with
                | returned v => exact this _ _ he
                | panicked c => exact he.elim
                | outgrown => exact (noOut he).elim)
            | exact Rows.mono h (fun _ _ he => this _ _ he)
      | halt x w' => cases x <;> simp only [Oper.upon] at h ⊢ <;> exact h.elim
    · exact (noOut h).elim
  · rename_i hw
    rw [if_neg hw] at h
    exact hk _ _ h

/-! ### the conditions on the edges, by reckoning -/
def preds (ops : Array Oper) (j : Nat) : List Nat :=
  match ops[j]? with
  | some o => (o.after.toList.filter (Region.binds .any)).map (·.on)
  | none => []
/-- All that has to come up ahead. -/
def ancs (ops : Array Oper) : List (List Nat) :=
  (List.range ops.size).foldl (fun A j => A ++ [(preds ops j ++ (preds ops j).flatMap fun p => A.getD p []).eraseDups]) []
def looksOf (ops : Array Oper) (j : Nat) : List Nat := match ops[j]? with | some o => o.looksAt ops | none => []
def dstOf (ops : Array Oper) (j : Nat) : Option Nat := ops[j]?.bind (·.dst)

def okPair (ops : Array Oper) (A : List (List Nat)) (i j : Nat × Kd) : Bool :=
  (i.1 != j.1 && (match dstOf ops j.1 with | some d => !(dstOf ops i.1 == some d) && !(looksOf ops i.1).contains d | none => true)) &&
  (match i.2, j.2 with
   | _, .free .. => true
   | .det, .sto => (A.getD j.1 []).contains i.1
   | .sto, _ => (A.getD j.1 []).contains i.1
   | .free .., _ => false
   | .add, _ => (A.getD j.1 []).contains i.1
   | .chg, _ => (A.getD j.1 []).contains i.1
   | .det, .chg => (A.getD j.1 []).contains i.1
   | .det, _ => (match dstOf ops i.1 with | some d => !(looksOf ops j.1).contains d || (A.getD j.1 []).contains i.1 | none => false)
   | .detB, _ => (match dstOf ops i.1 with | some d => !(looksOf ops j.1).contains d || (A.getD j.1 []).contains i.1 | none => false))
def okPairs (ops : Array Oper) (A : List (List Nat)) : List (Nat × Kd) → Bool
  | [] => true
  | i :: π => π.all (okPair ops A i) && okPairs ops A π
def okTail (A : List (List Nat)) : List Nat → List Nat → Bool
  | _, [] => true
  | done, t :: τ => done.all (fun i => (A.getD t []).contains i) && okTail A (done ++ [t]) τ
def okCert (ops : Array Oper) (A : List (List Nat)) : Bool :=
  (List.range ops.size).all fun j => (preds ops j).all (fun p => p.blt j) &&
    (A.getD j []).all fun i => (preds ops j).contains i || (preds ops j).any fun p => (A.getD p []).contains i
def okDraw (ops : Array Oper) (π : List (Nat × Kd)) (τ : List Nat) : Bool :=
  let A := ancs ops
  okCert ops A && okPairs ops A π && okTail A (π.map (·.1)) τ &&
    (List.range ops.size).all (fun j => (π.map (·.1) ++ τ).contains j) && (π.map (·.1) ++ τ).all (·.blt ops.size) && (π.map (·.1) ++ τ).length == ops.size

variable {tl : Env → List Ck → Prop}
/-- The rest does not look at the order in which the states were written down. -/
def TlOk (tl : Env → List Ck → Prop) : Prop := ∀ σ σ' F F', (∀ t, look σ t = look σ' t) → F.Perm F' → tl σ F → tl σ' F'

theorem look_cons_congr {σ σ' : Env} (h : ∀ t, look σ t = look σ' t) (d : Nat) (v : Value) : ∀ t, look ((d, v) :: σ) t = look ((d, v) :: σ') t := by
  intro t; simp only [look]; rw [h t]
theorem look_swap {σ : Env} {d d' : Nat} (hne : d ≠ d') (v v' : Value) : ∀ t, look ((d, v) :: (d', v') :: σ) t = look ((d', v') :: (d, v) :: σ) t := by
  intro t
  simp only [look]
  cases h1 : Nat.beq d t <;> cases h2 : Nat.beq d' t <;> simp
  have e1 := Nat.eq_of_beq_eq_true h1
  have e2 := Nat.eq_of_beq_eq_true h2
  exact absurd (e1.trans e2.symm) hne
theorem look_cons_ne {σ : Env} {d t : Nat} (v : Value) (h : d ≠ t) : look ((d, v) :: σ) t = look σ t := by
  simp only [look]
  cases hb : Nat.beq d t with
  | true => exact absurd (Nat.eq_of_beq_eq_true hb) h
  | false => rfl

theorem DW.congr (htl : TlOk tl) : ∀ (π : List (Nat × Kd)) (σ σ' : Env) (F F' : List Ck), (∀ t, look σ t = look σ' t) → F.Perm F' → DW C ops B tl π σ F → DW C ops B tl π σ' F'
  | [], σ, σ', F, F', hl, hp, h => htl σ σ' F F' hl hp h
  | (j, .det) :: π, σ, σ', F, F', hl, hp, h => by
    obtain ⟨o, d, v, ho, hd, hA, hr⟩ := h
    refine ⟨o, d, v, ho, hd, ?_, DW.congr htl π _ _ F F' (look_cons_congr hl d v) hp hr⟩
    rw [← restr_congr (L := o.looksAt ops) fun t _ => hl t]
    exact hA.perm hp
  | (j, .detB) :: π, σ, σ', F, F', hl, hp, h => by
    obtain ⟨o, d, v, ho, hd, hA, hr⟩ := h
    refine ⟨o, d, v, ho, hd, ?_, DW.congr htl π _ _ F F' (look_cons_congr hl d v) hp hr⟩
    rw [← restr_congr (L := o.looksAt ops) fun t _ => hl t]
    exact hA
  | (j, .add) :: π, σ, σ', F, F', hl, hp, h => by
    obtain ⟨o, d, R, ho, hd, hA, hr⟩ := h
    refine ⟨o, d, R, ho, hd, ?_, fun v ch hR => DW.congr htl π _ _ _ _ (look_cons_congr hl d v) (hp.append_left ch) (hr v ch hR)⟩
    rw [← restr_congr (L := o.looksAt ops) fun t _ => hl t]
    exact hA.perm hp
  | (j, .chg) :: π, σ, σ', F, F', hl, hp, h => by
    obtain ⟨o, d, R, ho, hd, hA, hr⟩ := h
    refine ⟨o, d, R, ho, hd, ?_, fun v F'' hR => DW.congr htl π _ _ _ _ (look_cons_congr hl d v) (List.Perm.refl _) (hr v F'' hR)⟩
    rw [← restr_congr (L := o.looksAt ops) fun t _ => hl t]
    exact hA.perm hp
  | (j, .sto) :: π, σ, σ', F, F', hl, hp, h => by
    obtain ⟨o, R, ho, hd, hA, hr⟩ := h
    refine ⟨o, R, ho, hd, ?_, fun F'' hR => DW.congr htl π _ _ _ _ hl (List.Perm.refl _) (hr F'' hR)⟩
    rw [← restr_congr (L := o.looksAt ops) fun t _ => hl t]
    exact hA.perm hp
  | (j, .free T zs) :: π, σ, σ', F, F', hl, hp, h =>
    fun o d ho hd v ch hR => DW.congr htl π _ _ _ _ (look_cons_congr hl d v) (hp.append_left ch) (h o d ho hd v ch hR)

def without (j : Nat) (π : List (Nat × Kd)) : List (Nat × Kd) := π.filter fun p => !(p.1 == j)

def Taken (C : Cx) (ops : Array Oper) (B : List Ck) (tl : Env → List Ck → Prop) (π : List (Nat × Kd)) (σ : Env) (F : List Ck) (j : Nat) : Kd → Prop
  | .free T zs => ∀ o d, ops[j]? = some o → o.dst = some d → ∀ v ch, NewVar T zs v ch → DW C ops B tl (without j π) ((d, v) :: σ) (ch ++ F)
  | .chg => ∃ o d R, ops[j]? = some o ∧ o.dst = some d ∧ XStep C ops o d (restr σ (o.looksAt ops)) B F R ∧ ∀ v F', R v F' → DW C ops B tl (without j π) ((d, v) :: σ) F'
  | .sto => ∃ o R, ops[j]? = some o ∧ o.dst = none ∧ ZStep C ops o (restr σ (o.looksAt ops)) B F R ∧ ∀ F', R F' → DW C ops B tl (without j π) σ F'
  | _ => ∃ o d R, ops[j]? = some o ∧ o.dst = some d ∧ AStep C ops o d (restr σ (o.looksAt ops)) B F R ∧ ∀ v ch, R v ch → DW C ops B tl (without j π) ((d, v) :: σ) (ch ++ F)

theorem okPair_spec {A : List (List Nat)} {i j : Nat × Kd} (h : okPair ops A i j = true) :
    (∀ di dj, dstOf ops i.1 = some di → dstOf ops j.1 = some dj → di ≠ dj) ∧ (∀ dj, dstOf ops j.1 = some dj → dj ∉ looksOf ops i.1) ∧ i.1 ≠ j.1 := by
  simp only [okPair, Bool.and_eq_true] at h
  obtain ⟨⟨h1, h2⟩, _⟩ := h
  refine ⟨fun di dj hi hj e => ?_, fun dj hj => ?_, fun e => ?_⟩
  · subst e; rw [hj, hi] at h2; simp at h2
  · rw [hj] at h2; simp only [Bool.and_eq_true] at h2; simpa using h2.2
  · rw [e] at h1; simp at h1

theorem okPair_det {A : List (List Nat)} {i j : Nat} {kd : Kd} (h : okPair ops A (i, .det) (j, kd) = true) (hk : ∀ T zs, kd ≠ .free T zs) {di : Nat} (hi : dstOf ops i = some di)
    (hl : di ∈ looksOf ops j) : i ∈ A.getD j [] := by
  simp only [okPair, Bool.and_eq_true] at h
  cases kd with
  | free T zs => exact absurd rfl (hk T zs)
  | det => simpa [hi, hl] using h.2
  | detB => simpa [hi, hl] using h.2
  | add => simpa [hi, hl] using h.2
  | chg => simpa using h.2
  | sto => simpa using h.2
theorem okPair_detChg {A : List (List Nat)} {i j : Nat} (h : okPair ops A (i, .det) (j, .chg) = true) : i ∈ A.getD j [] := by
  simp only [okPair, Bool.and_eq_true] at h
  simpa using h.2
theorem okPair_detSto {A : List (List Nat)} {i j : Nat} (h : okPair ops A (i, .det) (j, .sto) = true) : i ∈ A.getD j [] := by
  simp only [okPair, Bool.and_eq_true] at h
  simpa using h.2
theorem okPair_detB {A : List (List Nat)} {i j : Nat} {kd : Kd} (h : okPair ops A (i, .detB) (j, kd) = true) (hk : ∀ T zs, kd ≠ .free T zs) {di : Nat} (hi : dstOf ops i = some di)
    (hl : di ∈ looksOf ops j) : i ∈ A.getD j [] := by
  simp only [okPair, Bool.and_eq_true] at h
  cases kd with
  | free T zs => exact absurd rfl (hk T zs)
  | det => simpa [hi, hl] using h.2
  | detB => simpa [hi, hl] using h.2
  | add => simpa [hi, hl] using h.2
  | chg => simpa [hi, hl] using h.2
  | sto => simpa [hi, hl] using h.2
theorem okPair_chg {A : List (List Nat)} {i j : Nat} {kd : Kd} (h : okPair ops A (i, .chg) (j, kd) = true) (hk : ∀ T zs, kd ≠ .free T zs) : i ∈ A.getD j [] := by
  simp only [okPair, Bool.and_eq_true] at h
  cases kd with
  | free T zs => exact absurd rfl (hk T zs)
  | det => simpa using h.2
  | detB => simpa using h.2
  | add => simpa using h.2
  | chg => simpa using h.2
  | sto => simpa using h.2
theorem okPair_add {A : List (List Nat)} {i j : Nat} {kd : Kd} (h : okPair ops A (i, .add) (j, kd) = true) (hk : ∀ T zs, kd ≠ .free T zs) : i ∈ A.getD j [] := by
  simp only [okPair, Bool.and_eq_true] at h
  cases kd with
  | free T zs => exact absurd rfl (hk T zs)
  | det => simpa using h.2
  | detB => simpa using h.2
  | add => simpa using h.2
  | chg => simpa using h.2
  | sto => simpa using h.2
theorem okPair_sto {A : List (List Nat)} {i j : Nat} {kd : Kd} (h : okPair ops A (i, .sto) (j, kd) = true) (hk : ∀ T zs, kd ≠ .free T zs) : i ∈ A.getD j [] := by
  simp only [okPair, Bool.and_eq_true] at h
  cases kd with
  | free T zs => exact absurd rfl (hk T zs)
  | det => simpa using h.2
  | detB => simpa using h.2
  | add => simpa using h.2
  | chg => simpa using h.2
  | sto => simpa using h.2
theorem okPair_free {A : List (List Nat)} {i j : Nat} {kd : Kd} {T : Nat} {zs : List Value} (h : okPair ops A (i, .free T zs) (j, kd) = true) : ∃ T zs, kd = .free T zs := by
  simp only [okPair, Bool.and_eq_true] at h
  cases kd with
  | free T zs => exact ⟨T, zs, rfl⟩
  | det => simp at h
  | detB => simp at h
  | add => simp at h
  | chg => simp at h
  | sto => simp at h

theorem without_head {A : List (List Nat)} {i : Nat × Kd} {π : List (Nat × Kd)} (h : (π.all (okPair ops A i)) = true) : without i.1 (i :: π) = π := by
  unfold without
  rw [List.filter_cons]
  simp only [beq_self_eq_true, Bool.not_true, Bool.false_eq_true, if_false]
  rw [List.filter_eq_self]
  intro p hp
  have := (okPair_spec (List.all_eq_true.1 h p hp)).2.2
  simp; exact fun e => this e.symm

theorem dw_take (htl : TlOk tl) {A : List (List Nat)} {j : Nat} {kd : Kd} : ∀ (π : List (Nat × Kd)) (σ : Env) (F : List Ck), okPairs ops A π = true → (j, kd) ∈ π →
    (∀ i ∈ A.getD j [], i ∉ π.map (·.1)) → DW C ops B tl π σ F → Taken C ops B tl π σ F j kd
  | [], _, _, _, hm, _, _ => by cases hm
  | (i, ki) :: π, σ, F, hok, hm, hrdy, h => by
    simp only [okPairs, Bool.and_eq_true] at hok
    obtain ⟨hall, hok'⟩ := hok
    by_cases hij : (j, kd) = (i, ki)
    · injection hij with e1 e2
      subst e1 e2
      have hw := without_head hall
      simp only at hw
      cases kd with
      | det =>
        obtain ⟨o, d, v, ho, hd, hA, hr⟩ := h
        refine ⟨o, d, _, ho, hd, hA, fun v' ch ⟨h1, h2⟩ => ?_⟩
        subst h1 h2
        rw [hw]; exact hr
      | detB =>
        obtain ⟨o, d, v, ho, hd, hA, hr⟩ := h
        have hA2 := hA.frame F
        rw [List.append_nil] at hA2
        refine ⟨o, d, (fun v' ch => v' = v ∧ ch = []), ho, hd, hA2, fun v' ch ⟨h1, h2⟩ => ?_⟩
        subst h1 h2
        rw [hw]; exact hr
      | add =>
        obtain ⟨o, d, R, ho, hd, hA, hr⟩ := h
        exact ⟨o, d, R, ho, hd, hA, fun v ch hR => by rw [hw]; exact hr v ch hR⟩
      | chg =>
        obtain ⟨o, d, R, ho, hd, hA, hr⟩ := h
        exact ⟨o, d, R, ho, hd, hA, fun v ch hR => by rw [hw]; exact hr v ch hR⟩
      | sto =>
        obtain ⟨o, R, ho, hd, hA, hr⟩ := h
        exact ⟨o, R, ho, hd, hA, fun ch hR => by rw [hw]; exact hr ch hR⟩
      | free T zs =>
        intro o d ho hd v ch hR
        rw [hw]; exact h o d ho hd v ch hR
    · have hm' : (j, kd) ∈ π := by
        rcases List.mem_cons.1 hm with e | hm'
        · exact absurd e hij
        · exact hm'
      have hp := List.all_eq_true.1 hall _ hm'
      obtain ⟨hdd, hlk, hne⟩ := okPair_spec hp
      simp only at hdd hlk hne
      have hrdy' : ∀ i ∈ A.getD j [], i ∉ π.map (·.1) := fun x hx hx' => hrdy x hx (by simp only [List.map_cons, List.mem_cons]; exact .inr hx')
      have hiA : i ∉ A.getD j [] := fun hx => hrdy i hx (by simp)
      have hwo : without j ((i, ki) :: π) = (i, ki) :: without j π := by
        unfold without
        rw [List.filter_cons, if_pos (by simpa using hne)]
      have hrest : ∀ (d : Nat), dstOf ops j = some d → ∀ (v : Value) (oi : Oper), ops[i]? = some oi → restr ((d, v) :: σ) (oi.looksAt ops) = restr σ (oi.looksAt ops) :=
        fun d hd' v oi hoi => restr_congr fun t ht => look_cons_ne v (fun e => by subst e; exact hlk d hd' (by simpa [looksOf, hoi] using ht))
      cases ki with
      | det =>
        obtain ⟨oi, di, vi, hoi, hdi, hAi, hri⟩ := h
        have ih := dw_take htl π ((di, vi) :: σ) F hok' hm' hrdy' hri
        have hdi' : dstOf ops i = some di := by simp [dstOf, hoi, hdi]
        have fin : ∀ (d : Nat), dstOf ops j = some d → ∀ v ch, DW C ops B tl (without j π) ((d, v) :: (di, vi) :: σ) (ch ++ F) → DW C ops B tl ((i, .det) :: without j π) ((d, v) :: σ) (ch ++ F) := by
          intro d hd' v ch hr
          refine ⟨oi, di, vi, hoi, hdi, ?_, DW.congr htl _ _ _ _ _ (look_swap (fun e => hdd di d hdi' hd' e.symm) v vi) (List.Perm.refl _) hr⟩
          rw [hrest d hd' v oi hoi]
          exact hAi.frame ch
        cases kd with
        | free T zs =>
          intro o d ho hd v ch hR
          rw [hwo]
          exact fin d (by simp [dstOf, ho, hd]) v ch (ih o d ho hd v ch hR)
        | det =>
          obtain ⟨o, d, R, ho, hd, hA, hr⟩ := ih
          have hd' : dstOf ops j = some d := by simp [dstOf, ho, hd]
          have hnl : di ∉ o.looksAt ops := fun hx => hiA (okPair_det hp (fun _ _ e => by cases e) hdi' (by simpa [looksOf, ho] using hx))
          rw [restr_congr (σ' := σ) fun t ht => look_cons_ne vi (fun e => by subst e; exact hnl ht)] at hA
          exact ⟨o, d, R, ho, hd, hA, fun v ch hR => by rw [hwo]; exact fin d hd' v ch (hr v ch hR)⟩
        | detB =>
          obtain ⟨o, d, R, ho, hd, hA, hr⟩ := ih
          have hd' : dstOf ops j = some d := by simp [dstOf, ho, hd]
          have hnl : di ∉ o.looksAt ops := fun hx => hiA (okPair_det hp (fun _ _ e => by cases e) hdi' (by simpa [looksOf, ho] using hx))
          rw [restr_congr (σ' := σ) fun t ht => look_cons_ne vi (fun e => by subst e; exact hnl ht)] at hA
          exact ⟨o, d, R, ho, hd, hA, fun v ch hR => by rw [hwo]; exact fin d hd' v ch (hr v ch hR)⟩
        | add =>
          obtain ⟨o, d, R, ho, hd, hA, hr⟩ := ih
          have hd' : dstOf ops j = some d := by simp [dstOf, ho, hd]
          have hnl : di ∉ o.looksAt ops := fun hx => hiA (okPair_det hp (fun _ _ e => by cases e) hdi' (by simpa [looksOf, ho] using hx))
          rw [restr_congr (σ' := σ) fun t ht => look_cons_ne vi (fun e => by subst e; exact hnl ht)] at hA
          exact ⟨o, d, R, ho, hd, hA, fun v ch hR => by rw [hwo]; exact fin d hd' v ch (hr v ch hR)⟩
        | chg => exact absurd (okPair_detChg hp) hiA
        | sto => exact absurd (okPair_detSto hp) hiA
      | detB =>
        obtain ⟨oi, di, vi, hoi, hdi, hAi, hri⟩ := h
        have ih := dw_take htl π ((di, vi) :: σ) F hok' hm' hrdy' hri
        have hdi' : dstOf ops i = some di := by simp [dstOf, hoi, hdi]
        have fin : ∀ (d : Nat), dstOf ops j = some d → ∀ v F', DW C ops B tl (without j π) ((d, v) :: (di, vi) :: σ) F' → DW C ops B tl ((i, .detB) :: without j π) ((d, v) :: σ) F' := by
          intro d hd' v F' hr
          refine ⟨oi, di, vi, hoi, hdi, ?_, DW.congr htl _ _ _ _ _ (look_swap (fun e => hdd di d hdi' hd' e.symm) v vi) (List.Perm.refl _) hr⟩
          rw [hrest d hd' v oi hoi]
          exact hAi
        cases kd with
        | free T zs =>
          intro o d ho hd v ch hR
          rw [hwo]
          exact fin d (by simp [dstOf, ho, hd]) v (ch ++ F) (ih o d ho hd v ch hR)
        | det =>
          obtain ⟨o, d, R, ho, hd, hA, hr⟩ := ih
          have hd' : dstOf ops j = some d := by simp [dstOf, ho, hd]
          have hnl : di ∉ o.looksAt ops := fun hx => hiA (okPair_detB hp (fun _ _ e => by cases e) hdi' (by simpa [looksOf, ho] using hx))
          rw [restr_congr (σ' := σ) fun t ht => look_cons_ne vi (fun e => by subst e; exact hnl ht)] at hA
          exact ⟨o, d, R, ho, hd, hA, fun v ch hR => by rw [hwo]; exact fin d hd' v (ch ++ F) (hr v ch hR)⟩
        | detB =>
          obtain ⟨o, d, R, ho, hd, hA, hr⟩ := ih
          have hd' : dstOf ops j = some d := by simp [dstOf, ho, hd]
          have hnl : di ∉ o.looksAt ops := fun hx => hiA (okPair_detB hp (fun _ _ e => by cases e) hdi' (by simpa [looksOf, ho] using hx))
          rw [restr_congr (σ' := σ) fun t ht => look_cons_ne vi (fun e => by subst e; exact hnl ht)] at hA
          exact ⟨o, d, R, ho, hd, hA, fun v ch hR => by rw [hwo]; exact fin d hd' v (ch ++ F) (hr v ch hR)⟩
        | add =>
          obtain ⟨o, d, R, ho, hd, hA, hr⟩ := ih
          have hd' : dstOf ops j = some d := by simp [dstOf, ho, hd]
          have hnl : di ∉ o.looksAt ops := fun hx => hiA (okPair_detB hp (fun _ _ e => by cases e) hdi' (by simpa [looksOf, ho] using hx))
          rw [restr_congr (σ' := σ) fun t ht => look_cons_ne vi (fun e => by subst e; exact hnl ht)] at hA
          exact ⟨o, d, R, ho, hd, hA, fun v ch hR => by rw [hwo]; exact fin d hd' v (ch ++ F) (hr v ch hR)⟩
        | chg =>
          obtain ⟨o, d, R, ho, hd, hA, hr⟩ := ih
          have hd' : dstOf ops j = some d := by simp [dstOf, ho, hd]
          have hnl : di ∉ o.looksAt ops := fun hx => hiA (okPair_detB hp (fun _ _ e => by cases e) hdi' (by simpa [looksOf, ho] using hx))
          rw [restr_congr (σ' := σ) fun t ht => look_cons_ne vi (fun e => by subst e; exact hnl ht)] at hA
          exact ⟨o, d, R, ho, hd, hA, fun v ch hR => by rw [hwo]; exact fin d hd' v ch (hr v ch hR)⟩
        | sto =>
          obtain ⟨o, R, ho, hd, hA, hr⟩ := ih
          have hnl : di ∉ o.looksAt ops := fun hx => hiA (okPair_detB hp (fun _ _ e => by cases e) hdi' (by simpa [looksOf, ho] using hx))
          rw [restr_congr (σ' := σ) fun t ht => look_cons_ne vi (fun e => by subst e; exact hnl ht)] at hA
          refine ⟨o, R, ho, hd, hA, fun F' hR => ?_⟩
          rw [hwo]
          exact ⟨oi, di, vi, hoi, hdi, hAi, hr F' hR⟩
      | add =>
        cases kd with
        | free T zs =>
          obtain ⟨oi, di, Ri, hoi, hdi, hAi, hri⟩ := h
          have hdi' : dstOf ops i = some di := by simp [dstOf, hoi, hdi]
          intro o d ho hd v ch hR
          have hd' : dstOf ops j = some d := by simp [dstOf, ho, hd]
          rw [hwo]
          refine ⟨oi, di, Ri, hoi, hdi, ?_, fun vi chi hRi => ?_⟩
          · rw [hrest d hd' v oi hoi]
            exact hAi.frame ch
          · have := dw_take htl π ((di, vi) :: σ) (chi ++ F) hok' hm' hrdy' (hri vi chi hRi) o d ho hd v ch hR
            refine DW.congr htl _ _ _ _ _ (look_swap (fun e => hdd di d hdi' hd' e.symm) v vi) ?_ this
            rw [← List.append_assoc, ← List.append_assoc]
            exact List.perm_append_comm.append_right F
        | det => exact absurd (okPair_add hp fun _ _ e => by cases e) hiA
        | detB => exact absurd (okPair_add hp fun _ _ e => by cases e) hiA
        | add => exact absurd (okPair_add hp fun _ _ e => by cases e) hiA
        | chg => exact absurd (okPair_add hp fun _ _ e => by cases e) hiA
        | sto => exact absurd (okPair_add hp fun _ _ e => by cases e) hiA
      | chg =>
        cases kd with
        | free T zs =>
          obtain ⟨oi, di, Ri, hoi, hdi, hAi, hri⟩ := h
          have hdi' : dstOf ops i = some di := by simp [dstOf, hoi, hdi]
          intro o d ho hd v ch hR
          have hd' : dstOf ops j = some d := by simp [dstOf, ho, hd]
          rw [hwo]
          refine ⟨oi, di, (fun v F'' => ∃ F', Ri v F' ∧ F'' = ch ++ F'), hoi, hdi, ?_, fun vi F'' ⟨F', hRi, hF⟩ => ?_⟩
          · rw [hrest d hd' v oi hoi]
            exact hAi.frame ch
          · subst hF
            have := dw_take htl π ((di, vi) :: σ) F' hok' hm' hrdy' (hri vi F' hRi) o d ho hd v ch hR
            exact DW.congr htl _ _ _ _ _ (look_swap (fun e => hdd di d hdi' hd' e.symm) v vi) (List.Perm.refl _) this
        | det => exact absurd (okPair_chg hp fun _ _ e => by cases e) hiA
        | detB => exact absurd (okPair_chg hp fun _ _ e => by cases e) hiA
        | add => exact absurd (okPair_chg hp fun _ _ e => by cases e) hiA
        | chg => exact absurd (okPair_chg hp fun _ _ e => by cases e) hiA
        | sto => exact absurd (okPair_chg hp fun _ _ e => by cases e) hiA
      | sto =>
        cases kd with
        | free T zs =>
          obtain ⟨oi, Ri, hoi, hdi, hAi, hri⟩ := h
          intro o d ho hd v ch hR
          have hd' : dstOf ops j = some d := by simp [dstOf, ho, hd]
          rw [hwo]
          refine ⟨oi, (fun F'' => ∃ F', Ri F' ∧ F'' = ch ++ F'), hoi, hdi, ?_, fun F'' ⟨F', hRi, hF⟩ => ?_⟩
          · rw [hrest d hd' v oi hoi]
            exact hAi.frame ch
          · subst hF
            exact dw_take htl π σ F' hok' hm' hrdy' (hri F' hRi) o d ho hd v ch hR
        | det => exact absurd (okPair_sto hp fun _ _ e => by cases e) hiA
        | detB => exact absurd (okPair_sto hp fun _ _ e => by cases e) hiA
        | add => exact absurd (okPair_sto hp fun _ _ e => by cases e) hiA
        | chg => exact absurd (okPair_sto hp fun _ _ e => by cases e) hiA
        | sto => exact absurd (okPair_sto hp fun _ _ e => by cases e) hiA
      | free Ti zi =>
        obtain ⟨T, zs, rfl⟩ := okPair_free hp
        intro o d ho hd v ch hR
        have hd' : dstOf ops j = some d := by simp [dstOf, ho, hd]
        rw [hwo]
        intro oi di hoi hdi vi chi hRi
        have hdi' : dstOf ops i = some di := by simp [dstOf, hoi, hdi]
        have := dw_take htl π ((di, vi) :: σ) (chi ++ F) hok' hm' hrdy' (h oi di hoi hdi vi chi hRi) o d ho hd v ch hR
        refine DW.congr htl _ _ _ _ _ (look_swap (fun e => hdd di d hdi' hd' e.symm) v vi) ?_ this
        rw [← List.append_assoc, ← List.append_assoc]
        exact List.perm_append_comm.append_right F

/-! ### whatever order is drawn -/
def Closed (ops : Array Oper) (L : Array Bool) : Prop := ∀ j, L.getD j true = true → j < ops.size → ∀ p ∈ preds ops j, L.getD p true = true

theorem anc_listed {A : List (List Nat)} (hc : okCert ops A = true) {L : Array Bool} (hcl : Closed ops L) : ∀ (j : Nat), j < ops.size → (∀ p ∈ preds ops j, L.getD p true = true) → ∀ i ∈ A.getD j [], L.getD i true = true := by
  intro j
  induction j using Nat.strongRecOn with
  | _ j ih =>
    intro hj hp i hi
    have h := List.all_eq_true.1 hc j (List.mem_range.2 hj)
    simp only [Bool.and_eq_true, List.all_eq_true] at h
    obtain ⟨h1, h2⟩ := h
    have h3 := h2 i hi
    simp only [Bool.or_eq_true, List.contains_iff_mem, List.any_eq_true] at h3
    rcases h3 with h3 | ⟨p, hpp, h3⟩
    · exact hp i h3
    · have hpj : p < j := by simpa using h1 p hpp
      exact ih p hpj (by omega) (hcl p (hp p hpp) (by omega)) i h3

theorem ready_spec {j : Nat} {L : Array Bool} (h : j ∈ Region.ready .any ops L) : L.getD j true = false ∧ ∃ o, ops[j]? = some o ∧ ∀ p ∈ preds ops j, L.getD p false = true := by
  obtain ⟨h1, o, ho, h2⟩ := mem_ready.1 h
  refine ⟨h1, o, ho, fun p hp => ?_⟩
  simp only [preds, ho, List.mem_map, List.mem_filter] at hp
  obtain ⟨e, ⟨he, hb⟩, rfl⟩ := hp
  exact h2 e (by simpa using he) hb

theorem getD_true {L : Array Bool} {p : Nat} (h : L.getD p false = true) : L.getD p true = true := by
  simp only [Array.getD_eq_getD_getElem?] at h ⊢
  cases hp : L[p]? with
  | none => simp
  | some b => simpa [hp] using h
theorem getD_false {L : Array Bool} {p : Nat} (h : L.getD p true = true) (hp : p < L.size) : L.getD p false = true := by
  simp only [Array.getD_eq_getD_getElem?] at h ⊢
  rw [Array.getElem?_eq_getElem hp] at h ⊢
  exact h
theorem unlisted_lt {L : Array Bool} {p : Nat} (h : L.getD p true = false) : p < L.size := by
  rcases Nat.lt_or_ge p L.size with hlt | hge
  · exact hlt
  · simp [Array.getElem?_eq_none hge] at h

/-- If something has not come up yet, something may come up. -/
theorem ready_some {A : List (List Nat)} (hc : okCert ops A = true) {L : Array Bool} (hL : L.size = ops.size) {j : Nat} (hj : L.getD j true = false) : Region.ready .any ops L ≠ [] := by
  intro hn
  have key : ∀ j, L.getD j true = true := by
    intro j
    induction j using Nat.strongRecOn with
    | _ j ih =>
      cases hu : L.getD j true with
      | true => rfl
      | false =>
        have hlt : j < ops.size := hL ▸ unlisted_lt hu
        have h := List.all_eq_true.1 hc j (List.mem_range.2 hlt)
        simp only [Bool.and_eq_true, List.all_eq_true] at h
        have : j ∈ Region.ready .any ops L := by
          refine mem_ready.2 ⟨hu, ops[j], Array.getElem?_eq_getElem hlt, fun e he hb => ?_⟩
          have hp : e.on ∈ preds ops j := by
            simp only [preds, Array.getElem?_eq_getElem hlt, List.mem_map, List.mem_filter]
            exact ⟨e, ⟨by simpa using he, hb⟩, rfl⟩
          have hlt' : e.on < j := by simpa using h.1 _ hp
          exact getD_false (ih e.on hlt') (by omega)
        rw [hn] at this
        cases this
  rw [key j] at hj
  cases hj

theorem closed_set {L : Array Bool} (h : Closed ops L) {j : Nat} (hp : ∀ p ∈ preds ops j, L.getD p false = true) : Closed ops (L.setIfInBounds j true) := by
  have up : ∀ p, L.getD p true = true → (L.setIfInBounds j true).getD p true = true := by
    intro p hp
    simp only [Array.getD_eq_getD_getElem?, Array.getElem?_setIfInBounds] at hp ⊢
    split
    · split <;> rfl
    · exact hp
  intro i hi hlt p hpi
  by_cases hij : i = j
  · subst hij
    exact up p (getD_true (hp p hpi))
  · refine up p (h i ?_ hlt p hpi)
    simp only [Array.getD_eq_getD_getElem?, Array.getElem?_setIfInBounds] at hi ⊢
    rw [if_neg (fun e => hij e.symm)] at hi
    exact hi
theorem unlisted_set {L : Array Bool} {j i : Nat} (hj : j < L.size) : (L.setIfInBounds j true).getD i true = false ↔ L.getD i true = false ∧ i ≠ j := by
  simp only [Array.getD_eq_getD_getElem?, Array.getElem?_setIfInBounds]
  by_cases hij : j = i
  · subst hij; simp [hj]
  · simp [hij, Ne.symm hij]

theorem tail_sound {P : Program} {Kf : Act → World → Prop} {A : List (List Nat)} (hc : okCert ops A = true) : ∀ (τ : List Nat) (done : List Nat) (m : Nat) (L : Array Bool) (a : Act) (w : World), L.size = ops.size →
    (∀ j, L.getD j true = false ↔ j ∈ τ) → Closed ops L → okTail A done τ = true → τ.all (·.blt ops.size) = true → τ.length ≤ m →
    wpList P ops (QN Kf) (τ.filterMap (ops[·]?)) a w → wpAny P .any ops (QN Kf) m L a w
  | [], done, m, L, a, w, hL, hun, hcl, _, _, hm, h => by
    have hn : Region.ready .any ops L = [] := by
      rw [List.eq_nil_iff_forall_not_mem]
      intro j hj
      have := (hun j).1 (ready_spec hj).1
      cases this
    cases m with
    | zero => exact ⟨hn, h⟩
    | succ m => exact ⟨fun _ => h, fun j hj => by rw [hn] at hj; cases hj⟩
  | t :: τ, done, m, L, a, w, hL, hun, hcl, hok, hlt, hm, h => by
    cases m with
    | zero => simp at hm
    | succ m =>
      refine ⟨fun hn => absurd hn (ready_some hc hL ((hun t).2 (by simp))), fun j hj => ?_⟩
      obtain ⟨hju, o, ho, hp⟩ := ready_spec hj
      have hjn : j < ops.size := hL ▸ unlisted_lt hju
      have hA := anc_listed hc hcl j hjn (fun p hpp => getD_true (hp p hpp))
      simp only [okTail, Bool.and_eq_true] at hok
      have later : ∀ (τ' : List Nat) (dn : List Nat), okTail A dn τ' = true → t ∈ dn → j ∈ τ' → t ∈ A.getD j [] := by
        intro τ'
        induction τ' with
        | nil => intro _ _ _ h; cases h
        | cons x τ' ih =>
          intro dn hk htd hjx
          simp only [okTail, Bool.and_eq_true, List.all_eq_true] at hk
          rcases List.mem_cons.1 hjx with rfl | hjx
          · simpa using hk.1 t htd
          · exact ih (dn ++ [x]) hk.2 (by simp [htd]) hjx
      have hjt : j = t := by
        rcases List.mem_cons.1 ((hun j).1 hju) with e | hjτ
        · exact e
        · have h1 := hA t (later τ (done ++ [t]) hok.2 (by simp) hjτ)
          have h2 := (hun t).2 (by simp)
          rw [h1] at h2; cases h2
      subst hjt
      have hnd : j ∉ τ := fun hjτ => by
        have h1 := hA j (later τ (done ++ [j]) hok.2 (by simp) hjτ)
        rw [h1] at hju; cases hju
      rw [List.filterMap_cons_some ho] at h
      have h' : wpOp P ops (QN Kf) j (wpList P ops (QN Kf) (τ.filterMap (ops[·]?))) a w := by
        unfold wpOp
        simp only [ho]
        unfold wpList at h
        exact h
      refine wpOp_mono (fun a' w' hh => ?_) h'
      simp only [List.all_cons, Bool.and_eq_true] at hlt
      refine tail_sound hc τ (done ++ [j]) m (L.setIfInBounds j true) a' w' (by simpa using hL) (fun i => ?_) (closed_set hcl hp) hok.2 hlt.2 (by simpa using hm) hh
      rw [unlisted_set (by omega), hun i]
      simp only [List.mem_cons, ne_eq]
      exact ⟨fun ⟨h1, h2⟩ => h1.resolve_left h2, fun h1 => ⟨.inr h1, fun e => hnd (e ▸ h1)⟩⟩

theorem okPairs_without {A : List (List Nat)} {j : Nat} : ∀ {π : List (Nat × Kd)}, okPairs ops A π = true → okPairs ops A (without j π) = true
  | [], _ => rfl
  | i :: π, h => by
    simp only [okPairs, Bool.and_eq_true] at h
    unfold without
    rw [List.filter_cons]
    split
    · simp only [okPairs, Bool.and_eq_true]
      refine ⟨List.all_eq_true.2 fun p hp => List.all_eq_true.1 h.1 p (List.mem_filter.1 hp).1, okPairs_without h.2⟩
    · exact okPairs_without h.2

theorem dw_sound (htl : TlOk tl) {Kf : Act → World → Prop} {A : List (List Nat)} (hc : okCert ops A = true) {τ done : List Nat}
    (hend : ∀ σ F E a w, tl σ F → a.defers = [] → Fits C.n σ a.tmps → Sat C.w0 C.X w (B ++ (F ++ E)) → wpList C.P ops (QN Kf) (τ.filterMap (ops[·]?)) a w)
    (hok2 : okTail A done τ = true) (hτ : τ.all (·.blt ops.size) = true) (hfar : ∀ t ∈ τ, ∀ i ∈ done, i ∈ A.getD t []) :
    ∀ (m : Nat) (π : List (Nat × Kd)) (L : Array Bool) (σ : Env) (F E : List Ck) (a : Act) (w : World), L.size = ops.size →
    (∀ j, L.getD j true = false ↔ j ∈ π.map (·.1) ++ τ) → (∀ i ∈ π.map (·.1), i ∈ done) → Closed ops L → okPairs ops A π = true → FreeOk C ops π → (π.map (·.1) ++ τ).length ≤ m →
    DW C ops B tl π σ F → a.defers = [] → Fits C.n σ a.tmps → Sat C.w0 C.X w (B ++ (F ++ E)) → wpAny C.P .any ops (QN Kf) m L a w := by
  intro m
  induction m with
  | zero =>
    intro π L σ F E a w hL hun hdn hcl hok hfr hm h hd hf hs
    have hπ : π = [] := by cases π <;> simp at hm ⊢
    subst hπ
    exact tail_sound hc τ done 0 L a w hL (by simpa using hun) hcl hok2 hτ (by simpa using hm) (hend σ F E a w h hd hf hs)
  | succ m ih =>
    intro π L σ F E a w hL hun hdn hcl hok hfr hm h hd hf hs
    cases hπ : π with
    | nil =>
      subst hπ
      exact tail_sound hc τ done (m + 1) L a w hL (by simpa using hun) hcl hok2 hτ (by simpa using hm) (hend σ F E a w h hd hf hs)
    | cons i0 π0 =>
      have hi0 : i0.1 ∈ π.map (·.1) := by rw [hπ]; simp
      refine ⟨fun hn => absurd hn (ready_some hc hL ((hun i0.1).2 (List.mem_append_left _ hi0))), fun j hj => ?_⟩
      obtain ⟨hju, o', ho', hp⟩ := ready_spec hj
      have hjn : j < ops.size := hL ▸ unlisted_lt hju
      have hA := anc_listed hc hcl j hjn (fun p hpp => getD_true (hp p hpp))
      have hjπ : j ∈ π.map (·.1) := by
        rcases List.mem_append.1 ((hun j).1 hju) with h1 | h1
        · exact h1
        · have h2 := hA i0.1 (hfar j h1 i0.1 (hdn _ hi0))
          have h3 := (hun i0.1).2 (List.mem_append_left _ hi0)
          rw [h2] at h3; cases h3
      obtain ⟨⟨j', kd⟩, hjm, hje⟩ := List.mem_map.1 hjπ
      simp only at hje
      subst hje
      have hT := dw_take (A := A) htl π σ F hok hjm (fun i hi hiπ => by
        have h2 := hA i hi
        have h3 := (hun i).2 (List.mem_append_left _ hiπ)
        rw [h2] at h3; cases h3) h
      have hlt : (without j' π).length < π.length := by
        unfold without
        rw [List.length_filter_lt_length_iff_exists]
        exact ⟨(j', kd), hjm, by simp⟩
      have hmem : ∀ i, i ∈ (without j' π).map (·.1) ↔ i ∈ π.map (·.1) ∧ i ≠ j' := by
        intro i
        unfold without
        simp only [List.mem_map, List.mem_filter]
        constructor
        · rintro ⟨p, ⟨h1, h2⟩, rfl⟩
          exact ⟨⟨p, h1, rfl⟩, by simpa using h2⟩
        · rintro ⟨⟨p, h1, rfl⟩, h2⟩
          exact ⟨p, ⟨h1, by simpa using h2⟩, rfl⟩
      have hjτ : j' ∉ τ := fun h1 => by
        have h2 := hA j' (hfar j' h1 j' (hdn _ hjπ))
        rw [h2] at hju; cases hju
      have go : ∀ (o : Oper) (d : Nat) (R : Value → List Ck → Prop), ops[j']? = some o → (∀ v F', R v F' → DW C ops B tl (without j' π) ((d, v) :: σ) F') →
          wpList C.P ops (QN fun a w => a.defers = [] ∧ ∃ v F', R v F' ∧ Fits C.n ((d, v) :: σ) a.tmps ∧ Sat C.w0 C.X w (B ++ (F' ++ E))) [o] a w →
          wpOp C.P ops (QN Kf) j' (wpAny C.P .any ops (QN Kf) m (L.setIfInBounds j' true)) a w := by
        intro o d R ho hr hw
        refine wpOp_of_list ho hw fun a' w' ⟨hd', v, F', hR, hf', hs'⟩ => ?_
        refine ih (without j' π) (L.setIfInBounds j' true) ((d, v) :: σ) F' E a' w' (by simpa using hL) (fun i => ?_) (fun i hi => hdn i ((hmem i).1 hi).1) (closed_set hcl hp) (okPairs_without hok)
          (fun j T zs hm' => hfr j T zs (List.mem_filter.1 hm').1) (by simp only [List.length_append, List.length_map] at hm ⊢; omega) (hr v F' hR) hd' hf' hs'
        rw [unlisted_set (by omega), hun i, List.mem_append, List.mem_append, hmem i]
        exact ⟨fun ⟨h1, h2⟩ => h1.elim (fun h => .inl ⟨h, h2⟩) .inr, fun h1 => h1.elim (fun h => ⟨.inl h.1, h.2⟩) (fun h => ⟨.inr h, fun e => hjτ (e ▸ h)⟩)⟩
      have go0 : ∀ (o : Oper) (R : List Ck → Prop), ops[j']? = some o → (∀ F', R F' → DW C ops B tl (without j' π) σ F') →
          wpList C.P ops (QN fun a w => a.defers = [] ∧ ∃ F', R F' ∧ Fits C.n σ a.tmps ∧ Sat C.w0 C.X w (B ++ (F' ++ E))) [o] a w →
          wpOp C.P ops (QN Kf) j' (wpAny C.P .any ops (QN Kf) m (L.setIfInBounds j' true)) a w := by
        intro o R ho hr hw
        refine wpOp_of_list ho hw fun a' w' ⟨hd', F', hR, hf', hs'⟩ => ?_
        refine ih (without j' π) (L.setIfInBounds j' true) σ F' E a' w' (by simpa using hL) (fun i => ?_) (fun i hi => hdn i ((hmem i).1 hi).1) (closed_set hcl hp) (okPairs_without hok)
          (fun j T zs hm' => hfr j T zs (List.mem_filter.1 hm').1) (by simp only [List.length_append, List.length_map] at hm ⊢; omega) (hr F' hR) hd' hf' hs'
        rw [unlisted_set (by omega), hun i, List.mem_append, List.mem_append, hmem i]
        exact ⟨fun ⟨h1, h2⟩ => h1.elim (fun h => .inl ⟨h, h2⟩) .inr, fun h1 => h1.elim (fun h => ⟨.inl h.1, h.2⟩) (fun h => ⟨.inr h, fun e => hjτ (e ▸ h)⟩)⟩
      cases kd with
      | free T zs =>
        obtain ⟨o, d, ho, hdst, hAS⟩ := hfr _ _ _ hjm
        exact go o d (fun v F' => ∃ ch, NewVar T zs v ch ∧ F' = ch ++ F) ho (fun v F' ⟨ch, h1, h2⟩ => h2 ▸ hT o d ho hdst v ch h1) (wpList_mono_QN (fun a w ⟨h1, v, ch, h2, h3, h4⟩ => ⟨h1, v, ch ++ F, ⟨ch, h2, rfl⟩, h3, h4⟩) (hAS.run0 hd hf hs))
      | det =>
        obtain ⟨o, d, R, ho, hdst, hAS, hr⟩ := hT
        exact go o d (fun v F' => ∃ ch, R v ch ∧ F' = ch ++ F) ho (fun v F' ⟨ch, h1, h2⟩ => h2 ▸ hr v ch h1) (wpList_mono_QN (fun a w ⟨h1, v, ch, h2, h3, h4⟩ => ⟨h1, v, ch ++ F, ⟨ch, h2, rfl⟩, h3, h4⟩) (hAS.run hd hf hs))
      | detB =>
        obtain ⟨o, d, R, ho, hdst, hAS, hr⟩ := hT
        exact go o d (fun v F' => ∃ ch, R v ch ∧ F' = ch ++ F) ho (fun v F' ⟨ch, h1, h2⟩ => h2 ▸ hr v ch h1) (wpList_mono_QN (fun a w ⟨h1, v, ch, h2, h3, h4⟩ => ⟨h1, v, ch ++ F, ⟨ch, h2, rfl⟩, h3, h4⟩) (hAS.run hd hf hs))
      | add =>
        obtain ⟨o, d, R, ho, hdst, hAS, hr⟩ := hT
        exact go o d (fun v F' => ∃ ch, R v ch ∧ F' = ch ++ F) ho (fun v F' ⟨ch, h1, h2⟩ => h2 ▸ hr v ch h1) (wpList_mono_QN (fun a w ⟨h1, v, ch, h2, h3, h4⟩ => ⟨h1, v, ch ++ F, ⟨ch, h2, rfl⟩, h3, h4⟩) (hAS.run hd hf hs))
      | chg =>
        obtain ⟨o, d, R, ho, hdst, hXS, hr⟩ := hT
        exact go o d R ho hr (hXS.run hd hf hs)
      | sto =>
        obtain ⟨o, R, ho, hdst, hZS, hr⟩ := hT
        exact go0 o R ho hr (hZS.run hd hf hs)

theorem rw_env {k : List Item} {env env' : Env} {rest : List Oper} (hs : ∀ t, look env' t = look env t) (h : RW C ops rest (KG C k) env' B F) : RW C ops rest (KG C k) env B F := by
  intro V E a w hd hf hsat
  exact h V E a w hd ⟨hf.1, fun i v hi => hf.2 i v (by
    cases hl : look env' i with
    | none => rw [look_app_none hl] at hi; rw [look_app_none (by rw [← hs i]; exact hl)]; exact hi
    | some u => rw [look_append hl] at hi; rw [look_append (by rw [← hs i]; exact hl)]; exact hi)⟩ hsat

/-- A region that draws its order. -/
theorem gw_draw {id : Nat} {l : List Oper} {k : List Item} {env : Env} (π : List (Nat × Kd)) (τ : List Nat) (hmix : C.P.follows .mixedOrders = true) (hok : okDraw l.toArray π τ = true) (hfr : FreeOk C l.toArray π)
    (h : DW C l.toArray B (fun σ F => RW C l.toArray (τ.filterMap (l.toArray[·]?)) (KG C k) σ B F) π env F) : GW C (.code (.region id l.toArray true) :: k) env B F := by
  intro E a w hd hf hs
  simp only [okDraw, Bool.and_eq_true] at hok
  obtain ⟨⟨⟨⟨⟨hc, hp⟩, ht⟩, hcov⟩, hlt⟩, hlen⟩ := hok
  refine good_region (wp_region_any hmix ?_)
  have hlt' : ∀ j ∈ π.map (·.1) ++ τ, j < l.toArray.size := fun j hj => by simpa using List.all_eq_true.1 hlt j hj
  refine dw_sound (tl := fun σ F => RW C l.toArray (τ.filterMap (l.toArray[·]?)) (KG C k) σ B F) (fun σ σ' F F' hl hp' h' => rw_env hl (rw_perm (hp'.symm.append_left B) h')) hc (done := π.map (·.1))
    (fun σ F E a w h' hd' hf' hs' => h' [] E a w hd' (by simpa using hf') hs') ht ?_ ?_ _ π _ env F E a _ (by simp) (fun j => ?_) (fun i hi => hi) ?_ hp hfr ?_ h hd hf hs.drew
  · exact List.all_eq_true.2 fun j hj => List.all_eq_true.1 hlt j (List.mem_append_right _ hj)
  · have : ∀ (τ' dn : List Nat), okTail (ancs l.toArray) dn τ' = true → ∀ t ∈ τ', ∀ i ∈ dn, i ∈ (ancs l.toArray).getD t [] := by
      intro τ'
      induction τ' with
      | nil => intro _ _ t h; cases h
      | cons x τ' ih =>
        intro dn hk t htm i hi
        simp only [okTail, Bool.and_eq_true, List.all_eq_true] at hk
        rcases List.mem_cons.1 htm with rfl | htm
        · simpa using hk.1 i hi
        · exact ih (dn ++ [x]) hk.2 t htm i (by simp [hi])
    exact this τ (π.map (·.1)) ht
  · constructor
    · intro hj
      have := unlisted_lt hj
      simp only [Array.size_replicate] at this
      simpa using List.all_eq_true.1 hcov j (List.mem_range.2 this)
    · intro hj
      have := hlt' j hj
      simp only [Array.getD_eq_getD_getElem?, Array.getElem?_replicate, if_pos this]
      rfl
  · intro j hj hjn p _
    simp only [Array.getD_eq_getD_getElem?, Array.getElem?_replicate, if_pos hjn] at hj
    cases hj
  · simp only [beq_iff_eq] at hlen
    omega
end
end SL
end Go.Proofs.Ytbhnekiclbfmgaa
