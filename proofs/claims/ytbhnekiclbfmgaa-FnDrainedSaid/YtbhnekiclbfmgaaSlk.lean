/- A drawn region in which some operations that make blocks do not wait for each other: their orders are walked as a tree; what follows is walked once. -/
import Derived.Test.YtbhnekiclbfmgaaSlt
import Derived.Test.YtbhnekiclbfmgaaSlh
import Derived.Test.YtbhnekiclbfmgaaSlg
namespace Go.Proofs.Ytbhnekiclbfmgaa
namespace SL
open Go.RowKit
inductive Tr where
  | nil
  | det (j : Nat) (t : Tr)
  | detB (j : Nat) (t : Tr)
  | add (j : Nat) (t : Tr)
  | st (j : Nat) (t : Tr)
  | both (a b : Tr)
def Tr.names : Tr → List Nat
  | nil => []
  | det j t => j :: t.names
  | detB j t => j :: t.names
  | add j t => j :: t.names
  | st j t => j :: t.names
  | both a _ => a.names
def Tr.heads : Tr → List Nat
  | nil => []
  | det _ t => t.heads
  | detB _ t => t.heads
  | add j _ => [j]
  | st j _ => [j]
  | both a b => a.heads ++ b.heads
def Tr.dets : Tr → List Nat
  | det j t => j :: t.dets
  | detB j t => j :: t.dets
  | _ => []
def Tr.noDet : Tr → Bool
  | add _ _ => true
  | st _ _ => true
  | both a b => a.noDet && b.noDet
  | _ => false
def DZ (C : Cx) (ops : Array Oper) (B : List Ck) (tl : Env → List Ck → Prop) : Tr → Env → List Ck → Prop
  | .nil, σ, F => tl σ F
  | .det j t, σ, F => ∃ o d v, ops[j]? = some o ∧ o.dst = some d ∧ AStep C ops o d (restr σ (o.looksAt ops)) B F (fun v' ch => v' = v ∧ ch = []) ∧ DZ C ops B tl t ((d, v) :: σ) F
  | .detB j t, σ, F => ∃ o d v, ops[j]? = some o ∧ o.dst = some d ∧ AStep C ops o d (restr σ (o.looksAt ops)) B [] (fun v' ch => v' = v ∧ ch = []) ∧ DZ C ops B tl t ((d, v) :: σ) F
  | .st j t, σ, F => ∃ o R, ops[j]? = some o ∧ o.dst = none ∧ ZStep C ops o (restr σ (o.looksAt ops)) B F R ∧ ∀ F', R F' → DZ C ops B tl t σ F'
  | .add j t, σ, F => ∃ o d R, ops[j]? = some o ∧ o.dst = some d ∧ AStep C ops o d (restr σ (o.looksAt ops)) B F R ∧ ∀ v ch, R v ch → DZ C ops B tl t ((d, v) :: σ) (ch ++ F)
  | .both a b, σ, F => DZ C ops B tl a σ F ∧ DZ C ops B tl b σ F
def takeT (j : Nat) : Tr → Option Tr
  | .nil => none
  | .det i t => if i = j then some t else (takeT j t).map (.det i)
  | .detB i t => if i = j then some t else (takeT j t).map (.detB i)
  | .add i t => if i = j then some t else none
  | .st i t => if i = j then some t else none
  | .both a b => (takeT j a).orElse fun _ => takeT j b
def okD (ops : Array Oper) (A : List (List Nat)) (b : Bool) (i j : Nat) : Bool :=
  i != j && (match dstOf ops i, dstOf ops j with
    | some di, some dj => di != dj && !(looksOf ops i).contains dj && (!(looksOf ops j).contains di || (A.getD j []).contains i)
    | some di, none => (A.getD j []).contains i || b && !(looksOf ops j).contains di
    | _, _ => false)
def waitT (A : List (List Nat)) (T : Tr) : Bool := T.names.all fun x => T.dets.contains x || T.heads.contains x || T.heads.any fun h => (A.getD x []).contains h
def okT (ops : Array Oper) (A : List (List Nat)) : Tr → Bool
  | .nil => true
  | .det i t => t.names.all (okD ops A false i) && okT ops A t
  | .detB i t => t.names.all (okD ops A true i) && okT ops A t
  | .add i t => !t.names.contains i && waitT A t && okT ops A t
  | .st i t => !t.names.contains i && waitT A t && okT ops A t
  | .both a b => a.noDet && b.noDet && a.names.length == b.names.length && a.names.all (b.names.contains ·) && b.names.all (a.names.contains ·) && okT ops A a && okT ops A b
def okTree (ops : Array Oper) (T : Tr) (τ : List Nat) : Bool :=
  let A := ancs ops
  okCert ops A && okT ops A T && waitT A T && okTail A T.names τ &&
    (List.range ops.size).all (fun j => (T.names ++ τ).contains j) && (T.names ++ τ).all (·.blt ops.size) && (T.names ++ τ).length == ops.size
section
variable {C : Cx} {ops : Array Oper} {B F : List Ck} {σ : Env} {A : List (List Nat)} {tl : Env → List Ck → Prop}
theorem heads_names : ∀ {T : Tr}, okT ops A T = true → ∀ x ∈ T.heads, x ∈ T.names
  | .nil, _, _, h => by cases h
  | .det i t, ho, x, h => by
    simp only [okT, Bool.and_eq_true] at ho
    exact List.mem_cons_of_mem _ (heads_names ho.2 x h)
  | .detB i t, ho, x, h => by
    simp only [okT, Bool.and_eq_true] at ho
    exact List.mem_cons_of_mem _ (heads_names ho.2 x h)
  | .add i t, _, x, h => by rw [List.mem_singleton.1 (show x ∈ [i] from h)]; exact List.mem_cons_self
  | .st i t, _, x, h => by rw [List.mem_singleton.1 (show x ∈ [i] from h)]; exact List.mem_cons_self
  | .both a b, ho, x, h => by
    simp only [okT, Bool.and_eq_true, List.all_eq_true, List.contains_iff_mem] at ho
    rcases List.mem_append.1 (show x ∈ a.heads ++ b.heads from h) with h | h
    · exact heads_names ho.1.2 x h
    · exact ho.1.1.2 x (heads_names ho.2 x h)
theorem take_dets {j : Nat} : ∀ {T : Tr}, j ∈ T.dets → ∃ T', takeT j T = some T'
  | .nil, h => by cases h
  | .det i t, h => by
    unfold takeT
    by_cases e : i = j
    · exact ⟨_, if_pos e⟩
    · obtain ⟨t', ht⟩ := take_dets (T := t) ((List.mem_cons.1 h).resolve_left fun e' => e e'.symm)
      rw [if_neg e, ht]; exact ⟨_, rfl⟩
  | .detB i t, h => by
    unfold takeT
    by_cases e : i = j
    · exact ⟨_, if_pos e⟩
    · obtain ⟨t', ht⟩ := take_dets (T := t) ((List.mem_cons.1 h).resolve_left fun e' => e e'.symm)
      rw [if_neg e, ht]; exact ⟨_, rfl⟩
  | .add _ _, h => by cases h
  | .st _ _, h => by cases h
  | .both _ _, h => by cases h
theorem take_heads {j : Nat} : ∀ {T : Tr}, j ∈ T.heads → ∃ T', takeT j T = some T'
  | .nil, h => by cases h
  | .det i t, h => by
    unfold takeT
    by_cases e : i = j
    · exact ⟨_, if_pos e⟩
    · obtain ⟨t', ht⟩ := take_heads (T := t) h
      rw [if_neg e, ht]; exact ⟨_, rfl⟩
  | .detB i t, h => by
    unfold takeT
    by_cases e : i = j
    · exact ⟨_, if_pos e⟩
    · obtain ⟨t', ht⟩ := take_heads (T := t) h
      rw [if_neg e, ht]; exact ⟨_, rfl⟩
  | .add i t, h => by
    have e : j = i := List.mem_singleton.1 h
    exact ⟨t, by unfold takeT; rw [if_pos e.symm]⟩
  | .st i t, h => by
    have e : j = i := List.mem_singleton.1 h
    exact ⟨t, by unfold takeT; rw [if_pos e.symm]⟩
  | .both a b, h => by
    unfold takeT
    cases ha : takeT j a with
    | some a' => exact ⟨a', rfl⟩
    | none =>
      rcases List.mem_append.1 (show j ∈ a.heads ++ b.heads from h) with h | h
      · obtain ⟨a', h'⟩ := take_heads (T := a) h; rw [ha] at h'; cases h'
      · obtain ⟨b', h'⟩ := take_heads (T := b) h; rw [h']; exact ⟨b', rfl⟩
theorem take_both {j : Nat} {a b T' : Tr} (h : takeT j (.both a b) = some T') : takeT j a = some T' ∨ takeT j b = some T' := by
  unfold takeT at h
  cases ha : takeT j a with
  | some a' => rw [ha] at h; exact .inl h
  | none => rw [ha] at h; exact .inr h
theorem take_det {i j : Nat} {t T' : Tr} (h : takeT j (.det i t) = some T') : (i = j ∧ T' = t) ∨ (i ≠ j ∧ ∃ t', takeT j t = some t' ∧ T' = .det i t') := by
  unfold takeT at h
  by_cases e : i = j
  · rw [if_pos e] at h; injection h with h; exact .inl ⟨e, h.symm⟩
  · rw [if_neg e] at h
    cases ht : takeT j t with
    | none => rw [ht] at h; cases h
    | some t' => rw [ht] at h; injection h with h; exact .inr ⟨e, t', rfl, h.symm⟩
theorem take_detB {i j : Nat} {t T' : Tr} (h : takeT j (.detB i t) = some T') : (i = j ∧ T' = t) ∨ (i ≠ j ∧ ∃ t', takeT j t = some t' ∧ T' = .detB i t') := by
  unfold takeT at h
  by_cases e : i = j
  · rw [if_pos e] at h; injection h with h; exact .inl ⟨e, h.symm⟩
  · rw [if_neg e] at h
    cases ht : takeT j t with
    | none => rw [ht] at h; cases h
    | some t' => rw [ht] at h; injection h with h; exact .inr ⟨e, t', rfl, h.symm⟩
theorem take_add {i j : Nat} {t T' : Tr} (h : takeT j (.add i t) = some T') : i = j ∧ T' = t := by
  unfold takeT at h
  by_cases e : i = j
  · rw [if_pos e] at h; injection h with h; exact ⟨e, h.symm⟩
  · rw [if_neg e] at h; cases h
theorem take_st {i j : Nat} {t T' : Tr} (h : takeT j (.st i t) = some T') : i = j ∧ T' = t := by
  unfold takeT at h
  by_cases e : i = j
  · rw [if_pos e] at h; injection h with h; exact ⟨e, h.symm⟩
  · rw [if_neg e] at h; cases h
theorem okD_ne {b : Bool} {i j : Nat} (h : okD ops A b i j = true) : i ≠ j := by
  unfold okD at h
  simp only [Bool.and_eq_true, bne_iff_ne] at h
  exact h.1
theorem take_names {j : Nat} : ∀ {T T' : Tr}, takeT j T = some T' → okT ops A T = true → (∀ x, x ∈ T'.names ↔ x ∈ T.names ∧ x ≠ j) ∧ T'.names.length + 1 = T.names.length ∧ j ∈ T.names
  | .nil, _, h, _ => by cases h
  | .det i t, T', h, ho => by
    simp only [okT, Bool.and_eq_true, List.all_eq_true] at ho
    rcases take_det h with ⟨rfl, rfl⟩ | ⟨hne, t', ht, rfl⟩
    · refine ⟨fun x => ⟨fun hx => ⟨List.mem_cons_of_mem _ hx, fun e => okD_ne (ho.1 x hx) e.symm⟩, fun ⟨hx, hn⟩ => (List.mem_cons.1 hx).resolve_left hn⟩, rfl, List.mem_cons_self⟩
    · obtain ⟨h1, h2, h3⟩ := take_names ht ho.2
      refine ⟨fun x => ?_, by simp only [Tr.names, List.length_cons]; omega, List.mem_cons_of_mem _ h3⟩
      simp only [Tr.names, List.mem_cons, h1]
      constructor
      · rintro (rfl | ⟨h4, h5⟩)
        · exact ⟨.inl rfl, hne⟩
        · exact ⟨.inr h4, h5⟩
      · rintro ⟨rfl | h4, h5⟩
        · exact .inl rfl
        · exact .inr ⟨h4, h5⟩
  | .detB i t, T', h, ho => by
    simp only [okT, Bool.and_eq_true, List.all_eq_true] at ho
    rcases take_detB h with ⟨rfl, rfl⟩ | ⟨hne, t', ht, rfl⟩
    · refine ⟨fun x => ⟨fun hx => ⟨List.mem_cons_of_mem _ hx, fun e => okD_ne (ho.1 x hx) e.symm⟩, fun ⟨hx, hn⟩ => (List.mem_cons.1 hx).resolve_left hn⟩, rfl, List.mem_cons_self⟩
    · obtain ⟨h1, h2, h3⟩ := take_names ht ho.2
      refine ⟨fun x => ?_, by simp only [Tr.names, List.length_cons]; omega, List.mem_cons_of_mem _ h3⟩
      simp only [Tr.names, List.mem_cons, h1]
      constructor
      · rintro (rfl | ⟨h4, h5⟩)
        · exact ⟨.inl rfl, hne⟩
        · exact ⟨.inr h4, h5⟩
      · rintro ⟨rfl | h4, h5⟩
        · exact .inl rfl
        · exact .inr ⟨h4, h5⟩
  | .add i t, T', h, ho => by
    simp only [okT, Bool.and_eq_true, Bool.not_eq_true', List.contains_eq_mem, decide_eq_false_iff_not] at ho
    obtain ⟨rfl, rfl⟩ := take_add h
    exact ⟨fun x => ⟨fun hx => ⟨List.mem_cons_of_mem _ hx, fun e => ho.1.1 (e ▸ hx)⟩, fun ⟨hx, hn⟩ => (List.mem_cons.1 hx).resolve_left hn⟩, rfl, List.mem_cons_self⟩
  | .st i t, T', h, ho => by
    simp only [okT, Bool.and_eq_true, Bool.not_eq_true', List.contains_eq_mem, decide_eq_false_iff_not] at ho
    obtain ⟨rfl, rfl⟩ := take_st h
    exact ⟨fun x => ⟨fun hx => ⟨List.mem_cons_of_mem _ hx, fun e => ho.1.1 (e ▸ hx)⟩, fun ⟨hx, hn⟩ => (List.mem_cons.1 hx).resolve_left hn⟩, rfl, List.mem_cons_self⟩
  | .both a b, T', h, ho => by
    simp only [okT, Bool.and_eq_true, List.all_eq_true, List.contains_iff_mem, beq_iff_eq] at ho
    obtain ⟨⟨⟨⟨⟨_, hl⟩, hab⟩, hba⟩, hoa⟩, hob⟩ := ho
    rcases take_both h with h | h
    · exact take_names (T := a) h hoa
    · obtain ⟨h1, h2, h3⟩ := take_names h hob
      refine ⟨fun x => ?_, by show _ = a.names.length; omega, hba j h3⟩
      rw [h1]
      exact ⟨fun ⟨hx, hn⟩ => ⟨hba x hx, hn⟩, fun ⟨hx, hn⟩ => ⟨hab x hx, hn⟩⟩
theorem take_ok {j : Nat} : ∀ {T T' : Tr}, takeT j T = some T' → okT ops A T = true → okT ops A T' = true
  | .nil, _, h, _ => by cases h
  | .det i t, T', h, ho => by
    have ho' := ho
    simp only [okT, Bool.and_eq_true, List.all_eq_true] at ho
    rcases take_det h with ⟨_, rfl⟩ | ⟨_, t', ht, rfl⟩
    · exact ho.2
    · simp only [okT, Bool.and_eq_true, List.all_eq_true]
      exact ⟨fun x hx => ho.1 x (((take_names ht ho.2).1 x).1 hx).1, take_ok ht ho.2⟩
  | .detB i t, T', h, ho => by
    have ho' := ho
    simp only [okT, Bool.and_eq_true, List.all_eq_true] at ho
    rcases take_detB h with ⟨_, rfl⟩ | ⟨_, t', ht, rfl⟩
    · exact ho.2
    · simp only [okT, Bool.and_eq_true, List.all_eq_true]
      exact ⟨fun x hx => ho.1 x (((take_names ht ho.2).1 x).1 hx).1, take_ok ht ho.2⟩
  | .add i t, T', h, ho => by
    simp only [okT, Bool.and_eq_true] at ho
    obtain ⟨_, rfl⟩ := take_add h
    exact ho.2
  | .st i t, T', h, ho => by
    simp only [okT, Bool.and_eq_true] at ho
    obtain ⟨_, rfl⟩ := take_st h
    exact ho.2
  | .both a b, T', h, ho => by
    simp only [okT, Bool.and_eq_true] at ho
    rcases take_both h with h | h
    · exact take_ok h ho.1.2
    · exact take_ok h ho.2
def Wt (A : List (List Nat)) (T : Tr) : Prop := ∀ x ∈ T.names, x ∈ T.dets ∨ x ∈ T.heads ∨ ∃ h ∈ T.heads, h ∈ A.getD x []
theorem wt_of {T : Tr} (h : waitT A T = true) : Wt A T := by
  intro x hx
  have := List.all_eq_true.1 h x hx
  simp only [Bool.or_eq_true, List.contains_iff_mem, List.any_eq_true] at this
  rcases this with (h1 | h1) | ⟨y, h1, h2⟩
  · exact .inl h1
  · exact .inr (.inl h1)
  · exact .inr (.inr ⟨y, h1, h2⟩)
theorem take_wait0 {j : Nat} : ∀ {T T' : Tr}, takeT j T = some T' → okT ops A T = true → T.noDet = true → Wt A T'
  | .nil, _, h, _, _ => by cases h
  | .det _ _, _, _, _, h => by cases h
  | .detB _ _, _, _, _, h => by cases h
  | .add i t, T', h, ho, _ => by
    simp only [okT, Bool.and_eq_true] at ho
    obtain ⟨_, rfl⟩ := take_add h
    exact wt_of ho.1.2
  | .st i t, T', h, ho, _ => by
    simp only [okT, Bool.and_eq_true] at ho
    obtain ⟨_, rfl⟩ := take_st h
    exact wt_of ho.1.2
  | .both a b, T', h, ho, hn => by
    simp only [okT, Bool.and_eq_true] at ho
    simp only [Tr.noDet, Bool.and_eq_true] at hn
    rcases take_both h with h | h
    · exact take_wait0 h ho.1.2 hn.1
    · exact take_wait0 h ho.2 hn.2
theorem take_wait {j : Nat} : ∀ {T T' : Tr}, takeT j T = some T' → okT ops A T = true → Wt A T → Wt A T'
  | .nil, _, h, _, _ => by cases h
  | .det i t, T', h, ho, hw => by
    simp only [okT, Bool.and_eq_true, List.all_eq_true] at ho
    have hwt : Wt A t := fun x hx => by
      rcases hw x (List.mem_cons_of_mem _ hx) with h1 | h1
      · rcases List.mem_cons.1 (show x ∈ i :: t.dets from h1) with e | h1
        · exact absurd e.symm (okD_ne (ho.1 x hx))
        · exact .inl h1
      · exact .inr h1
    rcases take_det h with ⟨_, rfl⟩ | ⟨_, t', ht, rfl⟩
    · exact hwt
    · intro x hx
      rcases List.mem_cons.1 (show x ∈ i :: t'.names from hx) with rfl | hx
      · exact .inl List.mem_cons_self
      · rcases take_wait ht ho.2 hwt x hx with h1 | h1
        · exact .inl (List.mem_cons_of_mem _ h1)
        · exact .inr h1
  | .detB i t, T', h, ho, hw => by
    simp only [okT, Bool.and_eq_true, List.all_eq_true] at ho
    have hwt : Wt A t := fun x hx => by
      rcases hw x (List.mem_cons_of_mem _ hx) with h1 | h1
      · rcases List.mem_cons.1 (show x ∈ i :: t.dets from h1) with e | h1
        · exact absurd e.symm (okD_ne (ho.1 x hx))
        · exact .inl h1
      · exact .inr h1
    rcases take_detB h with ⟨_, rfl⟩ | ⟨_, t', ht, rfl⟩
    · exact hwt
    · intro x hx
      rcases List.mem_cons.1 (show x ∈ i :: t'.names from hx) with rfl | hx
      · exact .inl List.mem_cons_self
      · rcases take_wait ht ho.2 hwt x hx with h1 | h1
        · exact .inl (List.mem_cons_of_mem _ h1)
        · exact .inr h1
  | .add i t, T', h, ho, _ => take_wait0 h ho rfl
  | .st i t, T', h, ho, _ => take_wait0 h ho rfl
  | .both a b, T', h, ho, _ => take_wait0 h ho (by
    simp only [okT, Bool.and_eq_true] at ho
    simp only [Tr.noDet, Bool.and_eq_true]
    exact ⟨ho.1.1.1.1.1.1, ho.1.1.1.1.1.2⟩)
theorem DZ.congr (htl : TlOk tl) : ∀ (T : Tr) (σ σ' : Env) (F F' : List Ck), (∀ t, look σ t = look σ' t) → F.Perm F' → DZ C ops B tl T σ F → DZ C ops B tl T σ' F'
  | .nil, σ, σ', F, F', hl, hp, h => htl σ σ' F F' hl hp h
  | .det j t, σ, σ', F, F', hl, hp, h => by
    obtain ⟨o, d, v, ho, hd, hA, hr⟩ := h
    refine ⟨o, d, v, ho, hd, ?_, DZ.congr htl t _ _ F F' (look_cons_congr hl d v) hp hr⟩
    rw [← restr_congr (L := o.looksAt ops) fun t _ => hl t]
    exact hA.perm hp
  | .detB j t, σ, σ', F, F', hl, hp, h => by
    obtain ⟨o, d, v, ho, hd, hA, hr⟩ := h
    refine ⟨o, d, v, ho, hd, ?_, DZ.congr htl t _ _ F F' (look_cons_congr hl d v) hp hr⟩
    rw [← restr_congr (L := o.looksAt ops) fun t _ => hl t]
    exact hA
  | .st j t, σ, σ', F, F', hl, hp, h => by
    obtain ⟨o, R, ho, hd, hA, hr⟩ := h
    refine ⟨o, R, ho, hd, ?_, fun G hR => DZ.congr htl t _ _ _ _ hl (List.Perm.refl _) (hr G hR)⟩
    rw [← restr_congr (L := o.looksAt ops) fun t _ => hl t]
    exact hA.perm hp
  | .add j t, σ, σ', F, F', hl, hp, h => by
    obtain ⟨o, d, R, ho, hd, hA, hr⟩ := h
    refine ⟨o, d, R, ho, hd, ?_, fun v ch hR => DZ.congr htl t _ _ _ _ (look_cons_congr hl d v) (hp.append_left ch) (hr v ch hR)⟩
    rw [← restr_congr (L := o.looksAt ops) fun t _ => hl t]
    exact hA.perm hp
  | .both a b, σ, σ', F, F', hl, hp, h => ⟨DZ.congr htl a _ _ _ _ hl hp h.1, DZ.congr htl b _ _ _ _ hl hp h.2⟩
/-- What taking one operation comes to. -/
def Took (C : Cx) (ops : Array Oper) (B : List Ck) (tl : Env → List Ck → Prop) (T' : Tr) (σ : Env) (F : List Ck) (o : Oper) : Prop :=
  (∃ d R, o.dst = some d ∧ AStep C ops o d (restr σ (o.looksAt ops)) B F R ∧ ∀ v ch, R v ch → DZ C ops B tl T' ((d, v) :: σ) (ch ++ F)) ∨
  (∃ R, o.dst = none ∧ ZStep C ops o (restr σ (o.looksAt ops)) B F R ∧ ∀ F', R F' → DZ C ops B tl T' σ F')
theorem okD_looks {b : Bool} {i j di : Nat} (h : okD ops A b i j = true) (hi : dstOf ops i = some di) (hr : i ∉ A.getD j []) :
    (∀ d, dstOf ops j = some d → di ≠ d ∧ d ∉ looksOf ops i ∧ di ∉ looksOf ops j) ∧ (dstOf ops j = none → b = true ∧ di ∉ looksOf ops j) := by
  unfold okD at h
  cases hj : dstOf ops j with
  | none =>
    simp only [hi, hj, Bool.and_eq_true, Bool.not_eq_true', Bool.or_eq_true, List.contains_eq_mem, decide_eq_false_iff_not, decide_eq_true_eq] at h
    exact ⟨fun d hd => (by cases hd), fun _ => h.2.resolve_left hr⟩
  | some dj =>
    simp only [hi, hj, Bool.and_eq_true, bne_iff_ne, Bool.not_eq_true', Bool.or_eq_true, List.contains_eq_mem, decide_eq_false_iff_not, decide_eq_true_eq] at h
    refine ⟨fun d hd => ?_, fun hd => (by cases hd)⟩
    cases hd
    exact ⟨h.2.1.1, h.2.1.2, h.2.2.resolve_right hr⟩
theorem dz_take (htl : TlOk tl) {j : Nat} : ∀ {T T' : Tr} {σ : Env} {F : List Ck}, takeT j T = some T' → okT ops A T = true → (∀ i ∈ A.getD j [], i ∉ T.names) → DZ C ops B tl T σ F →
    ∃ o, ops[j]? = some o ∧ Took C ops B tl T' σ F o
  | .nil, _, _, _, h, _, _, _ => by cases h
  | .det i t, T', σ, F, h, ho, hr, hD => by
    have ho' := ho
    simp only [okT, Bool.and_eq_true, List.all_eq_true] at ho
    obtain ⟨oi, di, vi, hoi, hdi, hAi, hri⟩ := hD
    rcases take_det h with ⟨rfl, rfl⟩ | ⟨hne, t', ht, rfl⟩
    · refine ⟨oi, hoi, .inl ⟨di, _, hdi, hAi, fun v ch ⟨h1, h2⟩ => ?_⟩⟩
      subst h1 h2; exact hri
    · obtain ⟨o, hoj, hT⟩ := dz_take htl ht ho.2 (fun x hx hm => hr x hx (List.mem_cons_of_mem _ hm)) hri
      have hk := okD_looks (ho.1 j (take_names ht ho.2).2.2) (by simp [dstOf, hoi, hdi] : dstOf ops i = some di) (fun hm => hr i hm List.mem_cons_self)
      rcases hT with ⟨d, R, hdj, hA, hc⟩ | ⟨R, hdj, _⟩
      · obtain ⟨hdd, hl1, hl2⟩ := hk.1 d (by simp [dstOf, hoj, hdj])
        rw [restr_congr (σ' := σ) fun t ht => look_cons_ne vi (fun e => by subst e; exact hl2 (by simpa [looksOf, hoj] using ht))] at hA
        refine ⟨o, hoj, .inl ⟨d, R, hdj, hA, fun v ch hR => ⟨oi, di, vi, hoi, hdi, ?_, DZ.congr htl _ _ _ _ _ (look_swap (fun e => hdd e.symm) v vi) (List.Perm.refl _) (hc v ch hR)⟩⟩⟩
        rw [restr_congr (σ' := σ) fun t ht => look_cons_ne v (fun e => by subst e; exact hl1 (by simpa [looksOf, hoi] using ht))]
        exact hAi.frame ch
      · have := (hk.2 (by simp [dstOf, hoj, hdj])).1
        cases this
  | .detB i t, T', σ, F, h, ho, hr, hD => by
    have ho' := ho
    simp only [okT, Bool.and_eq_true, List.all_eq_true] at ho
    obtain ⟨oi, di, vi, hoi, hdi, hAi, hri⟩ := hD
    rcases take_detB h with ⟨rfl, rfl⟩ | ⟨hne, t', ht, rfl⟩
    · refine ⟨oi, hoi, .inl ⟨di, (fun v' ch => v' = vi ∧ ch = []), hdi, by simpa using hAi.frame F, fun v ch ⟨h1, h2⟩ => ?_⟩⟩
      subst h1 h2; exact hri
    · obtain ⟨o, hoj, hT⟩ := dz_take htl ht ho.2 (fun x hx hm => hr x hx (List.mem_cons_of_mem _ hm)) hri
      have hk := okD_looks (ho.1 j (take_names ht ho.2).2.2) (by simp [dstOf, hoi, hdi] : dstOf ops i = some di) (fun hm => hr i hm List.mem_cons_self)
      rcases hT with ⟨d, R, hdj, hA, hc⟩ | ⟨R, hdj, hA, hc⟩
      · obtain ⟨hdd, hl1, hl2⟩ := hk.1 d (by simp [dstOf, hoj, hdj])
        rw [restr_congr (σ' := σ) fun t ht => look_cons_ne vi (fun e => by subst e; exact hl2 (by simpa [looksOf, hoj] using ht))] at hA
        refine ⟨o, hoj, .inl ⟨d, R, hdj, hA, fun v ch hR => ⟨oi, di, vi, hoi, hdi, ?_, DZ.congr htl _ _ _ _ _ (look_swap (fun e => hdd e.symm) v vi) (List.Perm.refl _) (hc v ch hR)⟩⟩⟩
        rw [restr_congr (σ' := σ) fun t ht => look_cons_ne v (fun e => by subst e; exact hl1 (by simpa [looksOf, hoi] using ht))]
        exact hAi
      · obtain ⟨_, hl2⟩ := hk.2 (by simp [dstOf, hoj, hdj])
        rw [restr_congr (σ' := σ) fun t ht => look_cons_ne vi (fun e => by subst e; exact hl2 (by simpa [looksOf, hoj] using ht))] at hA
        exact ⟨o, hoj, .inr ⟨R, hdj, hA, fun F' hR => ⟨oi, di, vi, hoi, hdi, hAi, hc F' hR⟩⟩⟩
  | .add i t, T', σ, F, h, ho, _, hD => by
    obtain ⟨rfl, rfl⟩ := take_add h
    obtain ⟨o, d, R, h1, h2, h3, h4⟩ := hD
    exact ⟨o, h1, .inl ⟨d, R, h2, h3, h4⟩⟩
  | .st i t, T', σ, F, h, ho, _, hD => by
    obtain ⟨rfl, rfl⟩ := take_st h
    obtain ⟨o, R, h1, h2, h3, h4⟩ := hD
    exact ⟨o, h1, .inr ⟨R, h2, h3, h4⟩⟩
  | .both a b, T', σ, F, h, ho, hr, hD => by
    have ho' := ho
    simp only [okT, Bool.and_eq_true, List.all_eq_true, List.contains_iff_mem] at ho
    rcases take_both h with h | h
    · exact dz_take htl h ho.1.2 hr hD.1
    · exact dz_take htl h ho.2 (fun x hx hm => hr x hx (ho.1.1.2 x hm)) hD.2
theorem dz_sound (htl : TlOk tl) {Kf : Act → World → Prop} (hc : okCert ops A = true) {τ done : List Nat}
    (hend : ∀ σ F E a w, tl σ F → a.defers = [] → Fits C.n σ a.tmps → Sat C.w0 C.X w (B ++ (F ++ E)) → wpList C.P ops (QN Kf) (τ.filterMap (ops[·]?)) a w)
    (hok2 : okTail A done τ = true) (hτ : τ.all (·.blt ops.size) = true) (hfar : ∀ t ∈ τ, ∀ i ∈ done, i ∈ A.getD t []) :
    ∀ (m : Nat) (T : Tr) (L : Array Bool) (σ : Env) (F E : List Ck) (a : Act) (w : World), L.size = ops.size →
    (∀ j, L.getD j true = false ↔ j ∈ T.names ++ τ) → (∀ i ∈ T.names, i ∈ done) → Closed ops L → okT ops A T = true → Wt A T → (T.names ++ τ).length ≤ m →
    DZ C ops B tl T σ F → a.defers = [] → Fits C.n σ a.tmps → Sat C.w0 C.X w (B ++ (F ++ E)) → wpAny C.P .any ops (QN Kf) m L a w := by
  have nilT : ∀ {T : Tr}, okT ops A T = true → T.names = [] → T = .nil := by
    intro T
    induction T with
    | nil => intro _ _; rfl
    | det _ _ => intro _ h; cases h
    | detB _ _ => intro _ h; cases h
    | add _ _ => intro _ h; cases h
    | st _ _ => intro _ h; cases h
    | both a b iha ihb =>
      intro ho h
      simp only [okT, Bool.and_eq_true] at ho
      rw [iha ho.1.2 h] at ho
      exact absurd ho.1.1.1.1.1.1 (by simp [Tr.noDet])
  intro m
  induction m with
  | zero =>
    intro T L σ F E a w hL hun hdn hcl hok hw hm h hd hf hs
    have hT : T.names = [] := by
      cases hn : T.names with
      | nil => rfl
      | cons x l => rw [hn] at hm; simp at hm
    have := nilT hok hT
    subst this
    exact tail_sound hc τ done 0 L a w hL (by simpa [Tr.names] using hun) hcl hok2 hτ (by simpa [Tr.names] using hm) (hend σ F E a w h hd hf hs)
  | succ m ih =>
    intro T L σ F E a w hL hun hdn hcl hok hw hm h hd hf hs
    cases hn : T.names with
    | nil =>
      have := nilT hok hn
      subst this
      exact tail_sound hc τ done (m + 1) L a w hL (by simpa [Tr.names] using hun) hcl hok2 hτ (by simpa [Tr.names] using hm) (hend σ F E a w h hd hf hs)
    | cons i0 π0 =>
      have hi0 : i0 ∈ T.names := by rw [hn]; simp
      refine ⟨fun hn => absurd hn (ready_some hc hL ((hun i0).2 (List.mem_append_left _ hi0))), fun j hj => ?_⟩
      obtain ⟨hju, o', ho', hp⟩ := ready_spec hj
      have hjn : j < ops.size := hL ▸ unlisted_lt hju
      have hA := anc_listed hc hcl j hjn (fun p hpp => getD_true (hp p hpp))
      have hjT : j ∈ T.names := by
        rcases List.mem_append.1 ((hun j).1 hju) with h1 | h1
        · exact h1
        · have h2 := hA i0 (hfar j h1 i0 (hdn _ hi0))
          have h3 := (hun i0).2 (List.mem_append_left _ hi0)
          rw [h2] at h3; cases h3
      have hrdy : ∀ i ∈ A.getD j [], i ∉ T.names := fun i hi hiT => by
        have h2 := hA i hi
        have h3 := (hun i).2 (List.mem_append_left _ hiT)
        rw [h2] at h3; cases h3
      obtain ⟨T', hT'⟩ : ∃ T', takeT j T = some T' := by
        rcases hw j hjT with h1 | h1 | ⟨y, h1, h2⟩
        · exact take_dets h1
        · exact take_heads h1
        · exact absurd (heads_names hok y h1) (hrdy y h2)
      obtain ⟨hmem, hlen, _⟩ := take_names hT' hok
      obtain ⟨o, ho, hTk⟩ := dz_take htl hT' hok hrdy h
      have hjτ : j ∉ τ := fun h1 => by
        have h2 := hA j (hfar j h1 j (hdn _ hjT))
        rw [h2] at hju; cases hju
      have hun' : ∀ i, (L.setIfInBounds j true).getD i true = false ↔ i ∈ T'.names ++ τ := fun i => by
        rw [unlisted_set (by omega), hun i, List.mem_append, List.mem_append, hmem i]
        exact ⟨fun ⟨h1, h2⟩ => h1.elim (fun h => .inl ⟨h, h2⟩) .inr, fun h1 => h1.elim (fun h => ⟨.inl h.1, h.2⟩) (fun h => ⟨.inr h, fun e => hjτ (e ▸ h)⟩)⟩
      rcases hTk with ⟨d, R, hdst, hAS, hr⟩ | ⟨R, hdst, hZS, hr⟩
      · refine wpOp_of_list ho (hAS.run hd hf hs) fun a' w' ⟨hd', v, ch, hR, hf', hs'⟩ => ?_
        exact ih T' (L.setIfInBounds j true) ((d, v) :: σ) (ch ++ F) E a' w' (by simpa using hL) hun' (fun i hi => hdn i ((hmem i).1 hi).1) (closed_set hcl hp) (take_ok hT' hok)
          (take_wait hT' hok hw) (by simp only [List.length_append] at hm ⊢; omega) (hr v ch hR) hd' hf' hs'
      · refine wpOp_of_list ho (hZS.run hd hf hs) fun a' w' ⟨hd', F', hR, hf', hs'⟩ => ?_
        exact ih T' (L.setIfInBounds j true) σ F' E a' w' (by simpa using hL) hun' (fun i hi => hdn i ((hmem i).1 hi).1) (closed_set hcl hp) (take_ok hT' hok)
          (take_wait hT' hok hw) (by simp only [List.length_append] at hm ⊢; omega) (hr F' hR) hd' hf' hs'
/-- A region that draws its order, walked as a tree. -/
theorem gw_drawT {id : Nat} {l : List Oper} {k : List Item} {env : Env} (T : Tr) (τ : List Nat) (hmix : C.P.follows .mixedOrders = true) (hok : okTree l.toArray T τ = true)
    (h : DZ C l.toArray B (fun σ F => RW C l.toArray (τ.filterMap (l.toArray[·]?)) (KG C k) σ B F) T env F) : GW C (.code (.region id l.toArray true) :: k) env B F := by
  intro E a w hd hf hs
  simp only [okTree, Bool.and_eq_true] at hok
  obtain ⟨⟨⟨⟨⟨⟨hc, hp⟩, hw⟩, ht⟩, hcov⟩, hlt⟩, hlen⟩ := hok
  refine good_region (wp_region_any hmix ?_)
  have hlt' : ∀ j ∈ T.names ++ τ, j < l.toArray.size := fun j hj => by simpa using List.all_eq_true.1 hlt j hj
  refine dz_sound (tl := fun σ F => RW C l.toArray (τ.filterMap (l.toArray[·]?)) (KG C k) σ B F) (fun σ σ' F F' hl hp' h' => rw_env hl (rw_perm (hp'.symm.append_left B) h')) hc (done := T.names)
    (fun σ F E a w h' hd' hf' hs' => h' [] E a w hd' (by simpa using hf') hs') ht ?_ ?_ _ T _ env F E a _ (by simp) (fun j => ?_) (fun i hi => hi) ?_ hp (wt_of hw) ?_ h hd hf hs.drew
  · exact List.all_eq_true.2 fun j hj => List.all_eq_true.1 hlt j (List.mem_append_right _ hj)
  · have : ∀ (τ' dn : List Nat), okTail (ancs l.toArray) dn τ' = true → ∀ t ∈ τ', ∀ i ∈ dn, i ∈ (ancs l.toArray).getD t [] := by
      intro τ'
      induction τ' with
      | nil => intro _ _ t h; cases h
      | cons x τ' ih =>
        intro dn hk t htm i hi
        simp only [okTail, Bool.and_eq_true, List.all_eq_true] at hk
        rcases List.mem_cons.1 htm with rfl | htm
        · simpa using hk.1 i hi
        · exact ih (dn ++ [x]) hk.2 t htm i (by simp [hi])
    exact this τ T.names ht
  · constructor
    · intro hj
      have := unlisted_lt hj
      simp only [Array.size_replicate] at this
      simpa using List.all_eq_true.1 hcov j (List.mem_range.2 this)
    · intro hj
      have := hlt' j hj
      simp only [Array.getD_eq_getD_getElem?, Array.getElem?_replicate, if_pos this]
      rfl
  · intro j hj hjn p _
    simp only [Array.getD_eq_getD_getElem?, Array.getElem?_replicate, if_pos hjn] at hj
    cases hj
  · simp only [beq_iff_eq] at hlen
    omega
theorem gw_drawT' {id : Nat} {l ts : List Oper} {k : List Item} {env : Env} (T : Tr) (τ : List Nat) (hmix : C.P.follows .mixedOrders = true) (hok : okTree l.toArray T τ = true) (hts : τ.filterMap (l.toArray[·]?) = ts)
    (h : DZ C l.toArray B (fun σ F => RW C l.toArray ts (KG C k) σ B F) T env F) : GW C (.code (.region id l.toArray true) :: k) env B F := by subst hts; exact gw_drawT T τ hmix hok h
theorem rw_perm' {rest : List Oper} {K : Env → List Ck → Act → World → Prop} {env : Env} {F' : List Ck} (hp : F.Perm F') (h : RW C ops rest K env B F') : RW C ops rest K env B F := rw_perm (hp.append_left B) h
end
section
variable {C : Cx} {ops : Array Oper} {B F : List Ck} {σ : Env} {tl : Env → List Ck → Prop} {T : Tr} {j d : Nat} {o : Oper} {k : List Item} {env : Env}
theorem dz_det {v : Value} (ho : ops[j]? = some o) (hd : o.dst = some d) (ha : ∀ K, RW C ops [] K ((d, v) :: restr σ (o.looksAt ops)) B F → RW C ops [o] K (restr σ (o.looksAt ops)) B F)
    (h : DZ C ops B tl T ((d, v) :: σ) F) : DZ C ops B tl (.det j T) σ F :=
  ⟨o, d, v, ho, hd, fun K hK => ha K (rw_nil fun V E a w hdf hf hs => hK v [] ⟨rfl, rfl⟩ V E a w hdf hf hs), h⟩
theorem dz_add {R : Value → List Ck → Prop} (ho : ops[j]? = some o) (hd : o.dst = some d) (ha : ∀ K, (∀ v ch, R v ch → RW C ops [] K ((d, v) :: restr σ (o.looksAt ops)) B (ch ++ F)) → RW C ops [o] K (restr σ (o.looksAt ops)) B F)
    (h : ∀ v ch, R v ch → DZ C ops B tl T ((d, v) :: σ) (ch ++ F)) : DZ C ops B tl (.add j T) σ F :=
  ⟨o, d, R, ho, hd, fun K hK => ha K fun v ch hR => rw_nil fun V E a w hdf hf hs => hK v ch hR V E a w hdf hf hs, h⟩
theorem dz_detB {v : Value} (ho : ops[j]? = some o) (hd : o.dst = some d) (ha : ∀ K, RW C ops [] K ((d, v) :: restr σ (o.looksAt ops)) B [] → RW C ops [o] K (restr σ (o.looksAt ops)) B [])
    (h : DZ C ops B tl T ((d, v) :: σ) F) : DZ C ops B tl (.detB j T) σ F :=
  ⟨o, d, v, ho, hd, fun K hK => ha K (rw_nil fun V E a w hdf hf hs => hK v [] ⟨rfl, rfl⟩ V E a w hdf hf hs), h⟩
theorem dz_sto {F' : List Ck} (ho : ops[j]? = some o) (hd : o.dst = none) (ha : ∀ K, RW C ops [] K (restr σ (o.looksAt ops)) B F' → RW C ops [o] K (restr σ (o.looksAt ops)) B F)
    (h : DZ C ops B tl T σ F') : DZ C ops B tl (.st j T) σ F :=
  ⟨o, (fun G => G = F'), ho, hd, fun K hK => ha K (rw_nil fun V E a w hdf hf hs => hK F' rfl V E a w hdf hf hs), fun G h1 => by subst h1; exact h⟩
theorem dz_new {T0 : Nat} {zs : List Value} {ty : TypeId} {pos : String} {af : Array Edge} (ho : ops[j]? = some ⟨some d, .alloc T0, ty, pos, af, none⟩) (hd : Nat.blt d C.n = true) (hT : TyZ C.P T0 zs)
    (h : ∀ b, DZ C ops B tl T ((d, .pointer (some ⟨b, 0, none⟩)) :: σ) ([⟨b, T0, zs⟩] ++ F)) : DZ C ops B tl (.add j T) σ F :=
  ⟨_, d, NewVar T0 zs, ho, rfl, fun K hK => rw_alloc hd hT fun b => rw_nil fun V E a w hdf hf hs => hK _ [⟨b, T0, zs⟩] ⟨b, rfl, rfl⟩ V E a w hdf hf (hs.perm (List.perm_middle (l₁ := B) (l₂ := F ++ E)).symm),
    fun v ch ⟨b, h1, h2⟩ => by subst h1 h2; exact h b⟩
theorem dz_P {ts : List Oper} {F' : List Ck} (hp : F.Perm F') (h : DZ C ops B (fun σ F => RW C ops ts (KG C k) σ B F) T σ F') : DZ C ops B (fun σ F => RW C ops ts (KG C k) σ B F) T σ F :=
  DZ.congr (fun _ _ _ _ hl hp' h' => rw_env hl (rw_perm (hp'.symm.append_left B) h')) _ _ _ _ _ (fun _ => rfl) hp.symm h
theorem dz_nil (h : tl σ F) : DZ C ops B tl .nil σ F := h
theorem gw_key {c : Code} (d : Nat) (u : Value) (e' : Env) (_ : Sub e' env) (h1 : GW C k ((d, u) :: e') B F) (h2 : GW C k ((d, u) :: e') B F → GW C (.code c :: k) env B F) : GW C (.code c :: k) env B F := h2 h1
theorem drA {F' F a : List Ck} (h : F'.Sublist F) : F'.Sublist (a ++ F) := h.trans (List.sublist_append_right _ _)
theorem SubEnd {e' env : Env} {d : Nat} {u v : Value} (h : look env d = some v) (hv : v = u) (hs : Sub e' env) : Sub ((d, u) :: e') env := .cons (hv ▸ h) hs
end
section
variable {C : Cx} {env : Env} {B F : List Ck} {ops : Array Oper} {rest : List Oper} {K : Env → List Ck → Act → World → Prop} {ty : TypeId} {pos : String} {af : Array Edge} {x y : Operand} {d : Nat}
theorem rw_minE {tys : Array TypeId} {IK : IntKind} {p q r : Int} (hd : Nat.blt d C.n = true) (hx : ev env x = some (.int IK p)) (hy : ev env y = some (.int IK q)) (e : min p q = r) (h : RW C ops rest K ((d, .int IK r) :: env) B F) :
    RW C ops (⟨some d, .call ⟨.builtin .min, #[x, y], tys⟩, ty, pos, af, none⟩ :: rest) K env B F := by subst e; exact rw_min hd hx hy h
end
end SL
end Go.Proofs.Ytbhnekiclbfmgaa
