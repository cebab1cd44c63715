/- Regions that draw their order: a chain of stores at the end, beside it several values that nobody there waits for. -/
import Derived.Test.YtbhnekiclbfmgaaSlg
namespace Go.Proofs.Ytbhnekiclbfmgaa
namespace SL
open Go.RowKit
abbrev Fl := List (Nat × Nat × Value)
def fenv (Φ : Fl) : Env := Φ.map (·.2)
/-- What floats: each yields its value wherever it is carried out. -/
def FlOk (C : Cx) (ops : Array Oper) (Φ : Fl) (σ : Env) : Prop :=
  ∀ p ∈ Φ, ∃ o, ops[p.1]? = some o ∧ o.dst = some p.2.1 ∧ AStep C ops o p.2.1 (restr σ (o.looksAt ops)) [] [] (fun v' ch => v' = p.2.2 ∧ ch = [])
theorem look_mid {d : Nat} {v : Value} {σ : Env} : ∀ {e : Env}, look e d = none → ∀ t, look (e ++ (d, v) :: σ) t = look ((d, v) :: (e ++ σ)) t
  | [], _, _ => rfl
  | (i, u) :: e, h, t => by
    have hi : i ≠ d := fun hh => by subst hh; simp [look] at h
    have he : look e d = none := by rwa [look_cons_ne _ hi] at h
    refine Eq.trans ?_ (look_swap (σ := e ++ σ) hi u v t)
    show look ((i, u) :: (e ++ (d, v) :: σ)) t = look ((i, u) :: ((d, v) :: (e ++ σ))) t
    simp only [look]
    cases Nat.beq i t with
    | true => rfl
    | false => exact look_mid he t
theorem look_fenv_none {d : Nat} : ∀ {Φ : Fl}, (∀ p ∈ Φ, p.2.1 ≠ d) → look (fenv Φ) d = none
  | [], _ => rfl
  | p :: Φ, h => by
    show look (p.2 :: fenv Φ) d = none
    obtain ⟨j, i, u⟩ := p
    have hi : i ≠ d := h (j, i, u) (by simp)
    rw [look_cons_ne u hi]
    exact look_fenv_none fun q hq => h q (by simp [hq])
theorem look_fenv_skip {t : Nat} {σ : Env} {Φ : Fl} (h : ∀ p ∈ Φ, p.2.1 ≠ t) : look (fenv Φ ++ σ) t = look σ t := look_app_none (look_fenv_none h)
section
variable {C : Cx} {ops : Array Oper} {B F : List Ck} {σ : Env}
variable {Kf : Act → World → Prop} {A : List (List Nat)} {tl : Env → List Ck → List Ck → Prop}
theorem apart_spec {f x : Nat} (h : apartB ops f x = true) {d : Nat} (hd : dstOf ops f = some d) : d ∉ looksOf ops x ∧ ∀ e, dstOf ops x = some e → e ∉ looksOf ops f ∧ d ≠ e := by
  unfold apartB at h
  rw [hd] at h
  simp only [Bool.and_eq_true, Bool.not_eq_true'] at h
  refine ⟨by simpa using h.2, fun e he => ?_⟩
  rw [he] at h
  simp only [Bool.and_eq_true, Bool.not_eq_true', bne_iff_ne, ne_eq, Option.some.injEq] at h
  exact ⟨by simpa using h.1.1, h.1.2⟩
theorem tailM (hc : okCert ops A = true) (hend : ∀ σ B F E a w, tl σ B F → a.defers = [] → Fits C.n σ a.tmps → Sat C.w0 C.X w (B ++ (F ++ E)) → wpList C.P ops (QN Kf) [] a w)
    (htl : ∀ σ σ' B F F', (∀ t, look σ t = look σ' t) → F.Perm F' → tl σ B F → tl σ' B F') :
    ∀ (m : Nat) (Φ : Fl) (τ dn : List Nat) (L : Array Bool) (σ : Env) (B F E : List Ck) (a : Act) (w : World), L.size = ops.size → (∀ j, L.getD j true = false ↔ j ∈ Φ.map (·.1) ∨ j ∈ τ) → Closed ops L → (∀ f ∈ Φ.map (·.1), f ∉ τ) →
    (Φ.map (·.1)).Nodup → (∀ f ∈ Φ.map (·.1), ∀ t ∈ τ, f ∈ A.getD t [] ∨ apartB ops f t = true) → (∀ f ∈ Φ.map (·.1), ∀ g ∈ Φ.map (·.1), f ≠ g → apartB ops f g = true) → okTail A dn τ = true → τ.Nodup → τ.length + Φ.length ≤ m →
    FlOk C ops Φ σ → CW C ops tl τ (fenv Φ ++ σ) B F → a.defers = [] → Fits C.n σ a.tmps → Sat C.w0 C.X w (B ++ (F ++ E)) → wpAny C.P .any ops (QN Kf) m L a w := by
  intro m
  induction m with
  | zero =>
    intro Φ τ dn L σ B F E a w hL hun hcl hfτ hndΦ hap hpp hok hnd hm hFl hcw hd hf hs
    have hΦ : Φ = [] := List.eq_nil_of_length_eq_zero (by omega)
    subst hΦ
    exact tail1 hc hend 0 τ dn L σ B F E a w hL (by simpa using hun) hcl hok hnd (by simpa using hm) hcw hd hf hs
  | succ m ih =>
    intro Φ τ dn L σ B F E a w hL hun hcl hfτ hndΦ hap hpp hok hnd hm hFl hcw hd hf hs
    by_cases hΦ : Φ = []
    · subst hΦ
      exact tail1 hc hend (m + 1) τ dn L σ B F E a w hL (by simpa using hun) hcl hok hnd (by simpa using hm) hcw hd hf hs
    obtain ⟨p0, hp0⟩ := List.exists_mem_of_ne_nil Φ hΦ
    refine ⟨fun hn => absurd hn (ready_some hc hL ((hun p0.1).2 (.inl (List.mem_map.2 ⟨p0, hp0, rfl⟩)))), fun j hj => ?_⟩
    obtain ⟨hju, o', ho', hp⟩ := ready_spec hj
    have hjn : j < ops.size := hL ▸ unlisted_lt hju
    have hA := anc_listed hc hcl j hjn (fun p hpp => getD_true (hp p hpp))
    have hdsts : ∀ p ∈ Φ, dstOf ops p.1 = some p.2.1 := fun p hp => by
      obtain ⟨o, ho, hd, _⟩ := hFl p hp
      simp [dstOf, ho, hd]
    rcases (hun j).1 hju with hjf | hjτ
    · -- one that floats
      obtain ⟨p, hpm, rfl⟩ := List.mem_map.1 hjf
      obtain ⟨Φ1, Φ2, rfl⟩ := List.append_of_mem hpm
      obtain ⟨o, ho, hdst, hAS⟩ := hFl p hpm
      have hkeys : ∀ q ∈ Φ1 ++ Φ2, q ∈ Φ1 ++ p :: Φ2 ∧ q.1 ≠ p.1 := fun q hq => by
        rw [List.map_append, List.map_cons, List.nodup_append] at hndΦ
        rcases List.mem_append.1 hq with h1 | h1
        · exact ⟨by simp [h1], fun e => hndΦ.2.2 _ (List.mem_map.2 ⟨q, h1, rfl⟩) _ (List.mem_cons_self) e⟩
        · exact ⟨by simp [h1], fun e => (List.nodup_cons.1 hndΦ.2.1).1 (List.mem_map.2 ⟨q, h1, e⟩)⟩
      have hq : ∀ q ∈ Φ1 ++ Φ2, q.2.1 ≠ p.2.1 ∧ p.2.1 ∉ looksOf ops q.1 := fun q hq => by
        obtain ⟨h1, h2⟩ := hkeys q hq
        have h3 := apart_spec (hpp p.1 (List.mem_map.2 ⟨p, hpm, rfl⟩) q.1 (List.mem_map.2 ⟨q, h1, rfl⟩) (fun e => h2 e.symm)) (hdsts p hpm)
        exact ⟨fun e => (h3.2 q.2.1 (hdsts q h1)).2 e.symm, h3.1⟩
      refine wpOp_of_list ho ((hAS.toB B F).run hd hf hs) fun a' w' ⟨hd', v', ch, ⟨hv, hch⟩, hf', hs'⟩ => ?_
      subst hv hch
      refine ih (Φ1 ++ Φ2) τ dn (L.setIfInBounds p.1 true) ((p.2.1, p.2.2) :: σ) B F E a' w' (by simpa using hL) (fun i => ?_) (closed_set hcl hp) (fun f hf => ?_) ?_ (fun f hf => ?_) (fun f hf g hg => ?_) hok hnd ?_ (fun q hqm => ?_) ?_ hd' hf' (by simpa using hs')
      · rw [unlisted_set (by omega), hun i]
        constructor
        · rintro ⟨h1 | h1, h2⟩
          · left
            obtain ⟨q, hq1, rfl⟩ := List.mem_map.1 h1
            rcases List.mem_append.1 hq1 with h3 | h3
            · exact List.mem_map.2 ⟨q, by simp [h3], rfl⟩
            · rcases List.mem_cons.1 h3 with rfl | h3
              · exact absurd rfl h2
              · exact List.mem_map.2 ⟨q, by simp [h3], rfl⟩
          · exact .inr h1
        · rintro (h1 | h1)
          · obtain ⟨q, hq1, rfl⟩ := List.mem_map.1 h1
            obtain ⟨h3, h4⟩ := hkeys q hq1
            exact ⟨.inl (List.mem_map.2 ⟨q, h3, rfl⟩), h4⟩
          · exact ⟨.inr h1, fun e => hfτ p.1 hjf (e ▸ h1)⟩
      · obtain ⟨q, hq1, rfl⟩ := List.mem_map.1 hf
        exact hfτ q.1 (List.mem_map.2 ⟨q, (hkeys q hq1).1, rfl⟩)
      · refine hndΦ.sublist ?_
        simp only [List.map_append, List.map_cons]
        exact List.Sublist.append_left (List.sublist_cons_self _ _) _
      · obtain ⟨q, hq1, rfl⟩ := List.mem_map.1 hf
        exact hap q.1 (List.mem_map.2 ⟨q, (hkeys q hq1).1, rfl⟩)
      · obtain ⟨q, hq1, rfl⟩ := List.mem_map.1 hf
        obtain ⟨r, hr1, rfl⟩ := List.mem_map.1 hg
        exact hpp q.1 (List.mem_map.2 ⟨q, (hkeys q hq1).1, rfl⟩) r.1 (List.mem_map.2 ⟨r, (hkeys r hr1).1, rfl⟩)
      · simp only [List.length_append, List.length_cons] at hm ⊢; omega
      · obtain ⟨o2, h1, h2, h3⟩ := hFl q (hkeys q hqm).1
        refine ⟨o2, h1, h2, ?_⟩
        have hl : looksOf ops q.1 = o2.looksAt ops := by simp [looksOf, h1]
        have : restr ((p.2.1, p.2.2) :: σ) (o2.looksAt ops) = restr σ (o2.looksAt ops) := restr_congr fun t ht => look_cons_ne p.2.2 (fun e => (hq q hqm).2 (by rw [hl]; exact e ▸ ht))
        rw [this]; exact h3
      · refine CW.congr htl τ _ _ B F F (fun t => ?_) (List.Perm.refl _) hcw
        have hn1 : look (fenv Φ1) p.2.1 = none := look_fenv_none fun q h1 => (hq q (by simp [h1])).1
        have hn2 : look (fenv (Φ1 ++ Φ2)) p.2.1 = none := look_fenv_none fun q h1 => (hq q h1).1
        have e1 : fenv (Φ1 ++ p :: Φ2) ++ σ = fenv Φ1 ++ (p.2.1, p.2.2) :: (fenv Φ2 ++ σ) := by simp [fenv]
        rw [e1, look_mid hn1, look_mid hn2]
        have e2 : fenv (Φ1 ++ Φ2) ++ σ = fenv Φ1 ++ (fenv Φ2 ++ σ) := by simp [fenv]
        rw [e2]
    · cases τ with
      | nil => cases hjτ
      | cons t τ =>
        simp only [okTail, Bool.and_eq_true] at hok
        have hjt : j = t := by
          rcases List.mem_cons.1 hjτ with e | hjτ
          · exact e
          · have h1 := hA t (okTail_later τ (dn ++ [t]) hok.2 (by simp) hjτ)
            have h2 := (hun t).2 (.inr (by simp))
            rw [h1] at h2; cases h2
        subst hjt
        have hapj : ∀ f ∈ Φ.map (·.1), apartB ops f j = true := fun f hf => by
          rcases hap f hf j (by simp) with h1 | h1
          · have h2 := hA f h1
            have h3 := (hun f).2 (.inl hf)
            rw [h2] at h3; cases h3
          · exact h1
        obtain ⟨o2, dv, B', F', ho2, hdst2, hCS, hcw'⟩ := hcw
        have hnd' := List.nodup_cons.1 hnd
        have hlj : looksOf ops j = o2.looksAt ops := by simp [looksOf, ho2]
        have hsp : ∀ p ∈ Φ, p.2.1 ∉ o2.looksAt ops ∧ ∀ e, dstOf ops j = some e → e ∉ looksOf ops p.1 ∧ p.2.1 ≠ e := fun p hp => by
          have h1 := apart_spec (hapj p.1 (List.mem_map.2 ⟨p, hp, rfl⟩)) (hdsts p hp)
          exact ⟨hlj ▸ h1.1, h1.2⟩
        have hre : restr (fenv Φ ++ σ) (o2.looksAt ops) = restr σ (o2.looksAt ops) := restr_congr fun t ht => look_fenv_skip fun p hp e => (hsp p hp).1 (e ▸ ht)
        rw [hre] at hCS
        refine wpOp_of_list ho2 (hCS.run hd hf hs) fun a' w' ⟨hd', hf', hs'⟩ => ?_
        have hdj : dstOf ops j = dv.map Prod.fst := by simp [dstOf, ho2, hdst2]
        refine ih Φ τ (dn ++ [j]) (L.setIfInBounds j true) (dv.toList ++ σ) B' F' E a' w' (by simpa using hL) (fun i => ?_) (closed_set hcl hp) (fun f hf h => hfτ f hf (by simp [h])) hndΦ (fun f hf t ht => hap f hf t (by simp [ht])) hpp hok.2 hnd'.2 (by simp only [List.length_cons] at hm; omega) (fun p hp => ?_) ?_ hd' hf' hs'
        · rw [unlisted_set (by omega), hun i]
          simp only [List.mem_cons]
          exact ⟨fun ⟨h1, h2⟩ => h1.elim .inl (fun h => .inr (h.resolve_left h2)), fun h1 => h1.elim (fun h => ⟨.inl h, fun e => hfτ i h (by simp [e])⟩) (fun h => ⟨.inr (.inr h), fun e => hnd'.1 (e ▸ h)⟩)⟩
        · obtain ⟨o3, h1, h2, h3⟩ := hFl p hp
          refine ⟨o3, h1, h2, ?_⟩
          cases dv with
          | none => exact h3
          | some q =>
            obtain ⟨dp, vp⟩ := q
            have hl : looksOf ops p.1 = o3.looksAt ops := by simp [looksOf, h1]
            have h4 := ((hsp p hp).2 dp (by rw [hdj]; rfl)).1
            have : restr ((dp, vp) :: σ) (o3.looksAt ops) = restr σ (o3.looksAt ops) := restr_congr fun t ht => look_cons_ne vp (fun e => h4 (by rw [hl]; exact e ▸ ht))
            show AStep C ops o3 p.2.1 (restr ((dp, vp) :: σ) (o3.looksAt ops)) [] [] _
            rw [this]; exact h3
        · cases dv with
          | none => exact hcw'
          | some q =>
            obtain ⟨dp, vp⟩ := q
            have hn : look (fenv Φ) dp = none := look_fenv_none fun p hp => ((hsp p hp).2 dp (by rw [hdj]; rfl)).2
            exact CW.congr htl τ _ _ B' F' F' (fun t => (look_mid hn t).symm) (List.Perm.refl _) hcw'
end
section
variable {C : Cx} {ops : Array Oper} {B F : List Ck} {σ : Env} {tl : Env → List Ck → Prop}
theorem dwM_sound (htl : TlOk tl) {Kf : Act → World → Prop} {A : List (List Nat)} (hc : okCert ops A = true) {τ done φ : List Nat} {π0 : List (Nat × Kd)}
    (hlate : ∀ (m : Nat) (π : List (Nat × Kd)) (L : Array Bool) (σ : Env) (F E : List Ck) (a : Act) (w : World), L.size = ops.size → (∀ j, L.getD j true = false ↔ j ∈ π.map (·.1) ++ τ) → Closed ops L → (∀ i ∈ π.map (·.1), i ∈ φ) → π.Sublist π0 → (π.map (·.1)).Nodup →
      (π.map (·.1) ++ τ).length ≤ m → DW C ops B tl π σ F → a.defers = [] → Fits C.n σ a.tmps → Sat C.w0 C.X w (B ++ (F ++ E)) → wpAny C.P .any ops (QN Kf) m L a w)
    (hfar : ∀ t ∈ τ, ∀ i ∈ done, i ∉ φ → i ∈ A.getD t []) (hτd : ∀ t ∈ τ, t ∉ done) :
    ∀ (m : Nat) (π : List (Nat × Kd)) (L : Array Bool) (σ : Env) (F E : List Ck) (a : Act) (w : World), L.size = ops.size →
    (∀ j, L.getD j true = false ↔ j ∈ π.map (·.1) ++ τ) → (∀ i ∈ π.map (·.1), i ∈ done) → π.Sublist π0 → (π.map (·.1)).Nodup → Closed ops L → okPairs ops A π = true → FreeOk C ops π → (π.map (·.1) ++ τ).length ≤ m →
    DW C ops B tl π σ F → a.defers = [] → Fits C.n σ a.tmps → Sat C.w0 C.X w (B ++ (F ++ E)) → wpAny C.P .any ops (QN Kf) m L a w := by
  intro m
  induction m with
  | zero =>
    intro π L σ F E a w hL hun hdn hsub hndp hcl hok hfr hm h hd hf hs
    have hπ : π = [] := by cases π <;> simp at hm ⊢
    subst hπ
    exact hlate 0 [] L σ F E a w hL hun hcl (by simp) hsub hndp hm h hd hf hs
  | succ m ih =>
    intro π L σ F E a w hL hun hdn hsub hndp hcl hok hfr hm h hd hf hs
    by_cases hallφ : ∀ i ∈ π.map (·.1), i ∈ φ
    · exact hlate (m + 1) π L σ F E a w hL hun hcl hallφ hsub hndp hm h hd hf hs
    have hne : ∃ i ∈ π.map (·.1), i ∉ φ := by
      apply Classical.byContradiction
      intro hno
      exact hallφ fun i hi => Classical.byContradiction fun hn => hno ⟨i, hi, hn⟩
    obtain ⟨i1, hi1, hi1φ⟩ := hne
    refine ⟨fun hn => absurd hn (ready_some hc hL ((hun i1).2 (List.mem_append_left _ hi1))), fun j hj => ?_⟩
    obtain ⟨hju, o', ho', hp⟩ := ready_spec hj
    have hjn : j < ops.size := hL ▸ unlisted_lt hju
    have hA := anc_listed hc hcl j hjn (fun p hpp => getD_true (hp p hpp))
    have hjτ0 : j ∉ τ := fun hjτ0 => by
      have h2 := hA i1 (hfar j hjτ0 i1 (hdn _ hi1) hi1φ)
      have h3 := (hun i1).2 (List.mem_append_left _ hi1)
      rw [h2] at h3; cases h3
    have hjπ : j ∈ π.map (·.1) := ((List.mem_append.1 ((hun j).1 hju))).resolve_right hjτ0
    obtain ⟨⟨j', kd⟩, hjm, hje⟩ := List.mem_map.1 hjπ
    simp only at hje
    subst hje
    have hT := dw_take (A := A) htl π σ F hok hjm (fun i hi hiπ => by
      have h2 := hA i hi
      have h3 := (hun i).2 (List.mem_append_left _ hiπ)
      rw [h2] at h3; cases h3) h
    have hlt : (without j' π).length < π.length := by
      unfold without
      rw [List.length_filter_lt_length_iff_exists]
      exact ⟨(j', kd), hjm, by simp⟩
    have hmem : ∀ i, i ∈ (without j' π).map (·.1) ↔ i ∈ π.map (·.1) ∧ i ≠ j' := by
      intro i
      unfold without
      simp only [List.mem_map, List.mem_filter]
      constructor
      · rintro ⟨p, ⟨h1, h2⟩, rfl⟩
        exact ⟨⟨p, h1, rfl⟩, by simpa using h2⟩
      · rintro ⟨⟨p, h1, rfl⟩, h2⟩
        exact ⟨p, ⟨h1, by simpa using h2⟩, rfl⟩
    have hjτ : j' ∉ τ := fun h1 => hτd j' h1 (hdn _ hjπ)
    have go : ∀ (o : Oper) (d : Nat) (R : Value → List Ck → Prop), ops[j']? = some o → (∀ v F', R v F' → DW C ops B tl (without j' π) ((d, v) :: σ) F') →
        wpList C.P ops (QN fun a w => a.defers = [] ∧ ∃ v F', R v F' ∧ Fits C.n ((d, v) :: σ) a.tmps ∧ Sat C.w0 C.X w (B ++ (F' ++ E))) [o] a w →
        wpOp C.P ops (QN Kf) j' (wpAny C.P .any ops (QN Kf) m (L.setIfInBounds j' true)) a w := by
      intro o d R ho hr hw
      refine wpOp_of_list ho hw fun a' w' ⟨hd', v, F', hR, hf', hs'⟩ => ?_
      refine ih (without j' π) (L.setIfInBounds j' true) ((d, v) :: σ) F' E a' w' (by simpa using hL) (fun i => ?_) (fun i hi => hdn i ((hmem i).1 hi).1) (List.filter_sublist.trans hsub) (hndp.sublist (List.filter_sublist.map _)) (closed_set hcl hp) (okPairs_without hok)
        (fun j T zs hm' => hfr j T zs (List.mem_filter.1 hm').1) (by simp only [List.length_append, List.length_map] at hm ⊢; omega) (hr v F' hR) hd' hf' hs'
      rw [unlisted_set (by omega), hun i, List.mem_append, List.mem_append, hmem i]
      exact ⟨fun ⟨h1, h2⟩ => h1.elim (fun h => .inl ⟨h, h2⟩) .inr, fun h1 => h1.elim (fun h => ⟨.inl h.1, h.2⟩) (fun h => ⟨.inr h, fun e => hjτ (e ▸ h)⟩)⟩
    have go0 : ∀ (o : Oper) (R : List Ck → Prop), ops[j']? = some o → (∀ F', R F' → DW C ops B tl (without j' π) σ F') →
        wpList C.P ops (QN fun a w => a.defers = [] ∧ ∃ F', R F' ∧ Fits C.n σ a.tmps ∧ Sat C.w0 C.X w (B ++ (F' ++ E))) [o] a w →
        wpOp C.P ops (QN Kf) j' (wpAny C.P .any ops (QN Kf) m (L.setIfInBounds j' true)) a w := by
      intro o R ho hr hw
      refine wpOp_of_list ho hw fun a' w' ⟨hd', F', hR, hf', hs'⟩ => ?_
      refine ih (without j' π) (L.setIfInBounds j' true) σ F' E a' w' (by simpa using hL) (fun i => ?_) (fun i hi => hdn i ((hmem i).1 hi).1) (List.filter_sublist.trans hsub) (hndp.sublist (List.filter_sublist.map _)) (closed_set hcl hp) (okPairs_without hok)
        (fun j T zs hm' => hfr j T zs (List.mem_filter.1 hm').1) (by simp only [List.length_append, List.length_map] at hm ⊢; omega) (hr F' hR) hd' hf' hs'
      rw [unlisted_set (by omega), hun i, List.mem_append, List.mem_append, hmem i]
      exact ⟨fun ⟨h1, h2⟩ => h1.elim (fun h => .inl ⟨h, h2⟩) .inr, fun h1 => h1.elim (fun h => ⟨.inl h.1, h.2⟩) (fun h => ⟨.inr h, fun e => hjτ (e ▸ h)⟩)⟩
    cases kd with
    | free T zs =>
      obtain ⟨o, d, ho, hdst, hAS⟩ := hfr _ _ _ hjm
      exact go o d (fun v F' => ∃ ch, NewVar T zs v ch ∧ F' = ch ++ F) ho (fun v F' ⟨ch, h1, h2⟩ => h2 ▸ hT o d ho hdst v ch h1) (wpList_mono_QN (fun a w ⟨h1, v, ch, h2, h3, h4⟩ => ⟨h1, v, ch ++ F, ⟨ch, h2, rfl⟩, h3, h4⟩) (hAS.run0 hd hf hs))
    | det =>
      obtain ⟨o, d, R, ho, hdst, hAS, hr⟩ := hT
      exact go o d (fun v F' => ∃ ch, R v ch ∧ F' = ch ++ F) ho (fun v F' ⟨ch, h1, h2⟩ => h2 ▸ hr v ch h1) (wpList_mono_QN (fun a w ⟨h1, v, ch, h2, h3, h4⟩ => ⟨h1, v, ch ++ F, ⟨ch, h2, rfl⟩, h3, h4⟩) (hAS.run hd hf hs))
    | detB =>
      obtain ⟨o, d, R, ho, hdst, hAS, hr⟩ := hT
      exact go o d (fun v F' => ∃ ch, R v ch ∧ F' = ch ++ F) ho (fun v F' ⟨ch, h1, h2⟩ => h2 ▸ hr v ch h1) (wpList_mono_QN (fun a w ⟨h1, v, ch, h2, h3, h4⟩ => ⟨h1, v, ch ++ F, ⟨ch, h2, rfl⟩, h3, h4⟩) (hAS.run hd hf hs))
    | add =>
      obtain ⟨o, d, R, ho, hdst, hAS, hr⟩ := hT
      exact go o d (fun v F' => ∃ ch, R v ch ∧ F' = ch ++ F) ho (fun v F' ⟨ch, h1, h2⟩ => h2 ▸ hr v ch h1) (wpList_mono_QN (fun a w ⟨h1, v, ch, h2, h3, h4⟩ => ⟨h1, v, ch ++ F, ⟨ch, h2, rfl⟩, h3, h4⟩) (hAS.run hd hf hs))
    | chg =>
      obtain ⟨o, d, R, ho, hdst, hXS, hr⟩ := hT
      exact go o d R ho hr (hXS.run hd hf hs)
    | sto =>
      obtain ⟨o, R, ho, hdst, hZS, hr⟩ := hT
      exact go0 o R ho hr (hZS.run hd hf hs)
end
def okDrawM (ops : Array Oper) (π : List (Nat × Kd)) (τ φ : List Nat) : Bool :=
  let A := ancs ops
  okCert ops A && okPairs ops A π && φ.all (fun f => chainB ops A f τ) && φ.all (fun f => φ.all fun g => f == g || apartB ops f g) && okTail A [] τ && τ.all (fun t => (π.map (·.1)).all fun i => φ.contains i || (A.getD t []).contains i) && decide (π.map (·.1) ++ τ).Nodup &&
    π.all (fun p => !(φ.contains p.1) || (match p.2 with | .det => true | _ => false)) && (List.range ops.size).all (fun j => (π.map (·.1) ++ τ).contains j) && (π.map (·.1) ++ τ).all (·.blt ops.size) && (π.map (·.1) ++ τ).length == ops.size
section
variable {C : Cx} {B F : List Ck}
/-- What is left when the stores begin: the floats. -/
theorem dw_floats {ops : Array Oper} {φ τ : List Nat} {tl : Env → List Ck → List Ck → Prop} (hown : ∀ f ∈ φ, ∀ d, dstOf ops f = some d → d ∉ looksOf ops f) (hpp : ∀ f ∈ φ, ∀ g ∈ φ, f ≠ g → apartB ops f g = true) :
    ∀ (π : List (Nat × Kd)) (σ : Env), (∀ p ∈ π, p.2 = .det) → (∀ p ∈ π, p.1 ∈ φ) → (π.map (·.1)).Nodup → DW C ops B (fun σ F => (∀ f ∈ φ, FP C ops f σ) ∧ CW C ops tl τ σ B F) π σ F →
    ∃ Φ : Fl, (∀ j, j ∈ Φ.map (·.1) ↔ j ∈ π.map (·.1)) ∧ (Φ.map (·.1)).Nodup ∧ Φ.length = π.length ∧ FlOk C ops Φ σ ∧ CW C ops tl τ (fenv Φ ++ σ) B F ∧ ∀ f ∈ φ, FP C ops f (fenv Φ ++ σ)
  | [], σ, _, _, _, h => ⟨[], by simp, by simp, rfl, by simp [FlOk], h.2, h.1⟩
  | (j, kd) :: π, σ, hdet, hin, hnd, h => by
    have hk : kd = .det := hdet (j, kd) (by simp)
    subst hk
    have hjφ : j ∈ φ := hin (j, .det) (by simp)
    obtain ⟨o, d, v, ho, hd, _, hr⟩ := h
    rw [List.map_cons, List.nodup_cons] at hnd
    obtain ⟨Φ, h1, h2, h2', h3, h4, h5⟩ := dw_floats hown hpp π ((d, v) :: σ) (fun p hp => hdet p (by simp [hp])) (fun p hp => hin p (by simp [hp])) hnd.2 hr
    have hdj : dstOf ops j = some d := by simp [dstOf, ho, hd]
    have hlj : looksOf ops j = o.looksAt ops := by simp [looksOf, ho]
    have hΦ : ∀ p ∈ Φ, p.1 ∈ φ ∧ p.1 ≠ j ∧ dstOf ops p.1 = some p.2.1 := fun p hp => by
      have hm : p.1 ∈ π.map (·.1) := (h1 p.1).1 (List.mem_map.2 ⟨p, hp, rfl⟩)
      obtain ⟨q, hq, hqe⟩ := List.mem_map.1 hm
      obtain ⟨o2, g1, g2, _⟩ := h3 p hp
      exact ⟨hqe ▸ hin q (by simp [hq]), fun e => hnd.1 (e ▸ hm), by simp [dstOf, g1, g2]⟩
    have hsp : ∀ p ∈ Φ, d ∉ looksOf ops p.1 ∧ p.2.1 ∉ looksOf ops j ∧ d ≠ p.2.1 := fun p hp => by
      obtain ⟨g1, g2, g3⟩ := hΦ p hp
      have h6 := apart_spec (hpp j hjφ p.1 g1 (fun e => g2 e.symm)) hdj
      exact ⟨h6.1, (h6.2 _ g3).1, (h6.2 _ g3).2⟩
    have hdown : d ∉ looksOf ops j := hown j hjφ d hdj
    refine ⟨Φ ++ [(j, d, v)], fun i => ?_, ?_, by simp [h2'], fun p hp => ?_, ?_, fun f hf => ?_⟩
    · simp only [List.map_append, List.map_cons, List.map_nil, List.mem_append, List.mem_cons, List.not_mem_nil, or_false]
      rw [h1 i]; exact Or.comm
    · rw [List.map_append, List.nodup_append]
      refine ⟨h2, by simp, fun a ha b hb e => ?_⟩
      simp only [List.map_cons, List.map_nil, List.mem_singleton] at hb
      subst e hb
      exact hnd.1 ((h1 _).1 ha)
    · rcases List.mem_append.1 hp with hp | hp
      · obtain ⟨o2, g1, g2, g3⟩ := h3 p hp
        refine ⟨o2, g1, g2, ?_⟩
        have hl : looksOf ops p.1 = o2.looksAt ops := by simp [looksOf, g1]
        have : restr ((d, v) :: σ) (o2.looksAt ops) = restr σ (o2.looksAt ops) := restr_congr fun t ht => look_cons_ne v (fun e => (hsp p hp).1 (by rw [hl]; exact e ▸ ht))
        rw [← this]; exact g3
      · have hpe : p = (j, d, v) := by simpa using hp
        subst hpe
        obtain ⟨o2, d2, v2, g1, g2, g3, g4⟩ := h5 j hjφ
        rw [ho] at g1; cases g1
        rw [hd] at g2; cases g2
        have hn : look (fenv Φ) d = none := look_fenv_none fun p hp e => (hsp p hp).2.2 e.symm
        have hv : v = v2 := by
          rw [look_app_none hn] at g3
          simpa [look] using g3
        subst hv
        refine ⟨o, ho, hd, ?_⟩
        have : restr (fenv Φ ++ (d, v) :: σ) (o.looksAt ops) = restr σ (o.looksAt ops) := restr_congr fun t ht => by
          rw [look_fenv_skip fun p hp e => (hsp p hp).2.1 (by rw [hlj]; exact e ▸ ht), look_cons_ne v (fun e => hdown (by rw [hlj]; exact e ▸ ht))]
        rw [← this]; exact g4
    · have : fenv (Φ ++ [(j, d, v)]) ++ σ = fenv Φ ++ (d, v) :: σ := by simp [fenv]
      rw [this]; exact h4
    · have : fenv (Φ ++ [(j, d, v)]) ++ σ = fenv Φ ++ (d, v) :: σ := by simp [fenv]
      rw [this]; exact h5 f hf
theorem gw_drawM {id : Nat} {l : List Oper} {k : List Item} {env : Env} (π : List (Nat × Kd)) (τ φ : List Nat) (hmix : C.P.follows .mixedOrders = true) (hok : okDrawM l.toArray π τ φ = true) (hfr : FreeOk C l.toArray π)
    (h : DW C l.toArray B (fun σ F => (∀ f ∈ φ, FP C l.toArray f σ) ∧ CW C l.toArray (fun σ B F => GW C k σ B F) τ σ B F) π env F) : GW C (.code (.region id l.toArray true) :: k) env B F := by
  intro E a w hd hf hs
  simp only [okDrawM, Bool.and_eq_true] at hok
  obtain ⟨⟨⟨⟨⟨⟨⟨⟨⟨⟨hc, hp⟩, hch⟩, hppB⟩, hot⟩, hfar⟩, hnd⟩, hdet⟩, hcov⟩, hlt⟩, hlen⟩ := hok
  have hnd := of_decide_eq_true hnd
  have hnd' := List.nodup_append.1 hnd
  have hch' : ∀ f ∈ φ, chainB l.toArray (ancs l.toArray) f τ = true := fun f hf => List.all_eq_true.1 hch f hf
  have hpp : ∀ f ∈ φ, ∀ g ∈ φ, f ≠ g → apartB l.toArray f g = true := fun f hf g hg hne => by
    have h1 := List.all_eq_true.1 (List.all_eq_true.1 hppB f hf) g hg
    simp only [Bool.or_eq_true, beq_iff_eq] at h1
    exact h1.resolve_left hne
  have hown : ∀ f ∈ φ, ∀ d, dstOf l.toArray f = some d → d ∉ looksOf l.toArray f := fun f hf d hdd => by
    have h1 := hch' f hf
    simp only [chainB, Bool.and_eq_true] at h1
    have h2 := h1.2
    rw [hdd] at h2
    simpa using h2
  refine good_region (wp_region_any hmix ?_)
  have hlt' : ∀ j ∈ π.map (·.1) ++ τ, j < l.toArray.size := fun j hj => by simpa using List.all_eq_true.1 hlt j hj
  have htl : ∀ (σ σ' : Env) (B F F' : List Ck), (∀ t, look σ t = look σ' t) → F.Perm F' → GW C k σ B F → GW C k σ' B F' := fun σ σ' B F F' hl hp' h' => gw_perm (hp'.symm.append_left B) (gw_env hl h')
  have hend : ∀ (σ : Env) (B F E : List Ck) (a : Act) (w : World), GW C k σ B F → a.defers = [] → Fits C.n σ a.tmps → Sat C.w0 C.X w (B ++ (F ++ E)) → wpList C.P l.toArray (QN fun a w => a.defers = [] ∧ Good C.P C.f C.R k a w) [] a w :=
    fun σ B F E a w h hd hf hs => ⟨hd, h E a w hd hf hs⟩
  refine dwM_sound (φ := φ) (π0 := π) (tl := fun σ F => (∀ f ∈ φ, FP C l.toArray f σ) ∧ CW C l.toArray (fun σ B F => GW C k σ B F) τ σ B F) (fun σ σ' F F' hl hp' h' => ⟨fun f hf => (h'.1 f hf).congr hl, CW.congr htl τ _ _ _ _ _ hl hp' h'.2⟩) hc (done := π.map (·.1)) (τ := τ)
    (fun m π' L σ F E a w hL hun hcl hφ hsub hndp hm h' hd' hf' hs' => ?_) ?_ (fun t ht hi => hnd'.2.2 t hi t ht rfl) _ π _ env F E a _ (by simp) (fun j => ?_) (fun i hi => hi) (List.Sublist.refl _) hnd'.1 ?_ hp hfr ?_ h hd hf hs.drew
  · have hdet' : ∀ p ∈ π', p.2 = .det := fun p hp => by
      have h1 := List.all_eq_true.1 hdet p (hsub.subset hp)
      have h2 : φ.contains p.1 = true := by simpa using hφ p.1 (List.mem_map.2 ⟨p, hp, rfl⟩)
      rw [h2] at h1
      simp only [Bool.not_true, Bool.false_or] at h1
      obtain ⟨j, kd⟩ := p
      cases kd <;> simp at h1 ⊢
    obtain ⟨Φ, h1, h2, h2', h3, h4, _⟩ := dw_floats hown hpp π' σ hdet' (fun p hp => hφ p.1 (List.mem_map.2 ⟨p, hp, rfl⟩)) hndp h'
    have hΦφ : ∀ f ∈ Φ.map (·.1), f ∈ φ := fun f hf => hφ f ((h1 f).1 hf)
    refine tailM (tl := fun σ B F => GW C k σ B F) hc hend htl m Φ τ [] L σ B F E a w hL (fun j => ?_) hcl (fun f hf hfτ => ?_) h2 (fun f hf t ht => ?_) (fun f hf g hg => hpp f (hΦφ f hf) g (hΦφ g hg)) hot hnd'.2.1 ?_ h3 h4 hd' hf' hs'
    · rw [hun j, List.mem_append, h1 j]
    · have hm1 := (h1 f).1 hf
      obtain ⟨q, hq, hqe⟩ := List.mem_map.1 hm1
      exact hnd'.2.2 f (List.mem_map.2 ⟨q, hsub.subset hq, hqe⟩) f hfτ rfl
    · have h5 := hch' f (hΦφ f hf)
      simp only [chainB, Bool.and_eq_true] at h5
      have h6 := List.all_eq_true.1 h5.1 t ht
      rw [Bool.or_eq_true] at h6
      exact h6.imp (fun h => by simpa using h) (fun h => h)
    · simp only [List.length_append, List.length_map] at hm; omega
  · intro t ht i hi hif
    have h1 := List.all_eq_true.1 (List.all_eq_true.1 hfar t ht) i hi
    simp only [Bool.or_eq_true] at h1
    have h2 := h1.resolve_left (fun h => hif (by simpa using h))
    simpa using h2
  · constructor
    · intro hj
      have := unlisted_lt hj
      simp only [Array.size_replicate] at this
      simpa using List.all_eq_true.1 hcov j (List.mem_range.2 this)
    · intro hj
      have := hlt' j hj
      simp only [Array.getD_eq_getD_getElem?, Array.getElem?_replicate, if_pos this]
      rfl
  · intro j hj hjn p _
    simp only [Array.getD_eq_getD_getElem?, Array.getElem?_replicate, if_pos hjn] at hj
    cases hj
  · simp only [beq_iff_eq] at hlen
    omega
theorem fps_nil {ops : Array Oper} {σ : Env} : ∀ f ∈ ([] : List Nat), FP C ops f σ := fun _ h => by cases h
theorem fps_cons {ops : Array Oper} {σ : Env} {f : Nat} {φ : List Nat} (h : FP C ops f σ) (h2 : ∀ g ∈ φ, FP C ops g σ) : ∀ g ∈ f :: φ, FP C ops g σ := fun g hg => by
  rcases List.mem_cons.1 hg with rfl | hg
  · exact h
  · exact h2 g hg
end
end SL
end Go.Proofs.Ytbhnekiclbfmgaa
