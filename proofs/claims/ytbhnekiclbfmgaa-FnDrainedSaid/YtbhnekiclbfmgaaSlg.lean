/- Regions that draw their order: a chain of stores at the end, beside it values that nobody waits for. -/
import Derived.Test.YtbhnekiclbfmgaaSlf
namespace Go.Proofs.Ytbhnekiclbfmgaa
namespace SL
open Go.RowKit
def CStep (C : Cx) (ops : Array Oper) (o : Oper) (e : Env) (B F : List Ck) (dv : Option (Nat × Value)) (B' F' : List Ck) : Prop :=
  ∀ K : Env → List Ck → Act → World → Prop,
    (∀ (V : Env) (E : List Ck) a w, a.defers = [] → Fits C.n ((dv.toList ++ e) ++ V) a.tmps → Sat C.w0 C.X w (B' ++ (F' ++ E)) → K V E a w) → RW C ops [o] K e B F
/-- The chain. -/
def CW (C : Cx) (ops : Array Oper) (tl : Env → List Ck → List Ck → Prop) : List Nat → Env → List Ck → List Ck → Prop
  | [], σ, B, F => tl σ B F
  | j :: τ, σ, B, F => ∃ o dv B' F', ops[j]? = some o ∧ o.dst = dv.map Prod.fst ∧ CStep C ops o (restr σ (o.looksAt ops)) B F dv B' F' ∧ CW C ops tl τ (dv.toList ++ σ) B' F'
/-- The operation f yields a value that can be had in any world. -/
def FP (C : Cx) (ops : Array Oper) (f : Nat) (σ : Env) : Prop :=
  ∃ o d v, ops[f]? = some o ∧ o.dst = some d ∧ look σ d = some v ∧ AStep C ops o d (restr σ (o.looksAt ops)) [] [] (fun v' ch => v' = v ∧ ch = [])
section
variable {C : Cx} {ops : Array Oper} {B F : List Ck} {e σ : Env} {o : Oper} {d : Nat} {R : Value → List Ck → Prop}
theorem AStep.toB (h : AStep C ops o d e [] [] R) (B F : List Ck) : AStep C ops o d e B F R := by
  intro K hK V E a w hd hf hs
  have h1 := h (fun V E' a w => ∀ E, E' = B ++ (F ++ E) → K V E a w) (fun v ch hR V E' a w hd hf hs E hE => hK v ch hR V E a w hd hf (hs.perm (by
    subst hE
    have h1 := ((List.perm_append_comm (l₁ := ch) (l₂ := B)).append_right F).append_right E
    simpa [List.append_assoc] using h1)))
  have h2 := h1 V (B ++ (F ++ E)) a w hd hf (by simpa using hs)
  exact wpList_mono_QN (fun a w h => h E rfl) h2
theorem Fits.unrestr0 {n : Nat} {tm : Array Value} {L : List Nat} (h : Fits n (SL.restr σ L ++ σ) tm) : Fits n σ tm := by
  refine ⟨h.1, fun i u hi => h.2 i u ?_⟩
  cases hr : look (SL.restr σ L) i with
  | none => rw [look_app_none hr, hi]
  | some x =>
    rw [look_append hr]
    rw [look_restr σ L i x hr] at hi
    exact hi
theorem Fits.dropd {n : Nat} {tm : Array Value} {v : Value} (h : Fits n ((d, v) :: σ) tm) (hd : look σ d = none) : Fits n σ tm := by
  refine ⟨h.1, fun i u hi => h.2 i u ?_⟩
  rw [look_cons_ne]
  · exact hi
  · intro e; subst e; rw [hd] at hi; cases hi
theorem CStep.run {L : List Nat} {dv : Option (Nat × Value)} {B' F' : List Ck} (h : CStep C ops o (restr σ L) B F dv B' F') {E : List Ck} {a : Act} {w : World} (hd : a.defers = []) (hf : Fits C.n σ a.tmps) (hs : Sat C.w0 C.X w (B ++ (F ++ E))) :
    wpList C.P ops (QN fun a w => a.defers = [] ∧ Fits C.n (dv.toList ++ σ) a.tmps ∧ Sat C.w0 C.X w (B' ++ (F' ++ E))) [o] a w := by
  have h1 := h (fun V E' a w => V = σ → E' = E → (a.defers = [] ∧ Fits C.n (dv.toList ++ σ) a.tmps ∧ Sat C.w0 C.X w (B' ++ (F' ++ E))))
    (fun V E' a w hd' hf' hs' hV hE => by
      rw [hV] at hf'
      rw [hE] at hs'
      refine ⟨hd', ?_, hs'⟩
      cases dv with
      | none => exact hf'.unrestr0
      | some p => exact Fits.unrestr hf') σ E a w hd (hf.restr L) hs
  exact wpList_mono_QN (fun a w hh => hh rfl rfl) h1
/-- Neither looks at what the other yields. -/
def apartB (ops : Array Oper) (f x : Nat) : Bool :=
  (match dstOf ops x with | some d => !(looksOf ops f).contains d && dstOf ops f != some d | none => true) && (match dstOf ops f with | some d => !(looksOf ops x).contains d | none => false)
def chainB (ops : Array Oper) (A : List (List Nat)) (f : Nat) (τ : List Nat) : Bool :=
  τ.all (fun t => (A.getD t []).contains f || apartB ops f t) && (match dstOf ops f with | some d => !(looksOf ops f).contains d | none => false)
theorem CW.congr {tl : Env → List Ck → List Ck → Prop} (htl : ∀ σ σ' B F F', (∀ t, look σ t = look σ' t) → F.Perm F' → tl σ B F → tl σ' B F') : ∀ (τ : List Nat) (σ σ' : Env) (B F F' : List Ck), (∀ t, look σ t = look σ' t) → F.Perm F' →
    CW C ops tl τ σ B F → CW C ops tl τ σ' B F'
  | [], σ, σ', B, F, F', hl, hp, h => htl σ σ' B F F' hl hp h
  | j :: τ, σ, σ', B, F, F', hl, hp, h => by
    obtain ⟨o, dv, B1, F1, ho, hd, hC, hr⟩ := h
    refine ⟨o, dv, B1, F1, ho, hd, ?_, CW.congr htl τ _ _ B1 F1 F1 ?_ (List.Perm.refl _) hr⟩
    · rw [← restr_congr (L := o.looksAt ops) fun t _ => hl t]
      intro K hK
      exact rw_perm (hp.symm.append_left B) (hC K hK)
    · cases dv with
      | none => exact hl
      | some p => exact look_cons_congr hl p.1 p.2
theorem okTail_later {A : List (List Nat)} {t j : Nat} : ∀ (τ' : List Nat) (dn : List Nat), okTail A dn τ' = true → t ∈ dn → j ∈ τ' → t ∈ A.getD j []
  | [], _, _, _, h => by cases h
  | x :: τ', dn, hk, htd, hjx => by
    simp only [okTail, Bool.and_eq_true, List.all_eq_true] at hk
    rcases List.mem_cons.1 hjx with rfl | hjx
    · simpa using hk.1 t htd
    · exact okTail_later τ' (dn ++ [x]) hk.2 (by simp [htd]) hjx
section
variable {Kf : Act → World → Prop} {A : List (List Nat)} {tl : Env → List Ck → List Ck → Prop}
/-- The chain alone. -/
theorem tail1 (hc : okCert ops A = true) (hend : ∀ σ B F E a w, tl σ B F → a.defers = [] → Fits C.n σ a.tmps → Sat C.w0 C.X w (B ++ (F ++ E)) → wpList C.P ops (QN Kf) [] a w) :
    ∀ (m : Nat) (τ dn : List Nat) (L : Array Bool) (σ : Env) (B F E : List Ck) (a : Act) (w : World), L.size = ops.size → (∀ j, L.getD j true = false ↔ j ∈ τ) → Closed ops L →
    okTail A dn τ = true → τ.Nodup → τ.length ≤ m → CW C ops tl τ σ B F → a.defers = [] → Fits C.n σ a.tmps → Sat C.w0 C.X w (B ++ (F ++ E)) → wpAny C.P .any ops (QN Kf) m L a w := by
  intro m
  induction m with
  | zero =>
    intro τ dn L σ B F E a w hL hun hcl hok hnd hm hcw hd hf hs
    have hτ : τ = [] := List.eq_nil_of_length_eq_zero (by omega)
    subst hτ
    have hn : Region.ready .any ops L = [] := by
      rw [List.eq_nil_iff_forall_not_mem]
      intro j hj
      have := (hun j).1 (ready_spec hj).1
      cases this
    exact ⟨hn, hend σ B F E a w hcw hd hf hs⟩
  | succ m ih =>
    intro τ dn L σ B F E a w hL hun hcl hok hnd hm hcw hd hf hs
    cases τ with
    | nil =>
      have hn : Region.ready .any ops L = [] := by
        rw [List.eq_nil_iff_forall_not_mem]
        intro j hj
        have := (hun j).1 (ready_spec hj).1
        cases this
      exact ⟨fun _ => hend σ B F E a w hcw hd hf hs, fun j hj => by rw [hn] at hj; cases hj⟩
    | cons t τ =>
      refine ⟨fun hn => absurd hn (ready_some hc hL ((hun t).2 (by simp))), fun j hj => ?_⟩
      obtain ⟨hju, o', ho', hp⟩ := ready_spec hj
      have hjn : j < ops.size := hL ▸ unlisted_lt hju
      have hA := anc_listed hc hcl j hjn (fun p hpp => getD_true (hp p hpp))
      simp only [okTail, Bool.and_eq_true] at hok
      have hjt : j = t := by
        rcases List.mem_cons.1 ((hun j).1 hju) with e | hjτ
        · exact e
        · have h1 := hA t (okTail_later τ (dn ++ [t]) hok.2 (by simp) hjτ)
          have h2 := (hun t).2 (by simp)
          rw [h1] at h2; cases h2
      subst hjt
      obtain ⟨o, dv, B', F', ho, hdst, hCS, hcw'⟩ := hcw
      have hnd' := List.nodup_cons.1 hnd
      refine wpOp_of_list ho (hCS.run hd hf hs) fun a' w' ⟨hd', hf', hs'⟩ => ?_
      refine ih τ (dn ++ [j]) (L.setIfInBounds j true) (dv.toList ++ σ) B' F' E a' w' (by simpa using hL) (fun i => ?_) (closed_set hcl hp) hok.2 hnd'.2 (by simpa using hm) hcw' hd' hf' hs'
      rw [unlisted_set (by omega), hun i]
      simp only [List.mem_cons, ne_eq]
      exact ⟨fun ⟨h1, h2⟩ => h1.resolve_left h2, fun h1 => ⟨.inr h1, fun e => hnd'.1 (e ▸ h1)⟩⟩
/-- The chain, and the operation f still to come. -/
theorem tailF (hc : okCert ops A = true) (hend : ∀ σ B F E a w, tl σ B F → a.defers = [] → Fits C.n σ a.tmps → Sat C.w0 C.X w (B ++ (F ++ E)) → wpList C.P ops (QN Kf) [] a w)
    (htl : ∀ σ σ' B F F', (∀ t, look σ t = look σ' t) → F.Perm F' → tl σ B F → tl σ' B F') {f d : Nat} {v : Value} {o : Oper} (ho : ops[f]? = some o) (hdst : o.dst = some d) :
    ∀ (m : Nat) (τ dn : List Nat) (L : Array Bool) (σ : Env) (B F E : List Ck) (a : Act) (w : World), L.size = ops.size → (∀ j, L.getD j true = false ↔ j = f ∨ j ∈ τ) → Closed ops L → f ∉ τ →
    (∀ t ∈ τ, f ∈ A.getD t [] ∨ apartB ops f t = true) → okTail A dn τ = true → τ.Nodup → τ.length + 1 ≤ m → AStep C ops o d (restr σ (o.looksAt ops)) [] [] (fun v' ch => v' = v ∧ ch = []) → CW C ops tl τ ((d, v) :: σ) B F →
    a.defers = [] → Fits C.n σ a.tmps → Sat C.w0 C.X w (B ++ (F ++ E)) → wpAny C.P .any ops (QN Kf) m L a w := by
  intro m
  induction m with
  | zero => intro τ dn L σ B F E a w _ _ _ _ _ _ _ hm; omega
  | succ m ih =>
    intro τ dn L σ B F E a w hL hun hcl hfτ hap hok hnd hm hAS hcw hd hf hs
    refine ⟨fun hn => absurd hn (ready_some hc hL ((hun f).2 (.inl rfl))), fun j hj => ?_⟩
    obtain ⟨hju, o', ho', hp⟩ := ready_spec hj
    have hjn : j < ops.size := hL ▸ unlisted_lt hju
    have hA := anc_listed hc hcl j hjn (fun p hpp => getD_true (hp p hpp))
    rcases (hun j).1 hju with hjf | hjτ
    · subst hjf
      refine wpOp_of_list ho ((hAS.toB B F).run hd hf hs) fun a' w' ⟨hd', v', ch, ⟨hv, hch⟩, hf', hs'⟩ => ?_
      subst hv hch
      refine tail1 hc hend m τ dn (L.setIfInBounds j true) _ B F E a' w' (by simpa using hL) (fun i => ?_) (closed_set hcl hp) hok hnd (by omega) hcw hd' hf' (by simpa using hs')
      rw [unlisted_set (by omega), hun i]
      exact ⟨fun ⟨h1, h2⟩ => h1.resolve_left h2, fun h1 => ⟨.inr h1, fun e => hfτ (e ▸ h1)⟩⟩
    · cases τ with
      | nil => cases hjτ
      | cons t τ =>
        simp only [okTail, Bool.and_eq_true] at hok
        have hjt : j = t := by
          rcases List.mem_cons.1 hjτ with e | hjτ
          · exact e
          · have h1 := hA t (okTail_later τ (dn ++ [t]) hok.2 (by simp) hjτ)
            have h2 := (hun t).2 (.inr (by simp))
            rw [h1] at h2; cases h2
        subst hjt
        have hap2 : apartB ops f j = true := by
          rcases hap j (by simp) with h1 | h1
          · have h2 := hA f h1
            have h3 := (hun f).2 (.inl rfl)
            rw [h2] at h3; cases h3
          · exact h1
        obtain ⟨o2, dv, B', F', ho2, hdst2, hCS, hcw'⟩ := hcw
        have hnd' := List.nodup_cons.1 hnd
        have hdf : dstOf ops f = some d := by simp [dstOf, ho, hdst]
        have hlf : looksOf ops f = o.looksAt ops := by simp [looksOf, ho]
        have hlj : looksOf ops j = o2.looksAt ops := by simp [looksOf, ho2]
        simp only [apartB, hdf, hlf, hlj, Bool.and_eq_true, Bool.not_eq_true'] at hap2
        have hdl : d ∉ o2.looksAt ops := by simpa using hap2.2
        have hre : restr ((d, v) :: σ) (o2.looksAt ops) = restr σ (o2.looksAt ops) := restr_congr fun t ht => look_cons_ne v (fun e => hdl (e ▸ ht))
        rw [hre] at hCS
        refine wpOp_of_list ho2 (hCS.run hd hf hs) fun a' w' ⟨hd', hf', hs'⟩ => ?_
        have hdj : dstOf ops j = dv.map Prod.fst := by simp [dstOf, ho2, hdst2]
        refine ih τ (dn ++ [j]) (L.setIfInBounds j true) (dv.toList ++ σ) B' F' E a' w' (by simpa using hL) (fun i => ?_) (closed_set hcl hp) (fun h => hfτ (by simp [h])) (fun t ht => hap t (by simp [ht])) hok.2 hnd'.2 (by simp only [List.length_cons] at hm; omega) ?_ ?_ hd' hf' hs'
        · rw [unlisted_set (by omega), hun i]
          simp only [List.mem_cons]
          have hfj : f ≠ j := fun e => hfτ (by simp [e])
          exact ⟨fun ⟨h1, h2⟩ => h1.elim .inl (fun h => .inr (h.resolve_left h2)), fun h1 => h1.elim (fun h => ⟨.inl h, fun e => hfj (h ▸ e)⟩) (fun h => ⟨.inr (.inr h), fun e => hnd'.1 (e ▸ h)⟩)⟩
        · cases dv with
          | none => exact hAS
          | some p =>
            obtain ⟨dp, vp⟩ := p
            simp only [hdj, Option.map_some, Bool.and_eq_true, Bool.not_eq_true'] at hap2
            have hc2 : dp ∉ o.looksAt ops := by simpa using hap2.1.1
            have : restr ((dp, vp) :: σ) (o.looksAt ops) = restr σ (o.looksAt ops) := restr_congr fun t ht => look_cons_ne vp (fun e => hc2 (e ▸ ht))
            show AStep C ops o d (restr ((dp, vp) :: σ) (o.looksAt ops)) [] [] _
            rw [this]; exact hAS
        · cases dv with
          | none => exact hcw'
          | some p =>
            obtain ⟨dp, vp⟩ := p
            simp only [hdj, Option.map_some, Bool.and_eq_true, Bool.not_eq_true', bne_iff_ne, ne_eq, Option.some.injEq] at hap2
            exact CW.congr htl τ _ _ B' F' F' (look_swap (fun e => hap2.1.2 e.symm) vp v) (List.Perm.refl _) hcw'
end
variable {tl : Env → List Ck → Prop}
theorem dwF_sound (htl : TlOk tl) {Kf : Act → World → Prop} {A : List (List Nat)} (hc : okCert ops A = true) {τ done : List Nat} {π0 : List (Nat × Kd)}
    {f : Nat} (hlate : ∀ (m : Nat) (kd : Kd) (L : Array Bool) (σ : Env) (F E : List Ck) (a : Act) (w : World), L.size = ops.size → (∀ j, L.getD j true = false ↔ j = f ∨ j ∈ τ) → Closed ops L → τ.length + 1 ≤ m → DW C ops B tl [(f, kd)] σ F → (f, kd) ∈ π0 → a.defers = [] → Fits C.n σ a.tmps →
      Sat C.w0 C.X w (B ++ (F ++ E)) → wpAny C.P .any ops (QN Kf) m L a w)
    (hend : ∀ (m : Nat) (L : Array Bool) (σ : Env) (F E : List Ck) (a : Act) (w : World), L.size = ops.size → (∀ j, L.getD j true = false ↔ j ∈ τ) → Closed ops L → τ.length ≤ m → tl σ F → a.defers = [] → Fits C.n σ a.tmps →
      Sat C.w0 C.X w (B ++ (F ++ E)) → wpAny C.P .any ops (QN Kf) m L a w)
    (hfar : ∀ t ∈ τ, ∀ i ∈ done, i ≠ f → i ∈ A.getD t []) (hτd : ∀ t ∈ τ, t ∉ done) :
    ∀ (m : Nat) (π : List (Nat × Kd)) (L : Array Bool) (σ : Env) (F E : List Ck) (a : Act) (w : World), L.size = ops.size →
    (∀ j, L.getD j true = false ↔ j ∈ π.map (·.1) ++ τ) → (∀ i ∈ π.map (·.1), i ∈ done) → π.Sublist π0 → (π.map (·.1)).Nodup → Closed ops L → okPairs ops A π = true → FreeOk C ops π → (π.map (·.1) ++ τ).length ≤ m →
    DW C ops B tl π σ F → a.defers = [] → Fits C.n σ a.tmps → Sat C.w0 C.X w (B ++ (F ++ E)) → wpAny C.P .any ops (QN Kf) m L a w := by
  intro m
  induction m with
  | zero =>
    intro π L σ F E a w hL hun hdn hsub hndp hcl hok hfr hm h hd hf hs
    have hπ : π = [] := by cases π <;> simp at hm ⊢
    subst hπ
    exact hend 0 L σ F E a w hL (by simpa using hun) hcl (by simpa using hm) h hd hf hs
  | succ m ih =>
    intro π L σ F E a w hL hun hdn hsub hndp hcl hok hfr hm h hd hf hs
    cases hπ : π with
    | nil =>
      subst hπ
      exact hend (m + 1) L σ F E a w hL (by simpa using hun) hcl (by simpa using hm) h hd hf hs
    | cons i0 π0' =>
      have hi0 : i0.1 ∈ π.map (·.1) := by rw [hπ]; simp
      refine ⟨fun hn => absurd hn (ready_some hc hL ((hun i0.1).2 (List.mem_append_left _ hi0))), fun j hj => ?_⟩
      obtain ⟨hju, o', ho', hp⟩ := ready_spec hj
      have hjn : j < ops.size := hL ▸ unlisted_lt hju
      have hA := anc_listed hc hcl j hjn (fun p hpp => getD_true (hp p hpp))
      by_cases hjτ0 : j ∈ τ
      · -- all that is left of π is f
        have hall : ∀ i ∈ π.map (·.1), i = f := fun i hi => by
          by_cases hif : i = f
          · exact hif
          · have h2 := hA i (hfar j hjτ0 i (hdn _ hi) hif)
            have h3 := (hun i).2 (List.mem_append_left _ hi)
            rw [h2] at h3; cases h3
        have h1 : π = [i0] := by
          rw [hπ] at hall hndp ⊢
          cases π0' with
          | nil => rfl
          | cons i1 π1 =>
            have e0 := hall i0.1 (by simp)
            have e1 := hall i1.1 (by simp)
            simp [e0, e1] at hndp
        obtain ⟨f', kd⟩ := i0
        have hff : f' = f := hall f' hi0
        subst hff
        rw [h1] at h hun hm hsub
        exact (hlate (m + 1) kd L σ F E a w hL (by simpa using hun) hcl (by simpa [Nat.add_comm] using hm) h (hsub.subset (by simp)) hd hf hs).2 j hj
      have hjπ : j ∈ π.map (·.1) := ((List.mem_append.1 ((hun j).1 hju))).resolve_right hjτ0
      obtain ⟨⟨j', kd⟩, hjm, hje⟩ := List.mem_map.1 hjπ
      simp only at hje
      subst hje
      have hT := dw_take (A := A) htl π σ F hok hjm (fun i hi hiπ => by
        have h2 := hA i hi
        have h3 := (hun i).2 (List.mem_append_left _ hiπ)
        rw [h2] at h3; cases h3) h
      have hlt : (without j' π).length < π.length := by
        unfold without
        rw [List.length_filter_lt_length_iff_exists]
        exact ⟨(j', kd), hjm, by simp⟩
      have hmem : ∀ i, i ∈ (without j' π).map (·.1) ↔ i ∈ π.map (·.1) ∧ i ≠ j' := by
        intro i
        unfold without
        simp only [List.mem_map, List.mem_filter]
        constructor
        · rintro ⟨p, ⟨h1, h2⟩, rfl⟩
          exact ⟨⟨p, h1, rfl⟩, by simpa using h2⟩
        · rintro ⟨⟨p, h1, rfl⟩, h2⟩
          exact ⟨p, ⟨h1, by simpa using h2⟩, rfl⟩
      have hjτ : j' ∉ τ := fun h1 => hτd j' h1 (hdn _ hjπ)
      have go : ∀ (o : Oper) (d : Nat) (R : Value → List Ck → Prop), ops[j']? = some o → (∀ v F', R v F' → DW C ops B tl (without j' π) ((d, v) :: σ) F') →
          wpList C.P ops (QN fun a w => a.defers = [] ∧ ∃ v F', R v F' ∧ Fits C.n ((d, v) :: σ) a.tmps ∧ Sat C.w0 C.X w (B ++ (F' ++ E))) [o] a w →
          wpOp C.P ops (QN Kf) j' (wpAny C.P .any ops (QN Kf) m (L.setIfInBounds j' true)) a w := by
        intro o d R ho hr hw
        refine wpOp_of_list ho hw fun a' w' ⟨hd', v, F', hR, hf', hs'⟩ => ?_
        refine ih (without j' π) (L.setIfInBounds j' true) ((d, v) :: σ) F' E a' w' (by simpa using hL) (fun i => ?_) (fun i hi => hdn i ((hmem i).1 hi).1) (List.filter_sublist.trans hsub) (hndp.sublist (List.filter_sublist.map _)) (closed_set hcl hp) (okPairs_without hok)
          (fun j T zs hm' => hfr j T zs (List.mem_filter.1 hm').1) (by simp only [List.length_append, List.length_map] at hm ⊢; omega) (hr v F' hR) hd' hf' hs'
        rw [unlisted_set (by omega), hun i, List.mem_append, List.mem_append, hmem i]
        exact ⟨fun ⟨h1, h2⟩ => h1.elim (fun h => .inl ⟨h, h2⟩) .inr, fun h1 => h1.elim (fun h => ⟨.inl h.1, h.2⟩) (fun h => ⟨.inr h, fun e => hjτ (e ▸ h)⟩)⟩
      have go0 : ∀ (o : Oper) (R : List Ck → Prop), ops[j']? = some o → (∀ F', R F' → DW C ops B tl (without j' π) σ F') →
          wpList C.P ops (QN fun a w => a.defers = [] ∧ ∃ F', R F' ∧ Fits C.n σ a.tmps ∧ Sat C.w0 C.X w (B ++ (F' ++ E))) [o] a w →
          wpOp C.P ops (QN Kf) j' (wpAny C.P .any ops (QN Kf) m (L.setIfInBounds j' true)) a w := by
        intro o R ho hr hw
        refine wpOp_of_list ho hw fun a' w' ⟨hd', F', hR, hf', hs'⟩ => ?_
        refine ih (without j' π) (L.setIfInBounds j' true) σ F' E a' w' (by simpa using hL) (fun i => ?_) (fun i hi => hdn i ((hmem i).1 hi).1) (List.filter_sublist.trans hsub) (hndp.sublist (List.filter_sublist.map _)) (closed_set hcl hp) (okPairs_without hok)
          (fun j T zs hm' => hfr j T zs (List.mem_filter.1 hm').1) (by simp only [List.length_append, List.length_map] at hm ⊢; omega) (hr F' hR) hd' hf' hs'
        rw [unlisted_set (by omega), hun i, List.mem_append, List.mem_append, hmem i]
        exact ⟨fun ⟨h1, h2⟩ => h1.elim (fun h => .inl ⟨h, h2⟩) .inr, fun h1 => h1.elim (fun h => ⟨.inl h.1, h.2⟩) (fun h => ⟨.inr h, fun e => hjτ (e ▸ h)⟩)⟩
      cases kd with
      | free T zs =>
        obtain ⟨o, d, ho, hdst, hAS⟩ := hfr _ _ _ hjm
        exact go o d (fun v F' => ∃ ch, NewVar T zs v ch ∧ F' = ch ++ F) ho (fun v F' ⟨ch, h1, h2⟩ => h2 ▸ hT o d ho hdst v ch h1) (wpList_mono_QN (fun a w ⟨h1, v, ch, h2, h3, h4⟩ => ⟨h1, v, ch ++ F, ⟨ch, h2, rfl⟩, h3, h4⟩) (hAS.run0 hd hf hs))
      | det =>
        obtain ⟨o, d, R, ho, hdst, hAS, hr⟩ := hT
        exact go o d (fun v F' => ∃ ch, R v ch ∧ F' = ch ++ F) ho (fun v F' ⟨ch, h1, h2⟩ => h2 ▸ hr v ch h1) (wpList_mono_QN (fun a w ⟨h1, v, ch, h2, h3, h4⟩ => ⟨h1, v, ch ++ F, ⟨ch, h2, rfl⟩, h3, h4⟩) (hAS.run hd hf hs))
      | detB =>
        obtain ⟨o, d, R, ho, hdst, hAS, hr⟩ := hT
        exact go o d (fun v F' => ∃ ch, R v ch ∧ F' = ch ++ F) ho (fun v F' ⟨ch, h1, h2⟩ => h2 ▸ hr v ch h1) (wpList_mono_QN (fun a w ⟨h1, v, ch, h2, h3, h4⟩ => ⟨h1, v, ch ++ F, ⟨ch, h2, rfl⟩, h3, h4⟩) (hAS.run hd hf hs))
      | add =>
        obtain ⟨o, d, R, ho, hdst, hAS, hr⟩ := hT
        exact go o d (fun v F' => ∃ ch, R v ch ∧ F' = ch ++ F) ho (fun v F' ⟨ch, h1, h2⟩ => h2 ▸ hr v ch h1) (wpList_mono_QN (fun a w ⟨h1, v, ch, h2, h3, h4⟩ => ⟨h1, v, ch ++ F, ⟨ch, h2, rfl⟩, h3, h4⟩) (hAS.run hd hf hs))
      | chg =>
        obtain ⟨o, d, R, ho, hdst, hXS, hr⟩ := hT
        exact go o d R ho hr (hXS.run hd hf hs)
      | sto =>
        obtain ⟨o, R, ho, hdst, hZS, hr⟩ := hT
        exact go0 o R ho hr (hZS.run hd hf hs)



def okDrawF (ops : Array Oper) (π : List (Nat × Kd)) (τ : List Nat) (f : Nat) : Bool :=
  let A := ancs ops
  okCert ops A && okPairs ops A π && chainB ops A f τ && okTail A [] τ && τ.all (fun t => (π.map (·.1)).all fun i => i == f || (A.getD t []).contains i) && decide (π.map (·.1) ++ τ).Nodup &&
    π.all (fun p => !(p.1 == f) || (match p.2 with | .det => true | _ => false)) && (List.range ops.size).all (fun j => (π.map (·.1) ++ τ).contains j) && (π.map (·.1) ++ τ).all (·.blt ops.size) && (π.map (·.1) ++ τ).length == ops.size
theorem gw_env {k : List Item} {σ' : Env} (hl : ∀ t, look σ t = look σ' t) (h : GW C k σ B F) : GW C k σ' B F :=
  fun E a w hd hf hs => h E a w hd ⟨hf.1, fun i v hi => hf.2 i v (by rw [← hl i]; exact hi)⟩ hs
theorem FP.congr {f : Nat} {σ' : Env} (hl : ∀ t, look σ t = look σ' t) (h : FP C ops f σ) : FP C ops f σ' := by
  obtain ⟨o, d, v, ho, hd, hn, hA⟩ := h
  refine ⟨o, d, v, ho, hd, by rw [← hl]; exact hn, ?_⟩
  rw [← restr_congr (L := o.looksAt ops) fun t _ => hl t]
  exact hA
theorem gw_drawF {id : Nat} {l : List Oper} {k : List Item} {env : Env} (π : List (Nat × Kd)) (τ : List Nat) (f : Nat) (hmix : C.P.follows .mixedOrders = true) (hok : okDrawF l.toArray π τ f = true) (hfr : FreeOk C l.toArray π)
    (h : DW C l.toArray B (fun σ F => FP C l.toArray f σ ∧ CW C l.toArray (fun σ B F => GW C k σ B F) τ σ B F) π env F) : GW C (.code (.region id l.toArray true) :: k) env B F := by
  intro E a w hd hf hs
  simp only [okDrawF, Bool.and_eq_true] at hok
  obtain ⟨⟨⟨⟨⟨⟨⟨⟨⟨hc, hp⟩, hch⟩, hot⟩, hfar⟩, hnd⟩, hdet⟩, hcov⟩, hlt⟩, hlen⟩ := hok
  have hnd := of_decide_eq_true hnd
  have hnd' := List.nodup_append.1 hnd
  simp only [chainB, Bool.and_eq_true] at hch
  refine good_region (wp_region_any hmix ?_)
  have hlt' : ∀ j ∈ π.map (·.1) ++ τ, j < l.toArray.size := fun j hj => by simpa using List.all_eq_true.1 hlt j hj
  have htl : ∀ (σ σ' : Env) (B F F' : List Ck), (∀ t, look σ t = look σ' t) → F.Perm F' → GW C k σ B F → GW C k σ' B F' := fun σ σ' B F F' hl hp' h' => gw_perm (hp'.symm.append_left B) (gw_env hl h')
  have hend : ∀ (σ : Env) (B F E : List Ck) (a : Act) (w : World), GW C k σ B F → a.defers = [] → Fits C.n σ a.tmps → Sat C.w0 C.X w (B ++ (F ++ E)) → wpList C.P l.toArray (QN fun a w => a.defers = [] ∧ Good C.P C.f C.R k a w) [] a w :=
    fun σ B F E a w h hd hf hs => ⟨hd, h E a w hd hf hs⟩
  refine dwF_sound (f := f) (π0 := π) (tl := fun σ F => FP C l.toArray f σ ∧ CW C l.toArray (fun σ B F => GW C k σ B F) τ σ B F) (fun σ σ' F F' hl hp' h' => ⟨h'.1.congr hl, CW.congr htl τ _ _ _ _ _ hl hp' h'.2⟩) hc (done := π.map (·.1)) (τ := τ)
    (fun m kd L σ F E a w hL hun hcl hm h' hmem hd' hf' hs' => ?_)
    (fun m L σ F E a w hL hun hcl hm h' hd' hf' hs' => tail1 (tl := fun σ B F => GW C k σ B F) hc hend m τ [] L σ B F E a w hL hun hcl hot hnd'.2.1 hm h'.2 hd' hf' hs') ?_ (fun t ht hi => hnd'.2.2 t hi t ht rfl) _ π _ env F E a _ (by simp) (fun j => ?_) (fun i hi => hi) (List.Sublist.refl _) hnd'.1 ?_ hp hfr ?_ h hd hf hs.drew
  · have hk : kd = .det := by
      have h1 := List.all_eq_true.1 hdet _ hmem
      cases kd <;> simp at h1 ⊢
    subst hk
    obtain ⟨o, d, v0, ho, hdst, _, ⟨o', d', v, ho', hdst', hlk, hAS⟩, hcw⟩ := h'
    rw [ho] at ho'; cases ho'
    rw [hdst] at hdst'; cases hdst'
    have hv : v0 = v := by simpa [look] using hlk
    subst hv
    have hdf : dstOf l.toArray f = some d := by simp only [dstOf, ho, Option.bind_some, hdst]
    have hlf : looksOf l.toArray f = o.looksAt l.toArray := by simp only [looksOf, ho]
    have hdl : d ∉ o.looksAt l.toArray := by
      have h1 := hch.2
      rw [hdf, hlf] at h1
      simpa using h1
    have hre : restr ((d, v0) :: σ) (o.looksAt l.toArray) = restr σ (o.looksAt l.toArray) := restr_congr fun t ht => look_cons_ne v0 (fun e => hdl (e ▸ ht))
    rw [hre] at hAS
    refine tailF (tl := fun σ B F => GW C k σ B F) hc hend htl ho hdst m τ [] L σ B F E a w hL hun hcl (fun hfτ => ?_) (fun t ht => ?_) hot hnd'.2.1 hm hAS hcw hd' hf' hs'
    · exact hnd'.2.2 f (List.mem_map.2 ⟨_, hmem, rfl⟩) f hfτ rfl
    · have h1 := List.all_eq_true.1 hch.1 t ht
      rw [Bool.or_eq_true] at h1
      exact h1.imp (fun h => by simpa using h) (fun h => h)
  · intro t ht i hi hif
    have h1 := List.all_eq_true.1 (List.all_eq_true.1 hfar t ht) i hi
    simp only [Bool.or_eq_true, beq_iff_eq] at h1
    simpa using h1.resolve_left hif
  · constructor
    · intro hj
      have := unlisted_lt hj
      simp only [Array.size_replicate] at this
      simpa using List.all_eq_true.1 hcov j (List.mem_range.2 this)
    · intro hj
      have := hlt' j hj
      simp only [Array.getD_eq_getD_getElem?, Array.getElem?_replicate, if_pos this]
      rfl
  · intro j hj hjn p _
    simp only [Array.getD_eq_getD_getElem?, Array.getElem?_replicate, if_pos hjn] at hj
    cases hj
  · simp only [beq_iff_eq] at hlen
    omega
end
section
variable {C : Cx} {ops : Array Oper} {B F : List Ck} {σ : Env} {o : Oper} {d j f : Nat} {τ : List Nat} {k : List Item} {tl : Env → List Ck → List Ck → Prop}
theorem fp_of {v : Value} (ho : ops[f]? = some o) (hd : o.dst = some d) (hn : look σ d = some v) (ha : ∀ K, RW C ops [] K ((d, v) :: restr σ (o.looksAt ops)) [] [] → RW C ops [o] K (restr σ (o.looksAt ops)) [] []) : FP C ops f σ :=
  ⟨o, d, v, ho, hd, hn, fun K hK => ha K (rw_nil fun V E a w hdf hf hs => hK v [] ⟨rfl, rfl⟩ V E a w hdf hf (by simpa using hs))⟩
theorem cw_take {c : Ck} (h : CW C ops (fun σ B F => GW C k σ B F) τ σ (c :: B) F) : CW C ops (fun σ B F => GW C k σ B F) τ σ B ([c] ++ F) := by
  cases τ with
  | nil => exact gw_perm (by simp) h
  | cons j τ =>
    obtain ⟨o, dv, B1, F1, ho, hd, hC, hr⟩ := h
    exact ⟨o, dv, B1, F1, ho, hd, fun K hK => rw_perm (by simp) (hC K hK), hr⟩
theorem cw_nil (h : tl σ B F) : CW C ops tl [] σ B F := h
theorem cw_det {v : Value} (ho : ops[j]? = some o) (hd : o.dst = some d) (ha : ∀ K, RW C ops [] K ((d, v) :: restr σ (o.looksAt ops)) B F → RW C ops [o] K (restr σ (o.looksAt ops)) B F) (h : CW C ops tl τ ((d, v) :: σ) B F) : CW C ops tl (j :: τ) σ B F :=
  ⟨o, some (d, v), B, F, ho, hd, fun K hK => ha K (rw_nil fun V E a w hdf hf hs => hK V E a w hdf hf hs), h⟩
theorem cw_st {B' : List Ck} (ho : ops[j]? = some o) (hd : o.dst = none) (ha : ∀ K, RW C ops [] K (restr σ (o.looksAt ops)) B' F → RW C ops [o] K (restr σ (o.looksAt ops)) B F) (h : CW C ops tl τ σ B' F) : CW C ops tl (j :: τ) σ B F :=
  ⟨o, none, B', F, ho, hd, fun K hK => ha K (rw_nil fun V E a w hdf hf hs => hK V E a w hdf hf hs), h⟩
end
end SL
end Go.Proofs.Ytbhnekiclbfmgaa
