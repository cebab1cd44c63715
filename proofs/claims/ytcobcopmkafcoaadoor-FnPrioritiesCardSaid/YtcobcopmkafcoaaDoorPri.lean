/- Priorities read back: plain laws. No program in sight. -/
import Derived.Test.YtcobcopmkafcoaaDoorMerge
namespace Go.Proofs.YtcobcopmkafcoaaDoor
open SL Go.RowKit
theorem step_eff (t : List UInt8) : ∃ (u : Option Int) (b : Option Bool), (∀ x, u = some x → 0 ≤ x ∧ x ≤ 7) ∧ ∀ p : Priority, stepP p t = ⟨u.getD p.urgency, b.getD p.incremental⟩ := by
  cases h0 : t == [105] with
  | true => exact ⟨none, some true, by simp, fun p => by rw [step_on h0]; rfl⟩
  | false =>
    cases h1 : t == [105, 61, 63, 49] with
    | true => exact ⟨none, some true, by simp, fun p => by rw [step_on2 h0 h1]; rfl⟩
    | false =>
      cases h2 : t == [105, 61, 63, 48] with
      | true => exact ⟨none, some false, by simp, fun p => by rw [step_off h0 h1 h2]; rfl⟩
      | false =>
        cases h3 : ((t.length : Int) == 3) with
        | false => exact ⟨none, none, by simp, fun p => by rw [step_len h0 h1 h2 h3]; rfl⟩
        | true =>
          obtain ⟨a, b, c, e⟩ := three_of h3
          cases h4 : ((a == 117 && b == 61) && (decide (48 ≤ c.toNat) && decide (c.toNat ≤ 55))) with
          | false => exact ⟨none, none, by simp, fun p => by rw [step_three h0 h1 h2 e, h4]; rfl⟩
          | true =>
            refine ⟨some ((c.toNat : Int) - 48), none, fun x hx => ?_, fun p => by rw [step_three h0 h1 h2 e, h4]; rfl⟩
            simp only [Bool.and_eq_true, decide_eq_true_eq] at h4
            simp only [Option.some.injEq] at hx
            omega
theorem merge_eff : ∀ L : List (List UInt8), ∃ (u : Option Int) (b : Option Bool), (∀ x, u = some x → 0 ≤ x ∧ x ≤ 7) ∧ ∀ p : Priority, mergeFrom p L = ⟨u.getD p.urgency, b.getD p.incremental⟩
  | [] => ⟨none, none, by simp, fun _ => rfl⟩
  | t :: L => by
    obtain ⟨u1, b1, h1, e1⟩ := step_eff (trim t)
    obtain ⟨u2, b2, h2, e2⟩ := merge_eff L
    refine ⟨u2.or u1, b2.or b1, fun x hx => ?_, fun p => ?_⟩
    · cases u2 with
      | none => exact h1 x (by simpa using hx)
      | some y => exact h2 x (by simpa using hx)
    · show mergeFrom (stepP p (trim t)) L = _
      rw [e2, e1]
      cases u2 <;> cases b2 <;> rfl
theorem isPri_default : isPriority defaultPriority = true := by decide
theorem base_ok (base : Priority) : isPriority (bif isPriority base then base else defaultPriority) = true := by
  cases h : isPriority base
  · exact isPri_default
  · exact h
theorem isPri_merge (base : Priority) (l : List UInt8) : isPriority (mergePriority base l) = true := by
  obtain ⟨u, b, h, e⟩ := merge_eff (pieces l)
  have key : ∀ q : Priority, isPriority q = true → isPriority ⟨u.getD q.urgency, b.getD q.incremental⟩ = true := fun q hq => by
    have h0 := pri_ok hq
    cases u with
    | none => simpa [isPriority, within] using h0
    | some x => simpa [isPriority, within] using h x rfl
  unfold mergePriority
  rw [e]
  exact key _ (base_ok base)
theorem merge_idem (base : Priority) (l : List UInt8) : mergePriority (mergePriority base l) l = mergePriority base l := by
  have h1 := isPri_merge base l
  obtain ⟨u, b, h, e⟩ := merge_eff (pieces l)
  have h2 : mergePriority (mergePriority base l) l = mergeFrom (mergePriority base l) (pieces l) := by
    rw [mergePriority, h1]; rfl
  rw [h2]
  have h3 : mergePriority base l = mergeFrom (bif isPriority base then base else defaultPriority) (pieces l) := rfl
  rw [h3, e, e]
  cases u <;> cases b <;> rfl
theorem parse_format {p : Priority} (h : isPriority p = true) : mergePriority defaultPriority (formatPriority p) = p := by
  obtain ⟨u, b⟩ := p
  rcases upto7 (pri_ok h) with h | h | h | h | h | h | h | h <;> simp only at h <;> subst h <;> cases b <;> rfl
theorem format_len (p : Priority) : (formatPriority p).length ≤ 6 := by
  unfold formatPriority
  cases isPriority p <;> cases p.incremental <;> simp
theorem cells_congr {p q : Priority} (h : p = q) : p.cells = q.cells := by rw [h]
end Go.Proofs.YtcobcopmkafcoaaDoor
