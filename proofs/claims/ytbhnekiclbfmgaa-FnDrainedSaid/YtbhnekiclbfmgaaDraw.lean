/- Senders and receivers as they are drawn: what their operations keep. No program in sight. -/
import Derived.Test.YtbhnekiclbfmgaaOver
namespace Go.Proofs.Ytbhnekiclbfmgaa
def rmGo (r : Range) : List Range → List Range
  | [] => []
  | x :: l => (bif decide (x.low < min x.high r.low) then [⟨x.low, min x.high r.low⟩] else []) ++ ((bif decide (max x.low r.high < x.high) then [⟨max x.low r.high, x.high⟩] else []) ++ rmGo r l)
def removeRange (l : List Range) (r : Range) : List Range := bif isRanges l && isRange r then rmGo r l else l
theorem rmGo_vf {r : Range} (hr : r.low < r.high) : ∀ {l : List Range} {b : Int}, Vf b l → Vf b (rmGo r l)
  | [], _, _ => trivial
  | x :: l, b, h => by
    have ih := rmGo_vf hr h.2.2.2
    obtain ⟨h1, h2, h3, _⟩ := h
    unfold rmGo
    cases e1 : decide (x.low < min x.high r.low) with
    | true =>
      have e1 := of_decide_eq_true e1
      cases e2 : decide (max x.low r.high < x.high) with
      | true =>
        have e2 := of_decide_eq_true e2
        exact ⟨h1, e1, by show min x.high r.low ≤ maxQuic; omega, by show min x.high r.low < max x.low r.high; omega, e2, h3, ih⟩
      | false => exact ⟨h1, e1, by show min x.high r.low ≤ maxQuic; omega, ih.weaken (by show min x.high r.low ≤ x.high; omega)⟩
    | false =>
      cases e2 : decide (max x.low r.high < x.high) with
      | true =>
        have e2 := of_decide_eq_true e2
        exact ⟨by show b < max x.low r.high; omega, e2, h3, ih⟩
      | false => exact ih.weaken (by omega)
theorem rmGo_hb {r : Range} {e : Int} : ∀ {l : List Range}, Hb e l → Hb e (rmGo r l)
  | [], h => h
  | x :: l, h => by
    have ih := rmGo_hb (r := r) h.cons.2
    have hx := h.cons.1
    intro y hy
    unfold rmGo at hy
    rcases List.mem_append.1 hy with hy | hy
    · cases e1 : decide (x.low < min x.high r.low) with
      | true => rw [e1, cond_true] at hy; obtain rfl := List.mem_singleton.1 hy; show min x.high r.low ≤ e; omega
      | false => rw [e1, cond_false] at hy; cases hy
    · rcases List.mem_append.1 hy with hy | hy
      · cases e2 : decide (max x.low r.high < x.high) with
        | true => rw [e2, cond_true] at hy; obtain rfl := List.mem_singleton.1 hy; exact hx
        | false => rw [e2, cond_false] at hy; cases hy
      · exact ih y hy
theorem removeRange_vf {l : List Range} {r : Range} (h : Vf (-1) l) : Vf (-1) (removeRange l r) := by
  unfold removeRange
  cases hr : isRanges l && isRange r with
  | false => exact h
  | true =>
    simp only [Bool.and_eq_true, isRange, decide_eq_true_eq] at hr
    exact rmGo_vf hr.2.1.2 h
theorem removeRange_hb {l : List Range} {r : Range} {e : Int} (h : Hb e l) : Hb e (removeRange l r) := by
  unfold removeRange
  cases isRanges l && isRange r with
  | false => exact h
  | true => exact rmGo_hb h
theorem Vf.len : ∀ {l : List Range} {b e : Int}, Vf b l → Hb e l → b ≤ e → (l.length : Int) ≤ e - b
  | [], b, e, _, _, h => by simp only [List.length_nil]; omega
  | x :: l, b, e, h, hb, _ => by
    have h1 := h.2.2.2.len hb.cons.2 hb.cons.1
    have h2 := h.1; have h3 := h.2.1
    simp only [List.length_cons]; omega
theorem Hb.mono {e e' : Int} {l : List Range} (h : Hb e l) (he : e ≤ e') : Hb e' l := fun x hx => Int.le_trans (h x hx) he
theorem hb_snoc {e : Int} {o : List Range} {y : Range} (h : Hb e o) (hy : y.high ≤ e) : Hb e (o ++ [y]) := fun x hx => by
  rcases List.mem_append.1 hx with hx | hx
  · exact h x hx
  · obtain rfl := List.mem_singleton.1 hx; exact hy
/-- A place lies in one of the ranges. -/
def Cov (l : List Range) (n : Int) : Prop := ∃ q ∈ l, q.low ≤ n ∧ n < q.high
theorem addGo_cov : ∀ {l : List Range} {r : Range} {pl : Bool} {n : Int}, Cov (addGo r pl l) n → Cov l n ∨ (r.low ≤ n ∧ n < r.high)
  | [], r, pl, n, ⟨q, hq, h⟩ => by
    cases pl with
    | true => cases hq
    | false => obtain rfl := List.mem_singleton.1 hq; exact .inr h
  | x :: l, r, pl, n, ⟨q, hq, h⟩ => by
    have put : ∀ {r' : Range}, Cov l n ∨ (r'.low ≤ n ∧ n < r'.high) → Cov (x :: l) n ∨ (r'.low ≤ n ∧ n < r'.high) := fun hh => hh.imp (fun ⟨q, hq, h⟩ => ⟨q, List.mem_cons_of_mem _ hq, h⟩) id
    unfold addGo at hq
    cases e1 : decide (x.high < r.low) with
    | true =>
      rw [e1, cond_true] at hq
      rcases List.mem_cons.1 hq with rfl | hq
      · exact .inl ⟨q, List.mem_cons_self .., h⟩
      · exact put (addGo_cov ⟨q, hq, h⟩)
    | false =>
      rw [e1, cond_false] at hq
      cases e2 : decide (r.high < x.low) with
      | true =>
        rw [e2, cond_true] at hq
        cases pl with
        | true =>
          rw [cond_true] at hq
          rcases List.mem_cons.1 hq with rfl | hq
          · exact .inl ⟨q, List.mem_cons_self .., h⟩
          · exact put (addGo_cov ⟨q, hq, h⟩)
        | false =>
          rw [cond_false] at hq
          rcases List.mem_cons.1 hq with rfl | hq
          · exact .inr h
          · rcases List.mem_cons.1 hq with rfl | hq
            · exact .inl ⟨q, List.mem_cons_self .., h⟩
            · exact put (addGo_cov ⟨q, hq, h⟩)
      | false =>
        rw [e2, cond_false] at hq
        have e1 := of_decide_eq_false e1; have e2 := of_decide_eq_false e2
        rcases addGo_cov ⟨q, hq, h⟩ with ⟨p, hp, h'⟩ | h'
        · exact .inl ⟨p, List.mem_cons_of_mem _ hp, h'⟩
        · have h1 : min r.low x.low ≤ n := h'.1
          have h2 : n < max r.high x.high := h'.2
          by_cases h3 : r.low ≤ n ∧ n < r.high
          · exact .inr h3
          · exact .inl ⟨x, List.mem_cons_self .., by omega⟩
theorem addRange_cov {l : List Range} {r : Range} {n : Int} (h : Cov (addRange l r) n) : Cov l n ∨ (r.low ≤ n ∧ n < r.high) := by
  unfold addRange at h
  cases e : isRanges l && isRange r with
  | false => rw [e] at h; exact .inl h
  | true => rw [e] at h; exact addGo_cov h
/-! ### rings -/
def roomOf (r : Ring) : Int := bif isRing r then min (w64 (r.size - w64 (r.fin - r.base))) (w64 (4611686018427387903 - r.fin)) else 0
theorem ring_size {r : Ring} (h : isRing r = true) : (1 ≤ r.size ∧ r.size ≤ 64) ∧ (r.cells.length : Int) = r.size := by
  simp only [isRing, isRingSize, within, Bool.and_eq_true, decide_eq_true_eq, beq_iff_eq] at h
  exact ⟨h.1.1.1.1.1, h.1.1.1.2⟩
theorem place {s p : Int} {n : Nat} (hs : 1 ≤ s) (hn : (n : Int) = s) (hp : 0 ≤ p) : ∃ k : Nat, p.tmod s = (k : Int) ∧ k < n := by
  refine ⟨(p.tmod s).toNat, (Int.toNat_of_nonneg (Int.tmod_nonneg s hp)).symm, ?_⟩
  have h1 := Int.tmod_lt_of_pos p (show (0 : Int) < s by omega)
  have h2 := Int.tmod_nonneg s hp
  omega
theorem ring_at {r : Ring} {i : Nat} {m : Int} (h : decide ((i : Int) < min (roomOf r) m) = true) : ∃ k : Nat, (w64 (r.fin + (i : Int))).tmod r.size = (k : Int) ∧ k < r.cells.length := by
  have h := of_decide_eq_true h
  unfold roomOf at h
  cases e : isRing r with
  | false => rw [e] at h; simp only [cond_false] at h; omega
  | true =>
    rw [e] at h; simp only [cond_true] at h
    obtain ⟨h1, h2, h3⟩ := isRing_end e
    obtain ⟨⟨h4, h5⟩, h6⟩ := ring_size e
    simp only [maxQuic] at h3
    simp only [w64_emod] at h ⊢
    exact place h4 h6 (by omega)
theorem ring_ne {r : Ring} {i : Nat} {m : Int} (h : decide ((i : Int) < min (roomOf r) m) = true) : r.size ≠ 0 := by
  have h := of_decide_eq_true h
  unfold roomOf at h
  cases e : isRing r with
  | false => rw [e] at h; simp only [cond_false] at h; omega
  | true => have := (ring_size e).1; omega
theorem dr_step {a t : Int} (h : 0 ≤ a) (ht : t ≤ 4611686018427387903) (hl : a < t) : 0 ≤ w64 (a + 1) := by rw [w64_emod]; omega
theorem dr_meas {a t : Int} (h : 0 ≤ a) (ht : t ≤ 4611686018427387903) (hl : a < t) : (t - w64 (a + 1)).toNat < (t - a).toNat := by rw [w64_emod]; omega
def pieceIn (s : Sender) (p : Piece) : Bool := decide (0 ≤ p.offset) && decide (p.offset ≤ s.ring.fin) && decide ((p.data.size : Int) ≤ w64 (s.ring.fin - p.offset)) && (!p.fin || (!(s.final == -1) && (w64 (p.offset + (p.data.size : Int)) == s.final)))
theorem pieceIn_end {s : Sender} {p : Piece} (h : pieceIn s p = true) (h1 : s.ring.fin ≤ 4611686018427387903) : 0 ≤ p.offset ∧ w64 (p.offset + (p.data.size : Int)) ≤ s.ring.fin := by
  simp only [pieceIn, Bool.and_eq_true, decide_eq_true_eq] at h
  obtain ⟨⟨⟨h2, h3⟩, h4⟩, _⟩ := h
  refine ⟨h2, ?_⟩
  simp only [w64_emod] at h4 ⊢; omega
/-- A sender as it is drawn: its ranges are ranges, and end at or below what was written. -/
structure FineS (K : Nat) (s : Sender) : Prop where
  p : Vf (-1) s.pending
  f : Vf (-1) s.flight
  a : Vf (-1) s.acked
  hp : Hb s.ring.fin s.pending
  hf : Hb s.ring.fin s.flight
  ha : Hb s.ring.fin s.acked
  e0 : 0 ≤ s.ring.fin
  eK : s.ring.fin ≤ (K : Int)
  c : s.ring.cells.length ≤ 64
theorem FineS.bounded {K : Nat} {s : Sender} (h : FineS K s) : Bounded s := ⟨h.hp, h.hf, h.ha⟩
theorem FineS.lens {K : Nat} {s : Sender} (h : FineS K s) (hK : K ≤ 100000) : s.pending.length ≤ 100001 ∧ s.flight.length ≤ 100001 ∧ s.acked.length ≤ 100001 := by
  have h1 := h.p.len h.hp (by have := h.e0; omega)
  have h2 := h.f.len h.hf (by have := h.e0; omega)
  have h3 := h.a.len h.ha (by have := h.e0; omega)
  have := h.eK
  omega
theorem FineS.le {K : Nat} {s : Sender} (h : FineS K s) (hK : K ≤ 100000) : s.le 1048576 := by
  obtain ⟨h1, h2, h3⟩ := h.lens hK
  have h4 := h.c
  exact ⟨by omega, by omega, by omega, by omega⟩
theorem FineS.mono {K K' : Nat} {s : Sender} (h : FineS K s) (hK : K ≤ K') : FineS K' s := ⟨h.p, h.f, h.a, h.hp, h.hf, h.ha, h.e0, by have := h.eK; omega, h.c⟩
theorem room_nonneg (r : Ring) : 0 ≤ roomOf r := by
  unfold roomOf
  cases e : isRing r with
  | false => exact Int.le_refl _
  | true =>
    simp only [cond_true, w64_emod]
    have h1 := isRing_end e; have h2 := ring_size e
    simp only [isRing, within, isQuic, Bool.and_eq_true, decide_eq_true_eq, maxQuic, w64_emod] at e
    simp only [maxQuic] at h1
    omega
theorem FineS.write {K D : Nat} {s : Sender} {L : List Int} (h : FineS K s) (hK : K ≤ 100000) (hD : D ≤ 1000) (hL : L.length = s.ring.cells.length) :
    FineS (K + D) { s with pending := addRange s.pending ⟨s.ring.fin, w64 (s.ring.fin + min (roomOf s.ring) (D : Int))⟩, ring := { s.ring with fin := w64 (s.ring.fin + min (roomOf s.ring) (D : Int)), cells := L } } ∧
    FineS (K + D) { s with ring := { s.ring with fin := w64 (s.ring.fin + min (roomOf s.ring) (D : Int)), cells := L } } := by
  have h0 := room_nonneg s.ring
  have he : w64 (s.ring.fin + min (roomOf s.ring) (D : Int)) = s.ring.fin + min (roomOf s.ring) (D : Int) := by
    have := h.e0; have := h.eK; rw [w64_emod]; omega
  rw [he]
  have hge : s.ring.fin ≤ s.ring.fin + min (roomOf s.ring) (D : Int) := by omega
  have hK' : s.ring.fin + min (roomOf s.ring) (D : Int) ≤ ((K + D : Nat) : Int) := by have := h.eK; omega
  have hc : L.length ≤ 64 := by rw [hL]; exact h.c
  exact ⟨⟨addRange_vf h.p, h.f, h.a, addRange_hb (h.hp.mono hge) (Int.le_refl _), h.hf.mono hge, h.ha.mono hge, Int.le_trans h.e0 hge, hK', hc⟩,
    ⟨h.p, h.f, h.a, h.hp.mono hge, h.hf.mono hge, h.ha.mono hge, Int.le_trans h.e0 hge, hK', hc⟩⟩
end Go.Proofs.Ytbhnekiclbfmgaa
