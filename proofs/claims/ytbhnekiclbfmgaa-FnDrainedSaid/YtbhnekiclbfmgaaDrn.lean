/- A sender that is drained: what each operation keeps. No program in sight. -/
import Derived.Test.YtbhnekiclbfmgaaAlg
namespace Go.Proofs.Ytbhnekiclbfmgaa
open SL
def partA (p f a : List Range) (n : Int) : Prop := (Cov p n ∧ ¬ Cov f n ∧ ¬ Cov a n) ∨ (¬ Cov p n ∧ Cov f n ∧ ¬ Cov a n) ∨ (¬ Cov p n ∧ ¬ Cov f n ∧ Cov a n)
/-- Valid, but for the state. -/
structure VC (W : Nat) (s : Sender) : Prop where
  hW : W ≤ 16
  size : s.ring.size = 16
  len : s.ring.cells.length = 16
  byte : ∀ c ∈ s.ring.cells, within c 0 255 = true
  rfin : s.ring.fin = W
  base : s.ring.base = firstGap s.acked 0
  vp : Vf (-1) s.pending
  vf : Vf (-1) s.flight
  va : Vf (-1) s.acked
  xp : Hb W s.pending
  xf : Hb W s.flight
  xa : Hb W s.acked
  part : ∀ n : Int, 0 ≤ n → n < W → partA s.pending s.flight s.acked n
  sent0 : 0 ≤ s.sent
  sentW : s.sent ≤ W
  sf : Hb s.sent s.flight
  sa : Hb s.sent s.acked
  fn : 1 ≤ s.fin ∧ s.fin ≤ 3
  final : s.final = W
  code : s.code = 0
structure VS (W : Nat) (s : Sender) : Prop extends VC W s where
  st : s.state = following s
theorem following_range (s : Sender) : 0 ≤ following s ∧ following s ≤ 3 := by
  unfold following
  cases (s.fin == 3 && s.ring.base == s.ring.fin) <;> cases (s.fin == 2 || s.fin == 3 || s.fin == 1 && s.state == 2) <;> cases (decide (0 < s.sent) || s.fin == 1 && s.state == 1) <;> decide
theorem following_idem (s : Sender) : following { s with state := following s } = following s := by
  unfold following
  simp only
  cases h1 : (s.fin == 3 && s.ring.base == s.ring.fin) with
  | true => simp [h1]
  | false =>
    cases h2 : (s.fin == 2 || s.fin == 3 || s.fin == 1 && s.state == 2) with
    | true =>
      simp only [h1, h2, cond_true, cond_false]
      cases h3 : (s.fin == 2) <;> cases h4 : (s.fin == 3) <;> cases h5 : (s.fin == 1) <;> simp_all
    | false =>
      cases h3 : (decide (0 < s.sent) || s.fin == 1 && s.state == 1) with
      | true =>
        simp only [h1, h2, h3, cond_true, cond_false]
        cases h4 : (s.fin == 2) <;> cases h5 : (s.fin == 3) <;> cases h6 : (s.fin == 1) <;> simp_all
      | false =>
        have hd : decide (0 < s.sent) = false := by simp only [Bool.or_eq_false_iff] at h3; exact h3.1
        simp only [h1, h2, h3, cond_false]
        rw [hd]
        cases h4 : (s.fin == 2) <;> cases h5 : (s.fin == 3) <;> cases h6 : (s.fin == 1) <;> simp_all
theorem gapd_le {l : List Range} {e : Int} (h : Vf (-1) l) (hb : Hb e l) (he : 0 ≤ e) : 0 ≤ firstGap l 0 ∧ firstGap l 0 ≤ e := by
  cases l with
  | nil => exact ⟨by decide, by show (0 : Int) ≤ e; exact he⟩
  | cons r t =>
    rw [gap_cons h]
    have := hb.cons.1; have := h.1; have := h.2.1
    split <;> omega
theorem VC.gap {W : Nat} {s : Sender} (h : VC W s) : 0 ≤ s.ring.base ∧ s.ring.base ≤ W := by
  rw [h.base]; exact gapd_le h.va h.xa (by omega)
theorem VC.ring {W : Nat} {s : Sender} (h : VC W s) : isRing s.ring = true := by
  obtain ⟨g0, g1⟩ := h.gap
  have h16 := h.hW
  have hall : s.ring.cells.all (fun n => within n 0 255) = true := List.all_eq_true.2 h.byte
  unfold isRing
  rw [h.size, h.len, h.rfin, hall, w64_id (by omega) (by omega)]
  have e1 : isRingSize 16 = true := by decide
  have e2 : isQuic s.ring.base = true := by simp only [isQuic, within, Bool.and_eq_true, decide_eq_true_eq]; omega
  have e3 : within (W : Int) s.ring.base (min (s.ring.base + 16) maxQuic) = true := by
    simp only [within, maxQuic, Bool.and_eq_true, decide_eq_true_eq]; omega
  rw [e1, e2, e3]; rfl
theorem part_b {p f a : List Range} {W : Nat} (h : ∀ n : Int, 0 ≤ n → n < W → partA p f a n) (i : Nat) (hi : i < W) :
    (covB p i = true ∧ covB f i = false ∧ covB a i = false) ∨ (covB p i = false ∧ covB f i = true ∧ covB a i = false) ∨ (covB p i = false ∧ covB f i = false ∧ covB a i = true) := by
  have f0 : ∀ {l : List Range}, ¬ Cov l i → covB l i = false := fun h => by
    cases hc : covB _ i with
    | false => rfl
    | true => exact absurd (covB_iff.1 hc) h
  rcases h i (by omega) (by omega) with ⟨h1, h2, h3⟩ | ⟨h1, h2, h3⟩ | ⟨h1, h2, h3⟩
  · exact .inl ⟨covB_iff.2 h1, f0 h2, f0 h3⟩
  · exact .inr (.inl ⟨f0 h1, covB_iff.2 h2, f0 h3⟩)
  · exact .inr (.inr ⟨f0 h1, f0 h2, covB_iff.2 h3⟩)
theorem VC.whole {W : Nat} {s : Sender} (h : VC W s) : areWhole s.pending s.flight s.acked s.ring.fin = true := by
  rw [h.rfin]
  exact whole_of h.vp h.vf h.va h.xp h.xf h.xa (by have := h.hW; unfold maxQuic; omega) (part_b h.part)
theorem VS.ok {W : Nat} {s : Sender} (h : VS W s) : isSender s = true := by
  have hr := following_range s
  have hst := h.st
  have h1 := h.hW
  have hb : senderBase s = true := by
    unfold senderBase
    rw [h.toVC.ring, (vf_iff _).2 h.vp, (vf_iff _).2 h.vf, (vf_iff _).2 h.va, h.rfin, h.code]
    have e1 : within s.sent 0 (W : Int) = true := by have := h.sent0; have := h.sentW; simp only [within, Bool.and_eq_true, decide_eq_true_eq]; omega
    have e2 : within s.fin 0 3 = true := by have := h.fn; simp only [within, Bool.and_eq_true, decide_eq_true_eq]; omega
    rw [e1, e2]; rfl
  have h4 : (s.state == 4) = false := by rw [beq_eq_false_iff_ne]; omega
  have h5 : (s.state == 5) = false := by rw [beq_eq_false_iff_ne]; omega
  have h6 : (s.fin == 0) = false := by rw [beq_eq_false_iff_ne]; have := h.fn; omega
  unfold isSender
  rw [hb, h4, h5, h.toVC.whole, h.base, ends_hb h.sf, ends_hb h.sa, h.code, h6, h.final, h.rfin]
  simp [hst]
theorem VS.active {W : Nat} {s : Sender} (h : VS W s) (h3 : s.state ≠ 3) : s.state = 0 ∨ s.state = 1 ∨ s.state = 2 := by
  have hr := following_range s
  have hst := h.st
  omega
/-! ### what the operations do -/
def sendR (s : Sender) (r : Range) : Sender := { s with pending := removeRange s.pending r, flight := addRange s.flight r, sent := max s.sent r.high }
def takeR (s : Sender) (r : Range) : Sender := { s with flight := removeRange s.flight r, acked := addRange s.acked r }
def backR (s : Sender) (r : Range) : Sender := { s with flight := removeRange s.flight r, pending := addRange s.pending r }
def setF (s : Sender) (n : Int) : Sender := { s with fin := n }
def stF (s : Sender) : Sender := { s with state := following s }
def zeroed (size : Int) : Nat → Int → List Int → List Int
  | 0, _, l => l
  | n + 1, k, l => zeroed size n (k + 1) (l.set (k.tmod size).toNat 0)
def dropR (s : Sender) : Sender := { s with ring := { s.ring with base := firstGap s.acked 0, cells := zeroed s.ring.size (firstGap s.acked 0 - s.ring.base).toNat s.ring.base s.ring.cells } }
theorem VC.stF {W : Nat} {s : Sender} (h : VC W s) : VS W (stF s) :=
  { h with st := (following_idem s).symm }
theorem VC.setF {W : Nat} {s : Sender} (h : VC W s) {n : Int} (hn : 1 ≤ n ∧ n ≤ 3) : VC W (setF s n) := { h with fn := hn }
theorem hb_of {l l' : List Range} {e : Int} (hv : Vf (-1) l') (h : ∀ n, Cov l' n → n < e) : Hb e l' := fun x hx => by
  have hr := hv.isRange (by omega) x hx
  simp only [isRange, Bool.and_eq_true, decide_eq_true_eq] at hr
  have := h (x.high - 1) ⟨x, hx, by omega, by omega⟩
  omega
theorem VC.sendR {W : Nat} {s : Sender} (h : VC W s) {r : Range} (hr : isRange r = true) (hW : r.high ≤ W) (hc : ∀ n, r.low ≤ n → n < r.high → Cov s.pending n) : VC W (sendR s r) := by
  have hr' := hr
  simp only [isRange, Bool.and_eq_true, decide_eq_true_eq] at hr'
  refine { h with vp := removeRange_vf h.vp, vf := addRange_vf h.vf, xp := removeRange_hb h.xp, xf := addRange_hb h.xf hW, part := fun n h0 h1 => ?_, sent0 := by have := h.sent0; show 0 ≤ max _ _; omega, sentW := by have := h.sentW; show max _ _ ≤ _; omega, sf := addRange_hb (h.sf.mono (by show _ ≤ max _ _; omega)) (by show _ ≤ max _ _; omega), sa := h.sa.mono (by show _ ≤ max _ _; omega) }
  have := h.part n h0 h1
  show partA (removeRange s.pending r) (addRange s.flight r) s.acked n
  unfold partA at this ⊢
  rw [rm_cov h.vp hr, add_cov h.vf hr]
  by_cases hi : r.low ≤ n ∧ n < r.high
  · have := hc n hi.1 hi.2
    simp_all
  · simp only [hi, not_false_eq_true, and_true, or_false]; exact this
theorem zeroed_len (size : Int) : ∀ (n : Nat) (k : Int) (l : List Int), (zeroed size n k l).length = l.length
  | 0, _, _ => rfl
  | n + 1, k, l => by rw [zeroed, zeroed_len, List.length_set]
theorem zeroed_byte (size : Int) : ∀ (n : Nat) (k : Int) (l : List Int), (∀ c ∈ l, within c 0 255 = true) → ∀ c ∈ zeroed size n k l, within c 0 255 = true
  | 0, _, _, h => h
  | n + 1, k, l, h => zeroed_byte size n (k + 1) _ fun c hc => by
    rcases List.mem_or_eq_of_mem_set hc with hc | rfl
    · exact h c hc
    · decide
theorem high_le {l : List Range} {e : Int} {r : Range} (hr : isRange r = true) (hb : Hb e l) (hc : ∀ n, r.low ≤ n → n < r.high → Cov l n) : r.high ≤ e := by
  simp only [isRange, Bool.and_eq_true, decide_eq_true_eq] at hr
  have := hb.cov_lt (hc (r.high - 1) (by omega) (by omega))
  omega
theorem VC.ackR {W : Nat} {s : Sender} (h : VC W s) {r : Range} (hr : isRange r = true) (hc : ∀ n, r.low ≤ n → n < r.high → Cov s.flight n) : VC W (dropR (takeR s r)) := by
  have hs := high_le hr h.sf hc
  have hW := high_le hr h.xf hc
  refine { h with len := by show (zeroed _ _ _ _).length = 16; rw [zeroed_len]; exact h.len, byte := zeroed_byte _ _ _ _ h.byte, base := rfl, vf := removeRange_vf h.vf, va := addRange_vf h.va, xf := removeRange_hb h.xf, xa := addRange_hb h.xa hW, part := fun n h0 h1 => ?_, sf := removeRange_hb h.sf, sa := addRange_hb h.sa hs }
  have := h.part n h0 h1
  show partA s.pending (removeRange s.flight r) (addRange s.acked r) n
  unfold partA at this ⊢
  rw [rm_cov h.vf hr, add_cov h.va hr]
  by_cases hi : r.low ≤ n ∧ n < r.high
  · have := hc n hi.1 hi.2
    simp_all
  · simp only [hi, not_false_eq_true, and_true, or_false]; exact this
theorem VC.loseR {W : Nat} {s : Sender} (h : VC W s) {r : Range} (hr : isRange r = true) (hc : ∀ n, r.low ≤ n → n < r.high → Cov s.flight n) : VC W (backR s r) := by
  have hW := high_le hr h.xf hc
  refine { h with vf := removeRange_vf h.vf, vp := addRange_vf h.vp, xf := removeRange_hb h.xf, xp := addRange_hb h.xp hW, part := fun n h0 h1 => ?_, sf := removeRange_hb h.sf }
  have := h.part n h0 h1
  show partA (addRange s.pending r) (removeRange s.flight r) s.acked n
  unfold partA at this ⊢
  rw [rm_cov h.vf hr, add_cov h.vp hr]
  by_cases hi : r.low ≤ n ∧ n < r.high
  · have := hc n hi.1 hi.2
    simp_all
  · simp only [hi, not_false_eq_true, and_true, or_false]; exact this
theorem drop_same {W : Nat} {s : Sender} (h : VC W s) : dropR s = s := by
  unfold dropR
  rw [← h.base, show (s.ring.base - s.ring.base).toNat = 0 by simp]
  rfl
/-- What is common with one range that lies within. -/
theorem com_one {l : List Range} {r : Range} (hv : Vf (-1) l) (hr : isRange r = true) (hc : ∀ n, r.low ≤ n → n < r.high → Cov l n) : comGo r l = [r] := by
  have hr' := hr
  simp only [isRange, Bool.and_eq_true, decide_eq_true_eq] at hr'
  refine canon (comGo_vf hv) (b' := -1) ⟨by omega, hr'.1.2, hr'.2, trivial⟩ fun n => ?_
  rw [comGo_cov, cov_cons]
  constructor
  · rintro ⟨_, h⟩; exact .inl h
  · rintro (h | h)
    · exact ⟨hc n h.1 h.2, h⟩
    · exact absurd h cov_nil
/-! ### what is below the base, what the ring holds -/
theorem below_gap {l : List Range} (hv : Vf (-1) l) {n : Int} (h0 : 0 ≤ n) (h : n < firstGap l 0) : Cov l n := by
  cases l with
  | nil => exact absurd h (by show ¬ n < 0; omega)
  | cons r t =>
    rw [gap_cons hv] at h
    split at h
    · exact cov_cons.2 (.inl ⟨by omega, h⟩)
    · omega
theorem gap_not {l : List Range} (hv : Vf (-1) l) : ¬ Cov l (firstGap l 0) := by
  cases l with
  | nil => exact cov_nil
  | cons r t =>
    rw [gap_cons hv]
    intro h
    have h1 := hv.2.1
    split at h
    · rcases cov_cons.1 h with h2 | h2
      · omega
      · have := hv.2.2.2.cov_lt h2; omega
    · rcases cov_cons.1 h with h2 | h2
      · have := hv.1; omega
      · have := hv.2.2.2.cov_lt h2; have := hv.1; omega
def RC (txt : List UInt8) (s : Sender) : Prop := ∀ k : Nat, s.ring.base ≤ (k : Int) → k < txt.length → s.ring.cells[k]? = (txt[k]?).map fun c => (c.toNat : Int)
theorem zeroed_get {size : Int} : ∀ (n : Nat) (b : Nat) (l : List Int) (k : Nat), ((b + n : Nat) : Int) ≤ size → b + n ≤ k → (zeroed size n (b : Int) l)[k]? = l[k]?
  | 0, _, _, _, _, _ => rfl
  | n + 1, b, l, k, hs, hk => by
    rw [zeroed, show (b : Int) + 1 = ((b + 1 : Nat) : Int) by omega, zeroed_get n (b + 1) _ k (by omega) (by omega)]
    rw [show (b : Int).tmod size = (b : Int) from Int.tmod_eq_of_lt (by omega) (by omega)]
    exact List.getElem?_set_ne (by simp; omega)
theorem RC.drop {W : Nat} {txt : List UInt8} {s t : Sender} (h : VC W s) (hg : s.ring.base ≤ firstGap t.acked 0) (hg2 : firstGap t.acked 0 ≤ W) (hr : RC txt s) (et : t.ring = s.ring) : RC txt (dropR t) := by
  intro k hk hl
  have h0 := h.gap
  have h16 := h.hW
  have hk' : firstGap t.acked 0 ≤ (k : Int) := hk
  obtain ⟨b, hb⟩ : ∃ b : Nat, s.ring.base = (b : Int) := ⟨s.ring.base.toNat, by omega⟩
  show (zeroed t.ring.size (firstGap t.acked 0 - t.ring.base).toNat t.ring.base t.ring.cells)[k]? = _
  rw [et, h.size, hb, zeroed_get _ _ _ _ (by omega) (by omega)]
  exact hr k (by omega) hl
theorem gap_grow {l : List Range} {r : Range} (hv : Vf (-1) l) (hr : isRange r = true) : firstGap l 0 ≤ firstGap (addRange l r) 0 := by
  by_cases h : firstGap (addRange l r) 0 < firstGap l 0
  · have h0 : 0 ≤ firstGap (addRange l r) 0 := (gapd_le (addRange_vf (r := r) hv) (addRange_vf (r := r) hv).hb (by decide)).1
    exact absurd ((add_cov hv hr _).2 (.inl (below_gap hv h0 h))) (gap_not (addRange_vf hv))
  · omega
end Go.Proofs.Ytbhnekiclbfmgaa
