/- Rings, senders, streams: what the checks compute; where a sender's ranges end at or below its end the program and the reference agree. No program in sight. -/
import Derived.Test.YtbhnekiclbfmgaaValS
import Derived.Test.YtbhnekiclbfmgaaElems
import Derived.Laws.Entries
namespace Go.Proofs.Ytbhnekiclbfmgaa
namespace SL
open Go.RowKit
/-- A list that is read out of old memory, or out of blocks of one's own. -/
def RdB {α : Type} (w0 : World) (k : Nat) (R : World → List Value → α → Prop) (A : Option Addr) (l : List α) (ch : List Ck) : Prop :=
  (0 < l.length → A = some (adr A)) ∧ ∀ w, Below w0.heap.size w0 w → (∀ c ∈ ch, c.In w) → RdL w k R A l
theorem RdB.ext {α : Type} {w0 : World} {k : Nat} {R : World → List Value → α → Prop} {A : Option Addr} {l : List α} (hR : Keeps R) (h : RdL w0 k R A l) : RdB w0 k R A l [] :=
  ⟨fun h0 => h.some h0, fun _ hb _ => h.below hR hb⟩
theorem RdB.own {α : Type} {w0 : World} {k : Nat} {R : World → List Value → α → Prop} {A : Option Addr} {l : List α} {ch : List Ck} (h1 : 0 < l.length → A = some (adr A)) (h2 : ∀ w : World, (∀ c ∈ ch, c.In w) → RdL w k R A l) : RdB w0 k R A l ch :=
  ⟨h1, fun w _ h => h2 w h⟩
end SL
open SL Go.RowKit
theorem w64_emod (x : Int) : w64 x = (x + 9223372036854775808) % 18446744073709551616 - 9223372036854775808 := by
  have h : w64 x = if 9223372036854775808 ≤ x % 18446744073709551616 then x % 18446744073709551616 - 18446744073709551616 else x % 18446744073709551616 := by
    simp [w64, IntKind.wrap, IntKind.signed, IntKind.bits]
  rw [h]
  split <;> omega
theorem w64_add (x y : Int) : w64 (w64 x + y) = w64 (x + y) := by
  simp only [w64_emod]; omega
theorem w64_sub2 (n h l : Int) : w64 (w64 (n + h) - l) = w64 (n + w64 (h - l)) := by
  simp only [w64_emod]; omega
/-! ### ranges -/
def Vf : Int → List Range → Prop
  | _, [] => True
  | b, r :: l => b < r.low ∧ r.low < r.high ∧ r.high ≤ maxQuic ∧ Vf r.high l
theorem Vf.weaken : ∀ {l : List Range} {b b' : Int}, Vf b l → b' ≤ b → Vf b' l
  | [], _, _, _, _ => trivial
  | _ :: _, _, _, h, hb => ⟨by have := h.1; omega, h.2.1, h.2.2.1, h.2.2.2⟩
theorem vf_some : ∀ (l : List Range) (q : Range), 0 ≤ q.low → q.low < q.high → (rangesFrom (some q) l = true ↔ Vf q.high l)
  | [], q, _, _ => by simp [rangesFrom, Vf]
  | r :: l, q, h1, h2 => by
    simp only [rangesFrom, Vf, Bool.and_eq_true, isRange, decide_eq_true_eq, Bool.not_eq_true', decide_eq_false_iff_not]
    constructor
    · rintro ⟨⟨⟨⟨a, b⟩, c⟩, d⟩, e⟩
      exact ⟨by omega, b, c, (vf_some l r a b).1 e⟩
    · rintro ⟨a, b, c, e⟩
      exact ⟨⟨⟨⟨by omega, b⟩, c⟩, by omega⟩, (vf_some l r (by omega) b).2 e⟩
theorem vf_iff (l : List Range) : isRanges l = true ↔ Vf (-1) l := by
  cases l with
  | nil => simp [isRanges, rangesFrom, Vf]
  | cons r l =>
    simp only [isRanges, rangesFrom, Vf, Bool.and_eq_true, isRange, decide_eq_true_eq]
    constructor
    · rintro ⟨⟨⟨⟨a, b⟩, c⟩, d⟩, e⟩
      exact ⟨by omega, b, c, (vf_some l r a b).1 e⟩
    · rintro ⟨a, b, c, e⟩
      exact ⟨⟨⟨⟨by omega, b⟩, c⟩, trivial⟩, (vf_some l r (by omega) b).2 e⟩
def Hb (e : Int) (l : List Range) : Prop := ∀ x ∈ l, x.high ≤ e
theorem Hb.cons {e : Int} {r : Range} {l : List Range} (h : Hb e (r :: l)) : r.high ≤ e ∧ Hb e l := ⟨h r (by simp), fun x hx => h x (by simp [hx])⟩
def sumLen : List Range → Int
  | [] => 0
  | r :: l => (r.high - r.low) + sumLen l
theorem Vf.nonneg : ∀ {l : List Range} {b : Int}, Vf b l → 0 ≤ sumLen l
  | [], _, _ => Int.le_refl _
  | _ :: _, _, h => by have := h.2.2.2.nonneg; have := h.2.1; simp only [sumLen]; omega
theorem Vf.pos {r : Range} {l : List Range} {b : Int} (h : Vf b (r :: l)) : 0 < sumLen (r :: l) := by
  have := h.2.2.2.nonneg; have := h.2.1; simp only [sumLen]; omega
theorem Vf.sum : ∀ {l : List Range} {b e : Int}, Vf b l → Hb e l → l ≠ [] → sumLen l ≤ e - (b + 1)
  | [], _, _, _, _, hn => absurd rfl hn
  | r :: [], b, e, h, hb, _ => by have := h.1; have := hb.cons.1; simp only [sumLen]; omega
  | r :: x :: t, b, e, h, hb, _ => by
    have h1 := h.2.2.2.sum hb.cons.2 (by simp)
    have := h.1
    simp only [sumLen] at h1 ⊢; omega
theorem count_sum : ∀ {l : List Range} {b n : Int}, Vf b l → -1 ≤ b → 0 ≤ n → n ≤ b + 1 → countFrom n l = n + sumLen l
  | [], _, n, _, _, _, _ => by simp [countFrom, sumLen]
  | r :: l, b, n, h, hb, h0, hn => by
    obtain ⟨h1, h2, h3, h4⟩ := h
    simp only [maxQuic] at h3
    simp only [countFrom, sumLen]
    rw [w64_id (n := r.high - r.low) (by omega) (by omega), w64_id (by omega) (by omega), count_sum h4 (by omega) (by omega) (by omega)]
    omega
theorem count_of {l : List Range} (h : Vf (-1) l) : countNumbers l = sumLen l := by
  unfold countNumbers
  rw [(vf_iff l).2 h, cond_true, count_sum h (by omega) (by omega) (by omega)]
  omega
theorem Vf.hb : ∀ {l : List Range} {b : Int}, Vf b l → Hb maxQuic l
  | [], _, _ => by simp [Hb]
  | r :: l, _, h => by
    intro x hx
    rcases List.mem_cons.1 hx with rfl | hx
    · exact h.2.2.1
    · exact h.2.2.2.hb x hx
theorem Vf.sum_le {l : List Range} (h : Vf (-1) l) : sumLen l ≤ maxQuic := by
  by_cases hn : l = []
  · subst hn; simp [sumLen, maxQuic]
  · have := h.sum h.hb hn; omega
theorem gap_skip : ∀ {l : List Range} {b n : Int}, Vf b l → n ≤ b → gapFrom n l = n
  | [], _, _, _, _ => rfl
  | r :: l, b, n, h, hn => by
    have h1 := h.1; have h2 := h.2.1
    have : (decide (r.low ≤ n)) = false := by simp; omega
    simp only [gapFrom, this, Bool.false_and, cond_false]
    exact gap_skip h.2.2.2 (by omega)
theorem gap_cons {r : Range} {l : List Range} (h : Vf (-1) (r :: l)) : firstGap (r :: l) 0 = if r.low = 0 then r.high else 0 := by
  unfold firstGap
  rw [(vf_iff _).2 h]
  have h1 := h.1; have h2 := h.2.1
  have h3 : decide ((0 : Int) < 0) = false := by decide
  rw [h3]
  simp only [Bool.not_false, Bool.and_true, cond_true, gapFrom]
  by_cases h0 : r.low = 0
  · have a : decide (r.low ≤ 0) = true := by simp; omega
    have b : decide (0 < r.high) = true := by simp; omega
    rw [a, b, if_pos h0]
    exact gap_skip h.2.2.2 (Int.le_refl _)
  · have a : decide (r.low ≤ 0) = false := by simp; omega
    rw [a, if_neg h0, Bool.false_and, cond_false]
    exact gap_skip h.2.2.2 (by omega)
/-! ### adding ranges -/
theorem addGo_true : ∀ {l : List Range} {b : Int} {r : Range}, Vf b l → r.high ≤ b → addGo r true l = l
  | [], _, _, _, _ => rfl
  | x :: l, b, r, h, hr => by
    have h1 := h.1; have h2 := h.2.1
    have a : decide (r.high < x.low) = true := by simp; omega
    simp only [addGo, a, cond_true]
    rw [addGo_true h.2.2.2 (by omega)]
    cases decide (x.high < r.low) <;> rfl
theorem addGo_vf : ∀ {l : List Range} {b : Int} {r : Range}, Vf b l → b < r.low → r.low < r.high → r.high ≤ maxQuic → Vf b (addGo r false l)
  | [], _, _, _, h1, h2, h3 => ⟨h1, h2, h3, trivial⟩
  | x :: l, b, r, h, h1, h2, h3 => by
    obtain ⟨g1, g2, g3, g4⟩ := h
    unfold addGo
    by_cases ha : x.high < r.low
    · have a : decide (x.high < r.low) = true := by simpa using ha
      rw [a, cond_true]
      exact ⟨g1, g2, g3, addGo_vf g4 ha h2 h3⟩
    · have a : decide (x.high < r.low) = false := by simpa using ha
      rw [a, cond_false]
      by_cases hc : r.high < x.low
      · have c : decide (r.high < x.low) = true := by simpa using hc
        rw [c, cond_true, cond_false, addGo_true g4 (by omega)]
        exact ⟨h1, h2, h3, hc, g2, g3, g4⟩
      · have c : decide (r.high < x.low) = false := by simpa using hc
        rw [c, cond_false]
        exact addGo_vf (g4.weaken (by omega)) (by show b < min r.low x.low; omega) (by show min r.low x.low < max r.high x.high; omega) (by show max r.high x.high ≤ maxQuic; omega)
theorem addGo_hb : ∀ {l : List Range} {e : Int} {r : Range} (p : Bool), Hb e l → r.high ≤ e → Hb e (addGo r p l)
  | [], e, r, p, _, hr => by
    cases p <;> simp [addGo, Hb, hr]
  | x :: l, e, r, p, h, hr => by
    obtain ⟨h1, h2⟩ := h.cons
    have key : ∀ q, Hb e (x :: addGo r q l) := fun q y hy => by
      rcases List.mem_cons.1 hy with rfl | hy
      · exact h1
      · exact addGo_hb q h2 hr y hy
    unfold addGo
    cases decide (x.high < r.low) with
    | true => exact key p
    | false =>
      rw [cond_false]
      cases decide (r.high < x.low) with
      | true =>
        rw [cond_true]
        cases p with
        | true => exact key true
        | false =>
          intro y hy
          rcases List.mem_cons.1 hy with rfl | hy
          · exact hr
          · exact key true y hy
      | false => exact addGo_hb p h2 (show max r.high x.high ≤ e by omega)
theorem addGo_len : ∀ (l : List Range) (r : Range) (p : Bool), (addGo r p l).length ≤ l.length + 1
  | [], r, p => by cases p <;> simp [addGo]
  | x :: l, r, p => by
    have h : ∀ r q, (addGo r q l).length ≤ l.length + 1 := fun r q => addGo_len l r q
    have ht : ∀ r, (addGo r true l).length ≤ l.length := fun r => addGo_lenT l r
    unfold addGo
    cases decide (x.high < r.low) with
    | true => rw [cond_true]; simp only [List.length_cons]; have := h r p; omega
    | false =>
      rw [cond_false]
      cases decide (r.high < x.low) with
      | true =>
        rw [cond_true]
        cases p with
        | true => rw [cond_true]; simp only [List.length_cons]; have := ht r; omega
        | false => rw [cond_false]; simp only [List.length_cons]; have := ht r; omega
      | false => rw [cond_false]; simp only [List.length_cons]; have := h ⟨min r.low x.low, max r.high x.high⟩ p; omega
where
  addGo_lenT : ∀ (l : List Range) (r : Range), (addGo r true l).length ≤ l.length
  | [], r => by simp [addGo]
  | x :: l, r => by
    have ht : ∀ r, (addGo r true l).length ≤ l.length := fun r => addGo_lenT l r
    unfold addGo
    cases decide (x.high < r.low) with
    | true => rw [cond_true]; simp only [List.length_cons]; have := ht r; omega
    | false =>
      rw [cond_false]
      cases decide (r.high < x.low) with
      | true => rw [cond_true, cond_true]; simp only [List.length_cons]; have := ht r; omega
      | false => rw [cond_false]; simp only [List.length_cons]; have := ht ⟨min r.low x.low, max r.high x.high⟩; omega
theorem addRange_len (l : List Range) (r : Range) : (addRange l r).length ≤ l.length + 1 := by
  unfold addRange
  cases isRanges l && isRange r with
  | true => exact addGo_len l r false
  | false => exact Nat.le_succ _
def addAll (l rs : List Range) : List Range := rs.foldl addRange l
theorem addAll_append (l a b : List Range) : addAll l (a ++ b) = addAll (addAll l a) b := List.foldl_append
theorem addRange_vf {l : List Range} {r : Range} (h : Vf (-1) l) : Vf (-1) (addRange l r) := by
  unfold addRange
  cases hr : isRanges l && isRange r with
  | false => exact h
  | true =>
    simp only [Bool.and_eq_true, isRange, decide_eq_true_eq] at hr
    exact addGo_vf h (by omega) hr.2.1.2 hr.2.2
theorem addRange_hb {l : List Range} {r : Range} {e : Int} (h : Hb e l) (hr : r.high ≤ e) : Hb e (addRange l r) := by
  unfold addRange
  cases isRanges l && isRange r with
  | false => exact h
  | true => exact addGo_hb false h hr
theorem addAll_vf : ∀ {rs l : List Range}, Vf (-1) l → Vf (-1) (addAll l rs)
  | [], _, h => h
  | r :: rs, l, h => addAll_vf (l := addRange l r) (rs := rs) (addRange_vf h)
theorem addAll_hb : ∀ {rs l : List Range} {e : Int}, Hb e l → Hb e rs → Hb e (addAll l rs)
  | [], _, _, h, _ => h
  | r :: rs, l, e, h, hr => addAll_hb (l := addRange l r) (rs := rs) (addRange_hb h hr.cons.1) hr.cons.2
def endsBehind (l : List Range) (p : Int) : Bool := match l[l.length - 1]? with | none => false | some r => decide (p < r.high)
theorem ends_cons (r x : Range) (t : List Range) (p : Int) : endsBehind (r :: x :: t) p = endsBehind (x :: t) p := by simp [endsBehind]
theorem ends_all : ∀ {l : List Range} {b p : Int}, Vf b l → (!endsBehind l p) = l.all fun r => !decide (p < r.high)
  | [], _, _, _ => rfl
  | [r], _, _, _ => by simp [endsBehind]
  | r :: x :: t, b, p, h => by
    rw [ends_cons, ends_all h.2.2.2]
    have h1 := h.2.2.2.1; have h2 := h.2.2.2.2.1
    simp only [List.all_cons]
    by_cases hx : p < x.high
    · simp [hx]
    · have : ¬ p < r.high := by omega
      simp [hx, this]
theorem ends_hb {l : List Range} {e : Int} (h : Hb e l) : endsBehind l e = false := by
  unfold endsBehind
  cases hl : l[l.length - 1]? with
  | none => rfl
  | some r => have := h r (List.mem_of_getElem? hl); simp; omega
/-! ### rings, senders -/
theorem ring_power (n : Int) : isRingSize n = (decide (0 < n) && decide (n ≤ 64) && (bits .and .i64 n (w64 (n - 1)) == 0)) := by
  unfold isRingSize within
  by_cases h1 : (1 : Int) ≤ n <;> by_cases h2 : n ≤ 64 <;> simp [h1, h2, show ((0 : Int) < n) = (1 ≤ n) from rfl]
def isRing (r : Ring) : Bool := isRingSize r.size && ((r.cells.length : Int) == r.size) && r.cells.all (fun n => within n 0 255) && isQuic r.base && within r.fin r.base (min (w64 (r.base + r.size)) maxQuic)
def isRingS (r : Ring) : Bool := isRingSize r.size && ((r.cells.length : Int) == r.size) && !decide (r.base < 0) && !decide (r.fin < r.base) && !decide (r.size < w64 (r.fin - r.base)) && !decide (maxQuic < r.fin) && r.cells.all (fun n => within n 0 255)
theorem isRing_s (r : Ring) : isRing r = isRingS r := by
  unfold isRing isRingS
  cases hs : isRingSize r.size with
  | false => simp
  | true =>
    have h1 : 1 ≤ r.size ∧ r.size ≤ 64 := by
      simp only [isRingSize, within, Bool.and_eq_true, decide_eq_true_eq] at hs; omega
    cases (r.cells.length : Int) == r.size with
    | false => simp
    | true =>
      have h2 : (isQuic r.base && within r.fin r.base (min (w64 (r.base + r.size)) maxQuic)) = (!decide (r.base < 0) && !decide (r.fin < r.base) && !decide (r.size < w64 (r.fin - r.base)) && !decide (maxQuic < r.fin)) := by
        rw [Bool.eq_iff_iff]
        simp only [isQuic, within, Bool.and_eq_true, decide_eq_true_eq, Bool.not_eq_true', decide_eq_false_iff_not, maxQuic]
        constructor
        · rintro ⟨⟨a, b⟩, c, d⟩
          rw [w64_id (by omega) (by omega)] at d
          rw [w64_id (by omega) (by omega)]
          omega
        · rintro ⟨⟨⟨a, b⟩, c⟩, d⟩
          rw [w64_id (by omega) (by omega)] at c
          rw [w64_id (by omega) (by omega)]
          omega
      simp only [Bool.true_and]
      rw [Bool.and_assoc (r.cells.all _), h2]
      exact Bool.and_comm _ _
def areWhole (a b c : List Range) (e : Int) : Bool :=
  w64 (w64 (countNumbers a + countNumbers b) + countNumbers c) == e && (countNumbers (addAll a (b ++ c)) == e && !endsBehind (addAll a (b ++ c)) e)
def following (s : Sender) : Int :=
  bif s.fin == 3 && s.ring.base == s.ring.fin then 3 else bif s.fin == 2 || s.fin == 3 || s.fin == 1 && s.state == 2 then 2 else bif decide (0 < s.sent) || s.fin == 1 && s.state == 1 then 1 else 0
def followingS (s : Sender) : Int :=
  bif s.fin == 3 && s.ring.base == s.ring.fin then 3 else bif decide (1 < s.fin) || s.fin == 1 && s.state == 2 then 2 else bif decide (0 < s.sent) || s.fin == 1 && s.state == 1 then 1 else 0
theorem following_s (s : Sender) (h : within s.fin 0 3 = true) : following s = followingS s := by
  have h1 : 0 ≤ s.fin ∧ s.fin ≤ 3 := by simpa [within] using h
  have : (s.fin == 2 || s.fin == 3) = decide (1 < s.fin) := by
    rw [Bool.eq_iff_iff]; simp only [Bool.or_eq_true, beq_iff_eq, decide_eq_true_eq]; omega
  unfold following followingS
  rw [this]
def senderBase (s : Sender) : Bool := isRing s.ring && isRanges s.pending && isRanges s.flight && isRanges s.acked && within s.sent 0 s.ring.fin && isQuic s.code && within s.fin 0 3
def senderReset (s : Sender) : Bool := (s.pending.length : Int) == 0 && (s.flight.length : Int) == 0 && (s.acked.length : Int) == 0 && s.ring.base == s.ring.fin && s.final == s.sent && s.sent == s.ring.fin && s.fin == 0
def isSender (s : Sender) : Bool :=
  senderBase s && bif s.state == 4 || s.state == 5 then senderReset s else
    areWhole s.pending s.flight s.acked s.ring.fin && firstGap s.acked 0 == s.ring.base && !endsBehind s.flight s.sent && !endsBehind s.acked s.sent && s.code == 0 && s.final == (bif s.fin == 0 then -1 else s.ring.fin) && s.state == following s
def headHigh (l : List Range) : Int := match l with | [] => 0 | r :: _ => r.high
def sAll (s : Sender) : List Range := addAll (addAll s.pending s.flight) s.acked
def isSenderS (s : Sender) : Bool :=
  senderBase s && bif s.state == 4 || s.state == 5 then senderReset s else
    !(!(countNumbers (sAll s) == s.ring.fin) || !(w64 (w64 (countNumbers s.pending + countNumbers s.flight) + countNumbers s.acked) == s.ring.fin) || decide (0 < s.ring.fin) && !(headHigh (sAll s) == s.ring.fin) || !(firstGap s.acked 0 == s.ring.base) || !(s.code == 0)) &&
      s.flight.all (fun r => !decide (s.sent < r.high)) && s.acked.all (fun r => !decide (s.sent < r.high)) && !(!((s.fin == 0) == (s.final == -1)) || !(s.final == -1) && !(s.final == s.ring.fin)) && s.state == followingS s
def Bounded (s : Sender) : Prop := Hb s.ring.fin s.pending ∧ Hb s.ring.fin s.flight ∧ Hb s.ring.fin s.acked
theorem isRing_end {r : Ring} (h : isRing r = true) : 0 ≤ r.base ∧ r.base ≤ r.fin ∧ r.fin ≤ maxQuic := by
  simp only [isRing, isQuic, within, Bool.and_eq_true, decide_eq_true_eq] at h
  simp only [maxQuic] at h ⊢
  omega
theorem head_of_whole : ∀ {l : List Range} {e : Int}, Vf (-1) l → Hb e l → sumLen l = e → 0 < e → headHigh l = e
  | [], _, _, _, h, h0 => by simp [sumLen] at h; omega
  | [r], _, h, hb, hs, _ => by
    have h1 := h.1; have h2 := hb.cons.1
    simp only [sumLen] at hs
    show r.high = _; omega
  | r :: x :: t, e, h, hb, hs, _ => by
    have h1 := h.1; have h2 := h.2.2.2.sum hb.cons.2 (by simp)
    simp only [sumLen] at hs h2
    omega
theorem sender_same (s : Sender) (hb : Bounded s) : isSender s = isSenderS s := by
  obtain ⟨hp, hf, ha⟩ := hb
  unfold isSender isSenderS
  cases hbase : senderBase s with
  | false => simp
  | true =>
    have hbase' := hbase
    simp only [senderBase, Bool.and_eq_true] at hbase'
    obtain ⟨⟨⟨⟨⟨⟨hr, vp⟩, vf⟩, va⟩, hsent⟩, hcode⟩, hfin⟩ := hbase'
    have he := isRing_end hr
    simp only [maxQuic] at he
    cases hst : s.state == 4 || s.state == 5 with
    | true => simp
    | false =>
      have hall : addAll s.pending (s.flight ++ s.acked) = sAll s := addAll_append _ _ _
      have vall : Vf (-1) (sAll s) := addAll_vf (addAll_vf ((vf_iff _).1 vp))
      have ball : Hb s.ring.fin (sAll s) := addAll_hb (addAll_hb hp hf) ha
      rw [Bool.true_and, Bool.true_and, cond_false, cond_false, areWhole, hall, ends_hb ball, ends_all ((vf_iff _).1 vf), ends_all ((vf_iff _).1 va), following_s s hfin, count_of vall]
      have hfn : (s.final == (bif s.fin == 0 then -1 else s.ring.fin)) = !(!((s.fin == 0) == (s.final == -1)) || !(s.final == -1) && !(s.final == s.ring.fin)) := by
        cases h0 : s.fin == 0 with
        | true =>
          cases h1 : s.final == -1 with
          | true => simp at h1; simp [h1]
          | false => simp [h1]
        | false =>
          cases h1 : s.final == -1 with
          | true =>
            have h2 : s.final = -1 := by simpa using h1
            have h3 : (s.final == s.ring.fin) = false := by simp; omega
            simp [h3]
          | false => simp
      rw [hfn]
      cases hc : sumLen (sAll s) == s.ring.fin with
      | false => simp
      | true =>
        have hc' : sumLen (sAll s) = s.ring.fin := by simpa using hc
        have hh : (decide (0 < s.ring.fin) && !(headHigh (sAll s) == s.ring.fin)) = false := by
          by_cases h0 : 0 < s.ring.fin
          · rw [head_of_whole vall ball hc' h0]; simp
          · simp [h0]
        rw [hh]
        simp only [Bool.not_false, Bool.and_true, Bool.not_true, Bool.false_or, Bool.or_false, Bool.not_or, Bool.not_not]
        ac_rfl
/-! ### streams -/
def isCredit (c : Credit) : Bool := isQuic c.limit && within c.used 0 c.limit && within c.blocked (-1) c.limit && within c.told (-1) c.limit
def isWindow (w : Window) : Bool := within w.most 1 4096 && within w.size 1 w.most && within w.limit 1 maxQuic && within w.seen 0 w.limit && within w.read 0 w.seen && decide (w.limit ≤ w64 (w.read + w.size)) && within w.since 0 1000000
def isStreamW (b : Bool) (s : Stream) : Bool :=
  isQuic s.id && isQuic s.stopCode && b && isCredit s.credit && isReceiver s.recv && isWindow s.window && isPriority s.priority && (s.canSend || s.canRecv) && !decide (s.credit.used < s.send.sent) && !decide (s.window.seen < s.recv.highest) &&
    !(s.tellReset && !(s.send.state == 4)) && !(s.tellStop && !s.stopped) && !(!(s.stopCode == 0) && !s.stopped) && (s.canSend || s.send.state == 0 && s.send.ring.fin == 0 && s.send.final == -1) && (s.canRecv || s.recv.state == 0 && s.recv.highest == 0 && !s.stopped)
def isStream (s : Stream) : Bool := isStreamW (isSender s.send) s
def isStreamS (s : Stream) : Bool := isStreamW (isSenderS s.send) s
def isOver (s : Stream) : Bool := isStream s && isSendOver s && isRecvOver s
def isOverS (s : Stream) : Bool := isStreamS s && isSendOver s && isRecvOver s
/-- What both checks ask for, as far as it is needed. -/
def senderCommon (s : Sender) : Bool :=
  senderBase s && bif s.state == 4 || s.state == 5 then senderReset s else
    w64 (w64 (countNumbers s.pending + countNumbers s.flight) + countNumbers s.acked) == s.ring.fin && firstGap s.acked 0 == s.ring.base && s.state == following s
theorem common_i {s : Sender} (h : isSender s = true) : senderCommon s = true := by
  unfold isSender at h; unfold senderCommon
  simp only [Bool.and_eq_true] at h ⊢
  refine ⟨h.1, ?_⟩
  cases hst : s.state == 4 || s.state == 5 with
  | true => have := h.2; rw [hst] at this; exact this
  | false =>
    have h2 := h.2; rw [hst] at h2
    simp only [cond_false, Bool.and_eq_true, areWhole] at h2 ⊢
    exact ⟨⟨h2.1.1.1.1.1.1.1, h2.1.1.1.1.1.2⟩, h2.2⟩
theorem common_s {s : Sender} (h : isSenderS s = true) : senderCommon s = true := by
  unfold isSenderS at h; unfold senderCommon
  simp only [Bool.and_eq_true] at h ⊢
  refine ⟨h.1, ?_⟩
  have hfin : within s.fin 0 3 = true := by
    have := h.1; simp only [senderBase, Bool.and_eq_true] at this; exact this.2
  cases hst : s.state == 4 || s.state == 5 with
  | true => have := h.2; rw [hst] at this; exact this
  | false =>
    have h2 := h.2; rw [hst] at h2
    rw [following_s s hfin]
    simp only [cond_false, Bool.and_eq_true, Bool.not_eq_true', Bool.or_eq_false_iff, Bool.not_eq_false'] at h2 ⊢
    exact ⟨⟨h2.1.1.1.1.1.1.1.2, h2.1.1.1.1.1.2⟩, h2.2⟩
theorem nil_of_len {α : Type} {l : List α} (h : ((l.length : Int) == 0) = true) : l = [] := by
  have h1 : (l.length : Int) = 0 := by simpa using h
  exact List.eq_nil_of_length_eq_zero (by omega)
theorem nil_of_sum {l : List Range} (h : Vf (-1) l) (h0 : sumLen l = 0) : l = [] := by
  cases l with
  | nil => rfl
  | cons r l => have := h.pos; omega
theorem hb_nil (e : Int) : Hb e [] := by simp [Hb]
theorem bounded_of {s : Sender} (h : senderCommon s = true) (ho : s.ring.fin = 0 ∨ s.state = 3 ∨ s.state = 5) : Bounded s := by
  unfold senderCommon at h
  simp only [Bool.and_eq_true] at h
  obtain ⟨hbase, h⟩ := h
  simp only [senderBase, Bool.and_eq_true] at hbase
  obtain ⟨⟨⟨⟨⟨⟨hr, vp⟩, vf⟩, va⟩, hsent⟩, hcode⟩, hfin⟩ := hbase
  have he := isRing_end hr
  simp only [maxQuic] at he
  cases hst : s.state == 4 || s.state == 5 with
  | true =>
    rw [hst] at h
    simp only [cond_true, senderReset, Bool.and_eq_true] at h
    obtain ⟨⟨⟨⟨⟨⟨h1, h2⟩, h3⟩, _⟩, _⟩, _⟩, _⟩ := h
    refine ⟨?_, ?_, ?_⟩
    · rw [nil_of_len h1]; exact hb_nil _
    · rw [nil_of_len h2]; exact hb_nil _
    · rw [nil_of_len h3]; exact hb_nil _
  | false =>
    rw [hst] at h
    have p := (vf_iff _).1 vp; have f := (vf_iff _).1 vf; have a := (vf_iff _).1 va
    rw [cond_false, count_of p, count_of f, count_of a] at h
    simp only [Bool.and_eq_true, beq_iff_eq] at h
    obtain ⟨⟨hn, hg⟩, hfo⟩ := h
    have p0 := p.nonneg; have f0 := f.nonneg; have a0 := a.nonneg
    have p1 := p.sum_le; have f1 := f.sum_le; have a1 := a.sum_le
    simp only [maxQuic] at p1 f1 a1
    have hsum : sumLen s.pending + sumLen s.flight + sumLen s.acked = s.ring.fin := by
      rw [w64_add, w64_emod] at hn; omega
    have hzero : s.ring.fin = 0 → Bounded s := fun h0 => by
      refine ⟨?_, ?_, ?_⟩
      · rw [nil_of_sum p (by omega)]; exact hb_nil _
      · rw [nil_of_sum f (by omega)]; exact hb_nil _
      · rw [nil_of_sum a (by omega)]; exact hb_nil _
    rcases ho with h0 | h3 | h5
    · exact hzero h0
    · have hbe : s.ring.base = s.ring.fin := by
        rw [h3] at hfo
        unfold following at hfo
        cases hx : s.fin == 3 && s.ring.base == s.ring.fin with
        | true => simp only [Bool.and_eq_true, beq_iff_eq] at hx; exact hx.2
        | false =>
          rw [hx, cond_false] at hfo
          cases hy : s.fin == 2 || s.fin == 3 || s.fin == 1 && (3 : Int) == 2 with
          | true => rw [h3, hy] at hfo; simp at hfo
          | false =>
            rw [h3, hy, cond_false] at hfo
            cases hz : decide (0 < s.sent) || s.fin == 1 && (3 : Int) == 1 with
            | true => rw [hz] at hfo; simp at hfo
            | false => rw [hz] at hfo; simp at hfo
      cases hacc : s.acked with
      | nil =>
        rw [hacc] at hg
        have : firstGap [] 0 = 0 := rfl
        exact hzero (by omega)
      | cons r l =>
        rw [hacc] at hg a hsum
        rw [gap_cons a] at hg
        have h1 := a.1; have h2 := a.2.1
        by_cases hl : r.low = 0
        · rw [if_pos hl] at hg
          have hl0 := a.2.2.2.nonneg
          simp only [sumLen] at hsum
          refine ⟨?_, ?_, ?_⟩
          · rw [nil_of_sum p (by omega)]; exact hb_nil _
          · rw [nil_of_sum f (by omega)]; exact hb_nil _
          · rw [hacc]
            have hln : l = [] := nil_of_sum (a.2.2.2.weaken (by omega)) (by omega)
            subst hln
            intro x hx
            have : x = r := by simpa using hx
            subst this; omega
        · rw [if_neg hl] at hg
          exact hzero (by omega)
    · rw [h5] at hst; simp at hst
theorem isOver_s (s : Stream) : isOver s = isOverS s := by
  have key : ∀ b, isStreamW b s = true → isSendOver s = true → senderCommon s.send = true → Bounded s.send := by
    intro b h1 h2 h3
    refine bounded_of h3 ?_
    simp only [isStreamW, Bool.and_eq_true] at h1
    simp only [isSendOver, Bool.or_eq_true, Bool.not_eq_true', beq_iff_eq] at h2
    rcases h2 with (h2 | h2) | h2
    · have := h1.1.2
      rw [h2] at this
      simp only [Bool.false_or, Bool.and_eq_true, beq_iff_eq] at this
      exact .inl this.1.2
    · exact .inr (.inl h2)
    · exact .inr (.inr h2)
  have hb : ∀ b, isStreamW b s = true → b = true := fun b h => by
    simp only [isStreamW, Bool.and_eq_true] at h; exact h.1.1.1.1.1.1.1.1.1.1.1.1.2
  rw [Bool.eq_iff_iff]
  simp only [isOver, isOverS, isStream, isStreamS, Bool.and_eq_true]
  constructor
  · rintro ⟨⟨h1, h2⟩, h3⟩
    have := sender_same s.send (key _ h1 h2 (common_i (hb _ h1)))
    exact ⟨⟨this ▸ h1, h2⟩, h3⟩
  · rintro ⟨⟨h1, h2⟩, h3⟩
    have := sender_same s.send (key _ h1 h2 (common_s (hb _ h1)))
    exact ⟨⟨this ▸ h1, h2⟩, h3⟩
def countOver : Int → List Stream → Int
  | n, [] => n
  | n, s :: l => countOver (w64 (n + one (isOver s))) l
theorem over_step {n : Int} {i : Nat} (h : 0 ≤ n ∧ n ≤ (i : Int)) (hi : i ≤ 134217728) (b : Bool) : 0 ≤ w64 (n + one b) ∧ w64 (n + one b) ≤ ((i + 1 : Nat) : Int) := by
  cases b <;> simp only [one, cond_true, cond_false] <;> rw [w64_id (by omega) (by omega)] <;> omega
theorem over_step1 {n : Int} {i : Nat} (h : 0 ≤ n ∧ n ≤ (i : Int)) (hi : i ≤ 134217728) : 0 ≤ w64 (n + 1) ∧ w64 (n + 1) ≤ ((i + 1 : Nat) : Int) := by
  rw [w64_id (by omega) (by omega)]; omega
/-! ### lists -/
def badFrom : Nat → List Int → Int
  | _, [] => -1
  | i, x :: l => bif !within x 0 255 then (i : Int) else badFrom (i + 1) l
theorem bad_all : ∀ (l : List Int) (i : Nat), decide (0 ≤ badFrom i l) = !l.all fun n => within n 0 255
  | [], _ => rfl
  | x :: l, i => by
    unfold badFrom
    cases h : within x 0 255 with
    | true => simp only [Bool.not_true, cond_false, List.all_cons, h, Bool.true_and]; exact bad_all l (i + 1)
    | false => simp only [Bool.not_false, cond_true, List.all_cons, h, Bool.false_and]; simp
theorem addAll_len : ∀ (rs l : List Range), (addAll l rs).length ≤ l.length + rs.length
  | [], l => Nat.le_refl _
  | r :: rs, l => by
    have h1 := addAll_len rs (addRange l r); have h2 := addRange_len l r
    show (addAll (addRange l r) rs).length ≤ _
    simp only [List.length_cons]; omega
theorem addAll_take {l rs : List Range} {i : Nat} {x : Range} (h : rs[i]? = some x) : addAll l (rs.take (i + 1)) = addRange (addAll l (rs.take i)) x := by
  rw [List.take_add_one, h, addAll_append]; rfl
theorem count_pos {l : List Range} {e : Int} (h : (countNumbers l == e) = true) (h0 : decide (0 < e) = true) : 0 < l.length := by
  cases l with
  | nil =>
    have h1 : countNumbers [] = 0 := rfl
    rw [h1] at h
    simp at h h0; omega
  | cons _ _ => simp
theorem head_of {l : List Range} {r : Range} (h : l[0]? = some r) : headHigh l = r.high := by
  cases l with
  | nil => simp at h
  | cons x l => simp at h; rw [h]; rfl
end Go.Proofs.Ytbhnekiclbfmgaa
