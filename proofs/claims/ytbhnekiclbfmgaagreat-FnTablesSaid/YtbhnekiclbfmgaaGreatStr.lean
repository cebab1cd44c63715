/- New streams, and streams as they are drawn: what the law FnStreams asks of them. No program in sight. -/
import Derived.Test.YtbhnekiclbfmgaaGreatPk
namespace Go.Proofs.YtbhnekiclbfmgaaGreat
open SL Go.RowKit
namespace SL
section
variable {C : Cx} {k : List Item} {env : Env} {B F : List Ck} {ops : Array Oper} {rest : List Oper}
variable {K : Env → List Ck → Act → World → Prop} {d : Nat} {ty : TypeId} {pos : String} {af : Array Edge} {x y : Operand} {t yt : TypeId}
theorem rw_eqlIT {IK : IntKind} {p q : Int} (hd : Nat.blt d C.n = true) (hx : ev env x = some (.int IK p)) (hy : ev env y = some (.int IK q)) (he : p = q) (h : RW C ops rest K ((d, .bool true) :: env) B F) :
    RW C ops (⟨some d, .binOp .eql t x y yt, ty, pos, af, none⟩ :: rest) K env B F := by subst he; exact rw_eql hd hx hy (by rw [beq_self_eq_true]; exact h)
theorem rw_neqIF {IK : IntKind} {p q : Int} (hd : Nat.blt d C.n = true) (hx : ev env x = some (.int IK p)) (hy : ev env y = some (.int IK q)) (he : p = q) (h : RW C ops rest K ((d, .bool false) :: env) B F) :
    RW C ops (⟨some d, .binOp .neq t x y yt, ty, pos, af, none⟩ :: rest) K env B F := by subst he; exact rw_neqSelf hd hx hy h
theorem rw_eqlBT {p q : Bool} (hu : C.P.underlying t = some .bool) (hd : Nat.blt d C.n = true) (hx : ev env x = some (.bool p)) (hy : ev env y = some (.bool q)) (he : p = q) (h : RW C ops rest K ((d, .bool true) :: env) B F) :
    RW C ops (⟨some d, .binOp .eql t x y yt, ty, pos, af, none⟩ :: rest) K env B F := by subst he; exact rw_eqlB hu hd hx hy (by rw [beq_self_eq_true]; exact h)
theorem rw_neqBF {p q : Bool} (hu : C.P.underlying t = some .bool) (hd : Nat.blt d C.n = true) (hx : ev env x = some (.bool p)) (hy : ev env y = some (.bool q)) (he : p = q) (h : RW C ops rest K ((d, .bool false) :: env) B F) :
    RW C ops (⟨some d, .binOp .neq t x y yt, ty, pos, af, none⟩ :: rest) K env B F := by subst he; exact rw_neqSelfB hu hd hx hy h
end
end SL
theorem SL.CN.mono {P : Program} {g : FuncId} {vs : List Value} {w : World} {post post' : Value → List Ck → Prop} (h : CN P g vs w post) (hp : ∀ v ch, post v ch → post' v ch) : CN P g vs w post' :=
  Calls.mono h fun e w' ⟨v, ch, he, hpo, hs⟩ => ⟨v, ch, he, hp v ch hpo, hs⟩
theorem eqL_refl {α : Type} {f : α → List Value} (h : ∀ x, eqC (f x) (f x) = true) : ∀ l : List α, eqL f l l = true
  | [] => rfl
  | x :: l => by simp [eqL, h x, eqL_refl h l]
theorem eqStreams_refl (x : Stream) : eqStreams x x = true := by
  have h1 : ∀ l : List Int, eqL intC l l = true := eqL_refl fun x => by simp [eqC, veq, intC]
  have h2 : ∀ l : List Range, eqL Range.cells l l = true := eqL_refl fun x => by simp [eqC, veq, Range.cells]
  have h3 : ∀ l : List Chunk, eqL Chunk.cells l l = true := eqL_refl fun x => by simp [eqC, veq, Chunk.cells]
  simp [eqStreams, eqSenders, eqRings, eqReceivers, eqBuffers, h1, h2, h3, eqC, veq, Credit.cells, Window.cells, Priority.cells]
theorem sender_fine {K : Nat} {s : Sender} (h : FineS K s) : isSender s = isSenderS s := sender_same s h.bounded
theorem stream_same {s : Stream} (h : FineSt s) : isStream s = isStreamS s := by
  unfold isStream isStreamS; rw [sender_fine h.1]
theorem state_of {s : Sender} (h : isSender s = true) : 0 ≤ s.state := by
  unfold isSender at h
  simp only [Bool.and_eq_true] at h
  obtain ⟨_, h⟩ := h
  cases hs : s.state == 4 || s.state == 5 with
  | true => simp only [Bool.or_eq_true, beq_iff_eq] at hs; omega
  | false =>
    rw [hs] at h
    simp only [cond_false, Bool.and_eq_true, beq_iff_eq] at h
    rw [h.2]
    unfold following
    cases s.fin == 3 && s.ring.base == s.ring.fin <;> simp only [cond_true, cond_false]
    · cases s.fin == 2 || s.fin == 3 || s.fin == 1 && s.state == 2 <;> simp only [cond_true, cond_false]
      · cases decide (0 < s.sent) || s.fin == 1 && s.state == 1 <;> simp
      · decide
    · decide
theorem range_of {s : Sender} {r : Range} (h : isSender s = true) (hr : s.pending[0]? = some r) : 0 ≤ r.low ∧ r.low < r.high ∧ r.high ≤ 4611686018427387903 := by
  unfold isSender at h
  simp only [Bool.and_eq_true, senderBase] at h
  have h1 := (vf_iff _).1 h.1.1.1.1.1.1.2
  have h2 := h1.mem (List.mem_of_getElem? hr)
  have h3 := h1.hb r (List.mem_of_getElem? hr)
  simp only [maxQuic] at h3
  omega
theorem next_same {s : Sender} {lim : Int} (h : isSender s = true) (h0 : 0 ≤ lim) (h1 : lim ≤ 4611686018427387903) : (nextI s 1 lim).2 = nextOkS true s 1 lim := by
  have hst := state_of h
  have ha : isActive s = !decide (2 < s.state) := by
    unfold isActive within
    rw [h, Bool.true_and, Bool.eq_iff_iff]
    simp only [Bool.and_eq_true, decide_eq_true_eq, Bool.not_eq_true', decide_eq_false_iff_not]; omega
  cases hp : s.pending with
  | nil =>
    rw [nextOkS_nil hp]
    cases hb : isActive s with
    | false => rw [nextI_not hb, Bool.true_and, ← ha, hb]; rfl
    | true => rw [nextI_nil hb hp, Bool.true_and, ← ha, hb, Bool.true_and]
  | cons r l =>
    have hr : s.pending[0]? = some r := by rw [hp]; rfl
    obtain ⟨g1, g2, g3⟩ := range_of h hr
    rw [nextOkS_cons hr]
    cases hb : isActive s with
    | false => rw [nextI_not hb, Bool.true_and, ← ha, hb]; rfl
    | true =>
      rw [nextI_cons hb hr, Bool.true_and, ← ha, hb, Bool.true_and]
      have e1 : min (w64 (r.high - r.low)) 1 = 1 := by rw [w64_id (by omega) (by omega)]; omega
      have e2 : w64 (r.low + 1) = r.low + 1 := w64_id (by omega) (by omega)
      have e3 : w64 (lim - r.low) = lim - r.low := w64_id (by omega) (by omega)
      have e4 : w64 (min r.high lim - r.low) = min r.high lim - r.low := w64_id (by omega) (by omega)
      have e5 : max (1 : Int) 0 = 1 := by decide
      simp only [nextN, nextHigh, e1, e2, e3, e4, e5]
      by_cases hl : lim ≤ r.low
      · have d1 : decide (lim ≤ r.low) = true := by simpa using hl
        have d2 : decide (min r.high lim ≤ r.low) = true := by simp only [decide_eq_true_eq]; omega
        rw [d1, d2]; rfl
      · have d1 : decide (lim ≤ r.low) = false := by simpa using hl
        have d2 : decide (min r.high lim ≤ r.low) = false := by simp only [decide_eq_false_iff_not]; omega
        have d3 : decide (lim < r.low + 1) = false := by simp only [decide_eq_false_iff_not]; omega
        rw [d1, d2, d3]
        simp only [cond_false, Bool.not_false, Bool.true_and, Bool.false_or]
        have d4 : decide ((1 : Int) ≤ 0) = false := by decide
        rw [d4, cond_false]
        by_cases hh : 1 < min r.high lim - r.low
        · have d5 : decide (1 < min r.high lim - r.low) = true := by simpa using hh
          have d6 : decide (r.low + 1 ≤ r.low) = false := by simp only [decide_eq_false_iff_not]; omega
          rw [d5, cond_true, d6]; rfl
        · have d5 : decide (1 < min r.high lim - r.low) = false := by simpa using hh
          rw [d5, cond_false, d2]; rfl
theorem wants_same {s : Stream} (h : FineSt s) : (isStream s && s.canSend && (nextI s.send 1 s.credit.limit).2) = (isStreamS s && s.canSend && nextOkS (isSenderS s.send) s.send 1 s.credit.limit) := by
  rw [← stream_same h, ← sender_fine h.1]
  cases hs : isStream s with
  | false => rfl
  | true =>
    have hs' := hs
    unfold isStream isStreamW at hs'
    simp only [Bool.and_eq_true] at hs'
    have hsend : isSender s.send = true := hs'.1.1.1.1.1.1.1.1.1.1.1.1.2
    have hcr : isCredit s.credit = true := hs'.1.1.1.1.1.1.1.1.1.1.1.2
    simp only [isCredit, isQuic, within, Bool.and_eq_true, decide_eq_true_eq] at hcr
    rw [hsend, next_same hsend (by omega) (by omega)]
end Go.Proofs.YtbhnekiclbfmgaaGreat
