/- New streams, and streams as they are drawn: what the law FnStreams asks of them. No program in sight. -/
import Derived.Test.YtbhnekiclbfmgaaGreatPk
namespace Go.Proofs.YtbhnekiclbfmgaaGreat
open SL Go.RowKit
namespace SL
section
variable {C : Cx} {k : List Item} {env : Env} {B F : List Ck} {ops : Array Oper} {rest : List Oper}
variable {K : Env → List Ck → Act → World → Prop} {d : Nat} {ty : TypeId} {pos : String} {af : Array Edge} {x y : Operand} {t yt : TypeId}
theorem rw_eqlIT {IK : IntKind} {p q : Int} (hd : Nat.blt d C.n = true) (hx : ev env x = some (.int IK p)) (hy : ev env y = some (.int IK q)) (he : p = q) (h : RW C ops rest K ((d, .bool true) :: env) B F) :
    RW C ops (⟨some d, .binOp .eql t x y yt, ty, pos, af, none⟩ :: rest) K env B F := by subst he; exact rw_eql hd hx hy (by rw [beq_self_eq_true]; exact h)
theorem rw_neqIF {IK : IntKind} {p q : Int} (hd : Nat.blt d C.n = true) (hx : ev env x = some (.int IK p)) (hy : ev env y = some (.int IK q)) (he : p = q) (h : RW C ops rest K ((d, .bool false) :: env) B F) :
    RW C ops (⟨some d, .binOp .neq t x y yt, ty, pos, af, none⟩ :: rest) K env B F := by subst he; exact rw_neqSelf hd hx hy h
theorem rw_eqlBT {p q : Bool} (hu : C.P.underlying t = some .bool) (hd : Nat.blt d C.n = true) (hx : ev env x = some (.bool p)) (hy : ev env y = some (.bool q)) (he : p = q) (h : RW C ops rest K ((d, .bool true) :: env) B F) :
    RW C ops (⟨some d, .binOp .eql t x y yt, ty, pos, af, none⟩ :: rest) K env B F := by subst he; exact rw_eqlB hu hd hx hy (by rw [beq_self_eq_true]; exact h)
theorem rw_neqBF {p q : Bool} (hu : C.P.underlying t = some .bool) (hd : Nat.blt d C.n = true) (hx : ev env x = some (.bool p)) (hy : ev env y = some (.bool q)) (he : p = q) (h : RW C ops rest K ((d, .bool false) :: env) B F) :
    RW C ops (⟨some d, .binOp .neq t x y yt, ty, pos, af, none⟩ :: rest) K env B F := by subst he; exact rw_neqSelfB hu hd hx hy h
end
end SL
theorem SL.CV.cn {P : Program} {g : FuncId} {vs : List Value} {w : World} {v : Value} {post : Value → List Ck → Prop} (h : CV P g vs w v) (hp : post v []) : CN P g vs w post :=
  Calls.mono h fun e w' ⟨he, hb⟩ => ⟨v, [], he, hp, ⟨hb.os, hb.tape, hb.output, hb.size, fun b hb' _ => hb.block b hb', by simp, by simp, by simp⟩⟩
theorem SL.CN.mono {P : Program} {g : FuncId} {vs : List Value} {w : World} {post post' : Value → List Ck → Prop} (h : CN P g vs w post) (hp : ∀ v ch, post v ch → post' v ch) : CN P g vs w post' :=
  Calls.mono h fun e w' ⟨v, ch, he, hpo, hs⟩ => ⟨v, ch, he, hp v ch hpo, hs⟩
def newOk (id : Int) (o p : Conf) : Bool := isQuic id && isConf o && isConf p
def newS (s : Bool) (id : Int) (o p : Conf) : Stream := bif newOk id o p then newStream s id o p o.ring.toNat else zeroStream
theorem newOk_facts {id : Int} {o p : Conf} (h : newOk id o p = true) : isQuic id = true ∧ isConf o = true ∧ isConf p = true ∧ o.ring = (o.ring.toNat : Int) ∧ isRingSize (o.ring.toNat : Int) = true ∧ o.ring.toNat ≤ 64 := by
  simp only [newOk, Bool.and_eq_true] at h
  obtain ⟨n, h1, h2, h3⟩ := ring_nat (conf_ring h.1.2)
  refine ⟨h.1.1, h.1.2, h.2, ?_⟩
  rw [h1]
  exact ⟨by omega, by simpa using h3, by omega⟩
theorem newS_le (s : Bool) (id : Int) (o p : Conf) : (newS s id o p).le 1048576 := by
  unfold newS
  cases h : newOk id o p with
  | false => exact ⟨Nat.zero_le _, Nat.zero_le _, Nat.zero_le _, Nat.zero_le _, Nat.zero_le _, fun _ hy => by cases hy⟩
  | true =>
    obtain ⟨_, _, _, _, _, h6⟩ := newOk_facts h
    refine ⟨?_, Nat.zero_le _, Nat.zero_le _, Nat.zero_le _, Nat.zero_le _, fun _ hy => by cases hy⟩
    show (List.replicate o.ring.toNat (0 : Int)).length ≤ 1048576
    rw [List.length_replicate]; omega
theorem veq_refl : ∀ v : Value, kd v ≤ 2 → veq v v = true := by
  intro v h
  cases v <;> simp_all [veq, kd]
theorem eqC_cells (x y : Int) : eqC [.int .i64 x, .int .i64 y] [.int .i64 x, .int .i64 y] = true := by simp [eqC, veq]
theorem eqL_refl {α : Type} {f : α → List Value} (h : ∀ x, eqC (f x) (f x) = true) : ∀ l : List α, eqL f l l = true
  | [] => rfl
  | x :: l => by simp [eqL, h x, eqL_refl h l]
theorem eqStreams_refl (x : Stream) : eqStreams x x = true := by
  have h1 : ∀ l : List Int, eqL intC l l = true := eqL_refl fun x => by simp [eqC, veq, intC]
  have h2 : ∀ l : List Range, eqL Range.cells l l = true := eqL_refl fun x => by simp [eqC, veq, Range.cells]
  have h3 : ∀ l : List Chunk, eqL Chunk.cells l l = true := eqL_refl fun x => by simp [eqC, veq, Chunk.cells]
  simp [eqStreams, eqSenders, eqRings, eqReceivers, eqBuffers, h1, h2, h3, eqC, veq, Credit.cells, Window.cells, Priority.cells]
theorem conf_facts {c : Conf} (h : isConf c = true) : 1 ≤ c.window ∧ c.window ≤ c.windowMost ∧ c.windowMost ≤ 4096 := by
  simp only [isConf, within, Bool.and_eq_true, decide_eq_true_eq] at h
  omega
theorem newS_of {s : Bool} {id : Int} {o p : Conf} (h : newOk id o p = true) : newS s id o p = newStream s id o p o.ring.toNat := by unfold newS; rw [h]; rfl
theorem newCredit_of {p : Conf} (h : isConf p = true) : newCredit p.window = ⟨p.window, 0, -1, -1⟩ := by
  have h1 := conf_facts h
  have h2 : isQuic p.window = true := by simp only [isQuic, within, Bool.and_eq_true, decide_eq_true_eq]; omega
  unfold newCredit; rw [h2]; rfl
theorem newWindow_of {p : Conf} (h : isConf p = true) : newWindow p.window p.windowMost = ⟨p.window, p.windowMost, p.window, 0, 0, 0⟩ := by
  have h1 := conf_facts h
  have h2 : (within p.windowMost 1 4096 && within p.window 1 p.windowMost) = true := by simp only [within, Bool.and_eq_true, decide_eq_true_eq]; omega
  unfold newWindow; rw [h2]; rfl
theorem new_credit {s : Bool} {id : Int} {o p : Conf} (h : newOk id o p = true) : (newS s id o p).credit.limit = p.window := by
  rw [newS_of h]
  show (newCredit p.window).limit = _
  rw [newCredit_of (newOk_facts h).2.2.1]
theorem new_window {s : Bool} {id : Int} {o p : Conf} (h : newOk id o p = true) : (newS s id o p).window.limit = o.window := by
  rw [newS_of h]
  show (newWindow o.window o.windowMost).limit = _
  rw [newWindow_of (newOk_facts h).2.1]
theorem new_ring {n : Nat} (h : isRingSize (n : Int) = true) : isRing (newRing n) = true := by
  have h1 : (List.replicate n (0 : Int)).all (fun n => within n 0 255) = true := by
    rw [List.all_eq_true]; intro x hx; rw [List.eq_of_mem_replicate hx]; rfl
  have h2 : 1 ≤ (n : Int) ∧ (n : Int) ≤ 64 := by simp only [isRingSize, within, Bool.and_eq_true, decide_eq_true_eq] at h; omega
  have h3 : within 0 0 (min (w64 (0 + (n : Int))) maxQuic) = true := by
    simp only [within, Bool.and_eq_true, decide_eq_true_eq, maxQuic]
    rw [w64_id (by omega) (by omega)]; omega
  simp only [isRing, newRing, h, h1, h3, List.length_replicate, beq_self_eq_true, Bool.and_true, Bool.true_and]
  decide
theorem new_sender {n : Nat} (h : isRingSize (n : Int) = true) : isSender (newSender n) = true := by
  have h1 : senderBase (newSender n) = true := by
    show (isRing (newRing n) && isRanges [] && isRanges [] && isRanges [] && within 0 0 0 && isQuic 0 && within 0 0 3) = true
    rw [new_ring h]; rfl
  unfold isSender
  rw [h1]
  rfl
theorem new_isStream {s : Bool} {id : Int} {o p : Conf} (h : newOk id o p = true) : isStream (newS s id o p) = true := by
  obtain ⟨h1, h2, h3, h4, h5, h6⟩ := newOk_facts h
  have c2 := conf_facts h2; have c3 := conf_facts h3
  have hc : isCredit (newCredit p.window) = true := by
    rw [newCredit_of h3]
    simp only [isCredit, isQuic, within, Bool.and_eq_true, decide_eq_true_eq]; omega
  have hw : isWindow (newWindow o.window o.windowMost) = true := by
    rw [newWindow_of h2]
    simp only [isWindow, within, Bool.and_eq_true, decide_eq_true_eq, maxQuic]
    rw [w64_id (by omega) (by omega)]; omega
  have hu : (newCredit p.window).used = 0 := by rw [newCredit_of h3]
  have hs : (newWindow o.window o.windowMost).seen = 0 := by rw [newWindow_of h2]
  have hcs : (canSendOn s id || canRecvOn s id) = true := by
    simp only [canSendOn, canRecvOn, h1, Bool.true_and]
    cases isUni id <;> cases isOwn s id <;> rfl
  rw [newS_of h]
  unfold isStream isStreamW newStream
  simp only [new_sender h5, hc, hw, hu, hs, h1, hcs, Bool.true_and, Bool.and_true]
  have e1 : isQuic 0 = true := by decide
  have e2 : isReceiver newReceiver = true := by decide
  have e3 : isPriority defaultPriority = true := by decide
  rw [e1, e2, e3]
  simp only [newSender, newRing, newReceiver]
  cases canSendOn s id <;> cases canRecvOn s id <;> rfl
theorem new_notOver {s : Bool} {id : Int} {o p : Conf} (h : newOk id o p = true) : isOver (newS s id o p) = false := by
  obtain ⟨h1, _⟩ := newOk_facts h
  rw [newS_of h]
  have hcs : (canSendOn s id || canRecvOn s id) = true := by
    simp only [canSendOn, canRecvOn, h1, Bool.true_and]
    cases isUni id <;> cases isOwn s id <;> rfl
  have e : (isSendOver (newStream s id o p o.ring.toNat) && isRecvOver (newStream s id o p o.ring.toNat)) = false := by
    have er : isReceived newReceiver = false := by decide
    simp only [isSendOver, isRecvOver, newStream, er, newSender]
    revert hcs
    cases canSendOn s id <;> cases canRecvOn s id <;> decide
  unfold isOver
  rw [Bool.and_assoc, e, Bool.and_false]
theorem new_wants {s : Bool} {id : Int} {o p : Conf} (h : newOk id o p = true) : (isStream (newS s id o p) && (newS s id o p).canSend && (nextI (newS s id o p).send 1 (newS s id o p).credit.limit).2) = false := by
  have e : (nextI (newS s id o p).send 1 (newS s id o p).credit.limit).2 = false := by
    rw [newS_of h]
    cases ha : isActive (newStream s id o p o.ring.toNat).send with
    | false => rw [nextI_not ha]
    | true => rw [nextI_nil ha rfl]; rfl
  rw [e, Bool.and_false]
theorem sender_fine {K : Nat} {s : Sender} (h : FineS K s) : isSender s = isSenderS s := sender_same s h.bounded
theorem stream_same {s : Stream} (h : FineSt s) : isStream s = isStreamS s := by
  unfold isStream isStreamS; rw [sender_fine h.1]
theorem state_of {s : Sender} (h : isSender s = true) : 0 ≤ s.state := by
  unfold isSender at h
  simp only [Bool.and_eq_true] at h
  obtain ⟨_, h⟩ := h
  cases hs : s.state == 4 || s.state == 5 with
  | true => simp only [Bool.or_eq_true, beq_iff_eq] at hs; omega
  | false =>
    rw [hs] at h
    simp only [cond_false, Bool.and_eq_true, beq_iff_eq] at h
    rw [h.2]
    unfold following
    cases s.fin == 3 && s.ring.base == s.ring.fin <;> simp only [cond_true, cond_false]
    · cases s.fin == 2 || s.fin == 3 || s.fin == 1 && s.state == 2 <;> simp only [cond_true, cond_false]
      · cases decide (0 < s.sent) || s.fin == 1 && s.state == 1 <;> simp
      · decide
    · decide
theorem range_of {s : Sender} {r : Range} (h : isSender s = true) (hr : s.pending[0]? = some r) : 0 ≤ r.low ∧ r.low < r.high ∧ r.high ≤ 4611686018427387903 := by
  unfold isSender at h
  simp only [Bool.and_eq_true, senderBase] at h
  have h1 := (vf_iff _).1 h.1.1.1.1.1.1.2
  have h2 := h1.mem (List.mem_of_getElem? hr)
  have h3 := h1.hb r (List.mem_of_getElem? hr)
  simp only [maxQuic] at h3
  omega
theorem next_same {s : Sender} {lim : Int} (h : isSender s = true) (h0 : 0 ≤ lim) (h1 : lim ≤ 4611686018427387903) : (nextI s 1 lim).2 = nextOkS true s 1 lim := by
  have hst := state_of h
  have ha : isActive s = !decide (2 < s.state) := by
    unfold isActive within
    rw [h, Bool.true_and, Bool.eq_iff_iff]
    simp only [Bool.and_eq_true, decide_eq_true_eq, Bool.not_eq_true', decide_eq_false_iff_not]; omega
  cases hp : s.pending with
  | nil =>
    rw [nextOkS_nil hp]
    cases hb : isActive s with
    | false => rw [nextI_not hb, Bool.true_and, ← ha, hb]; rfl
    | true => rw [nextI_nil hb hp, Bool.true_and, ← ha, hb, Bool.true_and]
  | cons r l =>
    have hr : s.pending[0]? = some r := by rw [hp]; rfl
    obtain ⟨g1, g2, g3⟩ := range_of h hr
    rw [nextOkS_cons hr]
    cases hb : isActive s with
    | false => rw [nextI_not hb, Bool.true_and, ← ha, hb]; rfl
    | true =>
      rw [nextI_cons hb hr, Bool.true_and, ← ha, hb, Bool.true_and]
      have e1 : min (w64 (r.high - r.low)) 1 = 1 := by rw [w64_id (by omega) (by omega)]; omega
      have e2 : w64 (r.low + 1) = r.low + 1 := w64_id (by omega) (by omega)
      have e3 : w64 (lim - r.low) = lim - r.low := w64_id (by omega) (by omega)
      have e4 : w64 (min r.high lim - r.low) = min r.high lim - r.low := w64_id (by omega) (by omega)
      have e5 : max (1 : Int) 0 = 1 := by decide
      simp only [nextN, nextHigh, e1, e2, e3, e4, e5]
      by_cases hl : lim ≤ r.low
      · have d1 : decide (lim ≤ r.low) = true := by simpa using hl
        have d2 : decide (min r.high lim ≤ r.low) = true := by simp only [decide_eq_true_eq]; omega
        rw [d1, d2]; rfl
      · have d1 : decide (lim ≤ r.low) = false := by simpa using hl
        have d2 : decide (min r.high lim ≤ r.low) = false := by simp only [decide_eq_false_iff_not]; omega
        have d3 : decide (lim < r.low + 1) = false := by simp only [decide_eq_false_iff_not]; omega
        rw [d1, d2, d3]
        simp only [cond_false, Bool.not_false, Bool.true_and, Bool.false_or]
        have d4 : decide ((1 : Int) ≤ 0) = false := by decide
        rw [d4, cond_false]
        by_cases hh : 1 < min r.high lim - r.low
        · have d5 : decide (1 < min r.high lim - r.low) = true := by simpa using hh
          have d6 : decide (r.low + 1 ≤ r.low) = false := by simp only [decide_eq_false_iff_not]; omega
          rw [d5, cond_true, d6]; rfl
        · have d5 : decide (1 < min r.high lim - r.low) = false := by simpa using hh
          rw [d5, cond_false, d2]; rfl
theorem wants_same {s : Stream} (h : FineSt s) : (isStream s && s.canSend && (nextI s.send 1 s.credit.limit).2) = (isStreamS s && s.canSend && nextOkS (isSenderS s.send) s.send 1 s.credit.limit) := by
  rw [← stream_same h, ← sender_fine h.1]
  cases hs : isStream s with
  | false => rfl
  | true =>
    have hs' := hs
    unfold isStream isStreamW at hs'
    simp only [Bool.and_eq_true] at hs'
    have hsend : isSender s.send = true := hs'.1.1.1.1.1.1.1.1.1.1.1.1.2
    have hcr : isCredit s.credit = true := hs'.1.1.1.1.1.1.1.1.1.1.1.2
    simp only [isCredit, isQuic, within, Bool.and_eq_true, decide_eq_true_eq] at hcr
    rw [hsend, next_same hsend (by omega) (by omega)]
end Go.Proofs.YtbhnekiclbfmgaaGreat
