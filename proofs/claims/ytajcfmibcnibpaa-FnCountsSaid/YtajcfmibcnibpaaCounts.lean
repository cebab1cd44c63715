/- Counts and allowances: plain laws. No program in sight. -/
import Derived.Test.YtajcfmibcnibpaaSlq
import Derived.Test.YtajcfmibcnibpaaData
import Derived.Test.YtajcfmibcnibpaaElems
namespace Go.Proofs.Ytajcfmibcnibpaa
open SL Go.RowKit
namespace SL
section
variable {C : Cx} {k : List Item} {env : Env} {B F : List Ck} {ops : Array Oper} {rest : List Oper}
variable {K : Env → List Ck → Act → World → Prop} {d : Nat} {ty : TypeId} {pos : String} {af : Array Edge} {x y : Operand} {t yt : TypeId}
theorem rw_eqlIT {IK : IntKind} {p q : Int} (hd : Nat.blt d C.n = true) (hx : ev env x = some (.int IK p)) (hy : ev env y = some (.int IK q)) (he : p = q) (h : RW C ops rest K ((d, .bool true) :: env) B F) :
    RW C ops (⟨some d, .binOp .eql t x y yt, ty, pos, af, none⟩ :: rest) K env B F := by subst he; exact rw_eql hd hx hy (by rw [beq_self_eq_true]; exact h)
theorem rw_neqIF {IK : IntKind} {p q : Int} (hd : Nat.blt d C.n = true) (hx : ev env x = some (.int IK p)) (hy : ev env y = some (.int IK q)) (he : p = q) (h : RW C ops rest K ((d, .bool false) :: env) B F) :
    RW C ops (⟨some d, .binOp .neq t x y yt, ty, pos, af, none⟩ :: rest) K env B F := by subst he; exact rw_neqSelf hd hx hy h
theorem rw_eqlBT {p q : Bool} (hu : C.P.underlying t = some .bool) (hd : Nat.blt d C.n = true) (hx : ev env x = some (.bool p)) (hy : ev env y = some (.bool q)) (he : p = q) (h : RW C ops rest K ((d, .bool true) :: env) B F) :
    RW C ops (⟨some d, .binOp .eql t x y yt, ty, pos, af, none⟩ :: rest) K env B F := by subst he; exact rw_eqlB hu hd hx hy (by rw [beq_self_eq_true]; exact h)
theorem rw_neqBF {p q : Bool} (hu : C.P.underlying t = some .bool) (hd : Nat.blt d C.n = true) (hx : ev env x = some (.bool p)) (hy : ev env y = some (.bool q)) (he : p = q) (h : RW C ops rest K ((d, .bool false) :: env) B F) :
    RW C ops (⟨some d, .binOp .neq t x y yt, ty, pos, af, none⟩ :: rest) K env B F := by subst he; exact rw_neqSelfB hu hd hx hy h
end
end SL
def newCount (n : Int) : Count := bif within n 0 1152921504606846976 then ⟨n, 0, -1⟩ else ⟨0, 0, 0⟩
def newAllow (n : Int) : Allow := bif within n 0 1000 then ⟨n, n, 0, 0⟩ else ⟨0, 0, 0, 0⟩
def raiseCount (c : Count) (n : Int) : Count := bif isCount c && (decide (c.limit < n) && decide (n ≤ 1152921504606846976)) then ⟨n, c.opened, -1⟩ else c
def raiseCountS (c : Count) (n : Int) : Count := bif !isCount c || (decide (n ≤ c.limit) || decide (1152921504606846976 < n)) then c else ⟨n, c.opened, -1⟩
theorem raiseCount_spec (c : Count) (n : Int) : raiseCount c n = raiseCountS c n := by
  unfold raiseCount raiseCountS
  have h1 : decide (c.limit < n) = !decide (n ≤ c.limit) := by simp [← Int.not_le]
  have h2 : decide (n ≤ 1152921504606846976) = !decide (1152921504606846976 < n) := by simp [← Int.not_lt]
  rw [h1, h2]
  cases isCount c <;> cases decide (n ≤ c.limit) <;> cases decide (1152921504606846976 < n) <;> rfl
theorem count_val (a b c : Int) : Value.agg #[.int .i64 a, .int .i64 b, .int .i64 c] = (fun p : Count => Value.agg p.cells.toArray) ⟨a, b, c⟩ := rfl
theorem allow_val (a b c d : Int) : Value.agg #[.int .i64 a, .int .i64 b, .int .i64 c, .int .i64 d] = (fun p : Allow => Value.agg p.cells.toArray) ⟨a, b, c, d⟩ := rfl
theorem eqC_count {p q : Count} (h : p = q) : eqC p.cells q.cells = true := by
  subst h; simp [eqC, Count.cells, veq]
theorem eqC_allow {p q : Allow} (h : p = q) : eqC p.cells q.cells = true := by
  subst h; simp [eqC, Allow.cells, veq]
theorem count_ok {c : Count} (h : isCount c = true) : (0 ≤ c.limit ∧ c.limit ≤ 1152921504606846976) ∧ (0 ≤ c.opened ∧ c.opened ≤ c.limit) := by
  simp only [isCount, within, Bool.and_eq_true, decide_eq_true_eq] at h
  exact ⟨h.1.1, h.1.2⟩
theorem allow_ok {a : Allow} (h : isAllow a = true) : (0 ≤ a.most ∧ a.most ≤ 1000) ∧ (a.most ≤ a.limit ∧ a.limit ≤ 1152921504606846976) ∧ (0 ≤ a.seen ∧ a.seen ≤ a.limit) ∧ (0 ≤ a.closed ∧ a.closed ≤ a.seen) ∧ a.limit ≤ w64 (a.closed + a.most) := by
  simp only [isAllow, within, Bool.and_eq_true, decide_eq_true_eq] at h
  exact ⟨h.1.1.1.1, h.1.1.1.2, h.1.1.2, h.1.2, h.2⟩
theorem open_is {c : Count} (h : (openNext c).2.2 = true) : (openNext c).1 = c.opened ∧ (openNext c).2.1.opened = w64 ((openNext c).1 + 1) := by
  unfold openNext at h ⊢
  cases h1 : isCount c with
  | false => rw [h1] at h; cases h
  | true =>
    have h3 := count_ok h1
    cases h2 : c.opened == c.limit with
    | true => rw [h1, h2] at h; cases h
    | false =>
      have h4 : w64 (c.opened + 1) = c.opened + 1 := w64_of (by omega) (by omega)
      have h5 : w64 (c.opened + 1 - 1) = c.opened := by rw [show c.opened + 1 - 1 = c.opened by omega]; exact w64_of (by omega) (by omega)
      show w64 (w64 (c.opened + 1) - 1) = c.opened ∧ w64 (c.opened + 1) = w64 (w64 (w64 (c.opened + 1) - 1) + 1)
      rw [h4, h5]
      exact ⟨rfl, h4.symm⟩
theorem see_fine (a : Allow) (i : Int) : (seeIndex a i).2.2 = (isAllow a && decide (0 ≤ i) && decide (i < a.limit)) := by
  unfold seeIndex
  cases h1 : isAllow a with
  | false => rfl
  | true =>
    have h2 := allow_ok h1
    have h3 : w64 (a.limit - 1) = a.limit - 1 := w64_of (by omega) (by omega)
    unfold within
    rw [h3]
    by_cases h4 : 0 ≤ i <;> by_cases h5 : i < a.limit <;> simp [h4, h5, show (i ≤ a.limit - 1) ↔ (i < a.limit) by omega]
theorem see_ok {a : Allow} {i : Int} (h : (seeIndex a i).2.2 = true) : isAllow (seeIndex a i).1 = true ∧ decide ((seeIndex a i).1.seen < w64 (i + 1)) = false := by
  have h0 := h
  rw [see_fine] at h0
  simp only [Bool.and_eq_true, decide_eq_true_eq] at h0
  obtain ⟨⟨h1, h2⟩, h3⟩ := h0
  have h4 := allow_ok h1
  have e0 : w64 (a.limit - 1) = a.limit - 1 := w64_of (by omega) (by omega)
  have e1 : w64 (i + 1) = i + 1 := w64_of (by omega) (by omega)
  have e2 : w64 (i + 1 - a.seen) = i + 1 - a.seen := w64_of (by omega) (by omega)
  have hw : within i 0 (w64 (a.limit - 1)) = true := by
    rw [e0]; simp [within]; omega
  have hs : seeIndex a i = ({ a with seen := w64 (a.seen + max (i + 1 - a.seen) 0) }, max (i + 1 - a.seen) 0, true) := by
    unfold seeIndex; rw [h1, hw, e1, e2]; rfl
  have e3 : w64 (a.seen + max (i + 1 - a.seen) 0) = max (i + 1) a.seen := (w64_of (by omega) (by omega)).trans (by omega)
  rw [hs, e1, e3]
  constructor
  · simp only [isAllow, within, Bool.and_eq_true, decide_eq_true_eq]
    omega
  · simp only [decide_eq_false_iff_not]; omega
theorem raise_ok {a : Allow} (h : (raiseAllow a).2 = true) : decide (a.limit < (raiseAllow a).1.limit) = true ∧ isAllow (raiseAllow a).1 = true := by
  unfold raiseAllow at h ⊢
  cases h1 : mustAllow a && !decide (1152921504606846976 < w64 (a.closed + a.most)) with
  | false => rw [h1] at h; cases h
  | true =>
    simp only [Bool.and_eq_true, Bool.not_eq_true', decide_eq_false_iff_not, mustAllow, decide_eq_true_eq] at h1
    obtain ⟨⟨⟨h2, h3⟩, h4⟩, h5⟩ := h1
    have h6 := allow_ok h2
    have e1 : w64 (a.closed + a.most) = a.closed + a.most := w64_of (by omega) (by omega)
    have e2 : w64 (a.closed + a.most - a.limit) = a.closed + a.most - a.limit := w64_of (by omega) (by omega)
    have e3 : w64 (a.most + 1) = a.most + 1 := w64_of (by omega) (by omega)
    have e4 : Int.tdiv (a.most + 1) 2 = (a.most + 1) / 2 := Int.tdiv_eq_ediv_of_nonneg (by omega)
    have e5 : w64 ((a.most + 1) / 2) = (a.most + 1) / 2 := w64_of (by omega) (by omega)
    rw [e1] at h5 h6
    rw [e1, e2, e3, e4, e5] at h4
    simp only [cond_true, e1]
    constructor
    · simp only [decide_eq_true_eq]; omega
    · simp only [isAllow, within, Bool.and_eq_true, decide_eq_true_eq]
      rw [e1]; omega
theorem seeIndex_spec (a : Allow) (i : Int) : seeIndex a i = seeIndexS a i := by
  unfold seeIndex seeIndexS
  cases h : isAllow a with
  | false => simp
  | true =>
    have h' : 0 ≤ a.limit ∧ a.limit ≤ 1152921504606846976 := by
      simp only [isAllow, within, Bool.and_eq_true, decide_eq_true_eq] at h; omega
    have hw : w64 (a.limit - 1) = a.limit - 1 := by rw [w64_id (by omega) (by omega)]
    have : within i 0 (w64 (a.limit - 1)) = (!decide (i < 0) && !decide (a.limit ≤ i)) := by
      rw [hw, within, Bool.eq_iff_iff]; simp; omega
    simp only [this, Bool.true_and, Int.max_comm]
theorem openNext_spec (c : Count) : openNext c = openNextS c := by
  unfold openNext openNextS
  cases h : isCount c with
  | false => rfl
  | true =>
    have h' : 0 ≤ c.opened ∧ c.opened ≤ 1152921504606846976 := by
      simp only [isCount, within, Bool.and_eq_true, decide_eq_true_eq] at h; omega
    have : w64 (w64 (c.opened + 1) - 1) = c.opened := by rw [w64_id (n := c.opened + 1) (by omega) (by omega), w64_id (by omega) (by omega)]; omega
    rw [this]
end Go.Proofs.Ytajcfmibcnibpaa
