/- What the walks of a drained sender ask for. No program in sight. -/
import Derived.Test.YtbhnekiclbfmgaaDre
namespace Go.Proofs.Ytbhnekiclbfmgaa
open SL
theorem str_size {b : ByteArray} (h : (b.toList == ByteArray.empty.toList) = true) : b.size = 0 :=
  Decidable.byContradiction fun e => by rw [str_ne e] at h; cases h
theorem str_size' {b : ByteArray} (h : (b.toList == ByteArray.empty.toList) = false) : b.size ≠ 0 :=
  fun e => by rw [str_eq e] at h; cases h
theorem VC.lens {W : Nat} {s : Sender} (h : VC W s) : s.pending.length ≤ 17 ∧ s.flight.length ≤ 17 ∧ s.acked.length ≤ 17 := by
  have h16 := h.hW
  have h1 := h.vp.len h.xp (by omega); have h2 := h.vf.len h.xf (by omega); have h3 := h.va.len h.xa (by omega)
  omega
theorem VC.le {W : Nat} {s : Sender} (h : VC W s) : s.le 1048576 := by
  obtain ⟨h1, h2, h3⟩ := h.lens
  have h4 := h.len
  exact ⟨by omega, by omega, by omega, by omega⟩
def rgOf (p : Piece) : Range := ⟨p.offset, w64 (p.offset + (p.data.size : Int))⟩
theorem PieceOk.w {txt : List UInt8} {p : Piece} (h : PieceOk txt p) (ht : txt.length ≤ 16) : w64 (p.offset + (p.data.size : Int)) = p.offset + (p.data.size : Int) := by
  have := h.h0; have := h.hW
  exact w64_id (by omega) (by omega)
theorem PieceOk.rg {txt : List UInt8} {p : Piece} (h : PieceOk txt p) (ht : txt.length ≤ 16) : rgOf p = pr p := by
  unfold rgOf; rw [h.w ht]; rfl
theorem PieceOk.inside {W : Nat} {txt : List UInt8} {s : Sender} {p : Piece} (h : PieceOk txt p) (hV : VC W s) (ht : txt.length = W) :
    (!decide (p.offset < 0) && !decide (s.ring.fin < p.offset) && !decide (w64 (s.ring.fin - p.offset) < (p.data.size : Int)) && (!p.fin || w64 (p.offset + (p.data.size : Int)) == s.final)) = true := by
  have h16 := hV.hW; have h0 := h.h0; have hW := h.hW; have hr := hV.rfin
  rw [h.w (by omega), hr, hV.final, w64_id (n := (W : Int) - p.offset) (by omega) (by omega)]
  have e1 : decide (p.offset < 0) = false := by rw [decide_eq_false_iff_not]; omega
  have e2 : decide ((W : Int) < p.offset) = false := by rw [decide_eq_false_iff_not]; omega
  have e3 : decide ((W : Int) - p.offset < (p.data.size : Int)) = false := by rw [decide_eq_false_iff_not]; omega
  rw [e1, e2, e3]
  cases hf : p.fin with
  | false => rfl
  | true =>
    have := h.fin hf
    have : (p.offset + (p.data.size : Int) == (W : Int)) = true := by rw [beq_iff_eq]; omega
    rw [this]; rfl
theorem ranges_one {r : Range} (h : isRange r = true) : isRanges [r] = true := by
  have h' := h
  simp only [isRange, Bool.and_eq_true, decide_eq_true_eq] at h'
  exact (vf_iff _).2 ⟨by omega, h'.1.2, h'.2, trivial⟩
theorem eqR_refl (l : List Range) : eqL Range.cells l l = true := by
  induction l with
  | nil => rfl
  | cons r t ih =>
    simp only [eqL, ih, Bool.and_true]
    simp [Range.cells, eqC, veq]
theorem send_facts {W : Nat} {txt : List UInt8} {x : Sender} {p : Piece} (hV : VS W x) (ht : txt.length = W) (hn : NextOk W txt x p) (h0 : p.data.size ≠ 0) :
    isRanges [rgOf p] = true ∧ comGo (rgOf p) x.pending = [rgOf p] ∧ eqL Range.cells (comGo (rgOf p) x.pending) [rgOf p] = true := by
  have h16 := hV.hW
  obtain ⟨h1, h2⟩ := hn.cov h0
  rw [hn.ok.rg (by omega)]
  have e := com_one hV.vp h1 fun n a b => h2 n ⟨a, b⟩
  rw [e]
  exact ⟨ranges_one h1, rfl, eqR_refl _⟩
theorem sendP_eq {W : Nat} {txt : List UInt8} {x : Sender} {p : Piece} {f z : Bool} (hW : W ≤ 16) (ht : txt.length = W) (hn : NextOk W txt x p) (hf : p.fin = f) (hz : (p.data.size == 0) = z) :
    sendP x p = stF (finQ f (bif z then x else sendR x (rgOf p)) 2) := by
  unfold sendP sendQ
  rw [hf, hz, hn.ok.rg (by omega)]
structure SetOk (W : Nat) (txt : List UInt8) (x : Sender) (p : Piece) : Prop where
  v : VS W x
  s3 : x.state ≠ 3
  t : txt.length = W
  ok : PieceOk txt p
  c : ∀ n, inP p n → Cov x.flight n
  f : p.fin = true → x.fin = 2
theorem SetOk.facts {W : Nat} {txt : List UInt8} {x : Sender} {p : Piece} (h : SetOk W txt x p) (h0 : p.data.size ≠ 0) :
    isRanges [rgOf p] = true ∧ comGo (rgOf p) x.flight = [rgOf p] ∧ within (firstGap (addRange x.acked (rgOf p)) 0) x.ring.base x.ring.fin = true ∧ (addRange x.acked (rgOf p)).length ≤ 17 := by
  have h16 := h.v.hW; have ht := h.t
  have hr := pr_ok h.ok (by omega) h0
  rw [h.ok.rg (by omega)]
  have hc : ∀ n, (pr p).low ≤ n → n < (pr p).high → Cov x.flight n := fun n a b => h.c n ⟨a, b⟩
  have v := h.v.toVC.ackR hr hc
  have g : _ ∧ _ := v.gap
  have l : _ ∧ _ ∧ _ := v.lens
  have e : (dropR (takeR x (pr p))).ring.base = firstGap (addRange x.acked (pr p)) 0 := rfl
  rw [e] at g
  have g2 := gap_grow h.v.va hr
  have b := h.v.base; have f := h.v.rfin
  refine ⟨ranges_one hr, com_one h.v.vf hr hc, ?_, l.2.2⟩
  simp only [within, Bool.and_eq_true, decide_eq_true_eq]; omega
theorem SetOk.gap0 {W : Nat} {txt : List UInt8} {x : Sender} {p : Piece} (h : SetOk W txt x p) : within (firstGap x.acked 0) x.ring.base x.ring.fin = true := by
  have g := h.v.toVC.gap; have b := h.v.base; have f := h.v.rfin
  simp only [within, Bool.and_eq_true, decide_eq_true_eq]; omega
theorem ackP_eq {W : Nat} {txt : List UInt8} {x : Sender} {p : Piece} {f z : Bool} (h : SetOk W txt x p) (hf : p.fin = f) (hz : (p.data.size == 0) = z) :
    ackP x p = stF (dropR (finQ f (bif z then x else takeR x (rgOf p)) 3)) := by
  have h16 := h.v.hW; have ht := h.t
  unfold ackP takeQ
  rw [hf, hz, h.ok.rg (by omega)]
theorem loseP_eq {W : Nat} {txt : List UInt8} {x : Sender} {p : Piece} {f z : Bool} (h : SetOk W txt x p) (hf : p.fin = f) (hz : (p.data.size == 0) = z) :
    loseP x p = stF (finQ f (bif z then x else backR x (rgOf p)) 1) := by
  have h16 := h.v.hW; have ht := h.t
  unfold loseP backQ
  rw [hf, hz, h.ok.rg (by omega)]
theorem setOk {W : Nat} {txt : List UInt8} {s : Sender} {ps : List Piece} {hi : Int} {q : Piece} {k : Nat} (h : Inv W txt s ps hi) (hq : ps[k]? = some q) : SetOk W txt s q := by
  have o := out_ok h.ps hq
  exact ⟨h.vs, fun e => (by rw [(the_end h e).1] at hq; cases hq), h.ht, o.ok, o.cov, o.fin⟩
end Go.Proofs.Ytbhnekiclbfmgaa
