/- Pieces under way. No program in sight. -/
import Derived.Test.YtbhnekiclbfmgaaDrj
namespace Go.Proofs.Ytbhnekiclbfmgaa
open SL
def inP (p : Piece) (n : Int) : Prop := p.offset ≤ n ∧ n < p.offset + (p.data.size : Int)
def pr (p : Piece) : Range := ⟨p.offset, p.offset + (p.data.size : Int)⟩
structure PieceOk (txt : List UInt8) (p : Piece) : Prop where
  h0 : 0 ≤ p.offset
  hW : p.offset + (p.data.size : Int) ≤ txt.length
  data : p.data = mkS (seg txt p.offset (p.offset + (p.data.size : Int)))
  fin : p.fin = true → p.offset + (p.data.size : Int) = txt.length
  ne : p.data.size = 0 → p.fin = true
structure PS (txt : List UInt8) (s : Sender) (ps : List Piece) : Prop where
  ok : ∀ p ∈ ps, PieceOk txt p
  dis : ps.Pairwise fun p q => ∀ n, ¬ (inP p n ∧ inP q n)
  fl : ∀ n : Int, 0 ≤ n → n < txt.length → (Cov s.flight n ↔ ∃ p ∈ ps, inP p n)
  fins : (ps.filter (·.fin)).length = if s.fin = 2 then 1 else 0
theorem seg_nil {txt : List UInt8} {a : Int} : seg txt a a = [] := by simp [seg]
theorem peek_seg {W : Nat} {txt : List UInt8} {s : Sender} (h : VC W s) (ht : txt.length = W) (hR : RC txt s) {a : Int} {m : Nat} (ha : s.ring.base ≤ a) (hm : a + (m : Int) ≤ W) : peekBytes s.ring a m = seg txt a (a + m) := by
  have h16 := h.hW
  have hg := h.gap
  obtain ⟨x, rfl⟩ : ∃ x : Nat, a = (x : Int) := ⟨a.toNat, by omega⟩
  refine List.ext_getElem? fun i => ?_
  simp only [peekBytes, seg]
  by_cases hi : i < m
  · have hk := hR (x + i) (by omega) (by omega)
    rw [List.getElem?_map, List.getElem?_range hi, List.getElem?_take, if_pos (by omega), List.getElem?_drop, Option.map_some]
    rw [h.size, w64_id (by omega) (by omega), show ((x : Int) + (i : Int)) = ((x + i : Nat) : Int) by omega, show (((x + i : Nat) : Int)).tmod 16 = ((x + i : Nat) : Int) from Int.tmod_eq_of_lt (by omega) (by omega)]
    have hlt : x + i < txt.length := by omega
    rw [List.getElem?_eq_getElem hlt] at hk
    simp only [Option.map_some, Int.toNat_natCast] at hk ⊢
    rw [List.getD_eq_getElem?_getD, hk, List.getElem?_eq_getElem hlt]
    simp only [Option.getD_some, Option.some.injEq]
    have hb : (txt[x + i]).toNat < 256 := (txt[x + i]).toNat_lt
    unfold u8of
    rw [show IntKind.u8.wrap ((txt[x + i]).toNat : Int) = ((txt[x + i]).toNat : Int) % 256 from rfl, show ((txt[x + i]).toNat : Int) % 256 = ((txt[x + i]).toNat : Int) by omega]
    simp
  · rw [List.getElem?_map, List.getElem?_eq_none (by simp; omega), List.getElem?_eq_none (by simp; omega)]; rfl
theorem VS.isActive {W : Nat} {s : Sender} (h : VS W s) (h3 : s.state ≠ 3) : isActive s = true := by
  have := h.active h3
  unfold Go.Proofs.Ytbhnekiclbfmgaa.isActive
  rw [h.ok]
  simp only [within, Bool.true_and, Bool.and_eq_true, decide_eq_true_eq]; omega
structure NextOk (W : Nat) (txt : List UInt8) (s : Sender) (p : Piece) : Prop where
  ok : PieceOk txt p
  cov : p.data.size ≠ 0 → isRange (pr p) = true ∧ ∀ n, inP p n → Cov s.pending n
  fin : p.fin = true → s.fin = 1
theorem next_ok {W : Nat} {txt : List UInt8} {s : Sender} (h : VS W s) (h3 : s.state ≠ 3) (ht : txt.length = W) (hR : RC txt s) {m : Int} (hm : 1 ≤ m ∧ m ≤ 5) (hf : (nextI s m 100).2 = true) : NextOk W txt s (nextI s m 100).1 := by
  have h16 := h.hW
  have ha := h.isActive h3
  cases hp : s.pending with
  | nil =>
    rw [nextI_nil ha hp] at hf ⊢
    have hf' : (s.fin == 1) = true := hf
    rw [hf', h.final]
    have e : w64 (max (W : Int) 0 * one true) = W := by
      rw [show max (W : Int) 0 * one true = W by simp [one], w64_id (by omega) (by omega)]
    rw [e]
    refine ⟨⟨by show (0 : Int) ≤ W; omega, ?_, ?_, fun _ => ?_, fun _ => rfl⟩, fun h => absurd rfl h, fun _ => by simpa using hf'⟩
    · show (W : Int) + ((0 : Nat) : Int) ≤ txt.length; omega
    · show ByteArray.empty = mkS (seg txt W ((W : Int) + ((0 : Nat) : Int)))
      rw [show (W : Int) + ((0 : Nat) : Int) = W by omega, seg_nil]; rfl
    · show (W : Int) + ((0 : Nat) : Int) = txt.length; omega
  | cons r t =>
    have hv := h.vp
    have hx := h.xp
    rw [hp] at hv hx
    have r1 := hv.1; have r2 := hv.2.1; have r3 := hx.cons.1
    have hc : ∀ n : Int, r.low ≤ n → n < r.high → Cov s.pending n := fun n h1 h2 => by rw [hp]; exact cov_cons.2 (.inl ⟨h1, h2⟩)
    have hbase : s.ring.base ≤ r.low := by
      by_cases hb : s.ring.base ≤ r.low
      · exact hb
      · have h1 : Cov s.acked r.low := below_gap h.va (by omega) (by rw [← h.base]; omega)
        rcases h.part r.low (by omega) (by omega) with ⟨_, _, h2⟩ | ⟨h2, _⟩ | ⟨h2, _⟩
        · exact absurd h1 h2
        · exact absurd (hc r.low (by omega) r2) h2
        · exact absurd (hc r.low (by omega) r2) h2
    have e0 := nextI_cons (m := m) (lim := 100) ha (show s.pending[0]? = some r by rw [hp]; rfl)
    obtain ⟨n, hn⟩ : ∃ n : Nat, min (r.high - r.low) m = (n : Int) := ⟨(min (r.high - r.low) m).toNat, by omega⟩
    have en : nextN r m 100 = (n : Int) := by
      unfold nextN
      rw [w64_id (n := r.high - r.low) (by omega) (by omega), hn, w64_id (n := r.low + (n : Int)) (by omega) (by omega)]
      have : decide ((100 : Int) < r.low + n) = false := by rw [decide_eq_false_iff_not]; omega
      rw [this]; rfl
    have ek : peekOk s.ring r.low n = true := by
      unfold peekOk
      rw [h.toVC.ring, h.rfin, w64_id (by omega) (by omega)]
      have e1 : decide ((n : Int) < 0) = false := by rw [decide_eq_false_iff_not]; omega
      have e2 : within r.low s.ring.base W = true := by simp only [within, Bool.and_eq_true, decide_eq_true_eq]; omega
      have e3 : decide ((W : Int) - r.low < n) = false := by rw [decide_eq_false_iff_not]; omega
      rw [e1, e2, e3]; rfl
    have ed : peekI s.ring r.low n = seg txt r.low (r.low + n) := by
      unfold peekI
      rw [ek]
      exact peek_seg h.toVC ht hR hbase (by omega)
    have c1 : decide ((100 : Int) ≤ r.low) = false := by rw [decide_eq_false_iff_not]; omega
    have c2 : decide ((n : Int) ≤ 0) = false := by rw [decide_eq_false_iff_not]; omega
    rw [e0, en, c1, c2, ed]
    have es : (mkS (seg txt r.low (r.low + n))).size = n := by
      have := seg_len (txt := txt) (a := r.low) (b := r.low + n) (by omega) (by omega) (by omega)
      rw [mkS_size]; omega
    show NextOk W txt s ⟨r.low, mkS (seg txt r.low (r.low + n)), s.fin == 1 && w64 (r.low + (n : Int)) == s.final⟩
    refine ⟨⟨by show 0 ≤ r.low; omega, ?_, ?_, fun hfin => ?_, fun h0 => ?_⟩, fun _ => ⟨?_, fun k hk => ?_⟩, fun hfin => ?_⟩
    · show r.low + (((mkS (seg txt r.low (r.low + n))).size : Nat) : Int) ≤ _; rw [es]; omega
    · show mkS _ = mkS (seg txt r.low (r.low + (((mkS (seg txt r.low (r.low + n))).size : Nat) : Int))); rw [es]
    · show r.low + (((mkS (seg txt r.low (r.low + n))).size : Nat) : Int) = _
      rw [es]
      have h5 : (s.fin == 1 && w64 (r.low + (n : Int)) == s.final) = true := hfin
      rw [w64_id (by omega) (by omega), h.final] at h5
      simp only [Bool.and_eq_true, beq_iff_eq] at h5
      omega
    · rw [show (Piece.data ⟨r.low, mkS (seg txt r.low (r.low + n)), s.fin == 1 && w64 (r.low + (n : Int)) == s.final⟩) = mkS (seg txt r.low (r.low + n)) from rfl, es] at h0
      omega
    · show isRange ⟨r.low, r.low + (((mkS (seg txt r.low (r.low + n))).size : Nat) : Int)⟩ = true
      rw [es]; simp only [isRange, maxQuic, Bool.and_eq_true, decide_eq_true_eq]; omega
    · have hk' : r.low ≤ k ∧ k < r.low + (((mkS (seg txt r.low (r.low + n))).size : Nat) : Int) := hk
      rw [es] at hk'
      exact hc k hk'.1 (by omega)
    · have h5 : (s.fin == 1 && w64 (r.low + (n : Int)) == s.final) = true := hfin
      simp only [Bool.and_eq_true, beq_iff_eq] at h5
      exact h5.1
end Go.Proofs.Ytbhnekiclbfmgaa
