/- What was received, told by what is acknowledged. No program in sight. -/
import Derived.Test.YtbhnekiclbfmgaaDrn
import Derived.Test.YtbhnekiclbfmgaaPk
namespace Go.Proofs.Ytbhnekiclbfmgaa
open SL
def seg (txt : List UInt8) (a b : Int) : List UInt8 := (txt.drop a.toNat).take (b - a).toNat
theorem seg_len {txt : List UInt8} {a b : Int} (h0 : 0 ≤ a) (h1 : a ≤ b) (h2 : b ≤ txt.length) : ((seg txt a b).length : Int) = b - a := by
  simp only [seg, List.length_take, List.length_drop]; omega
def ckOf (txt : List UInt8) (r : Range) : Chunk := ⟨r.low, mkS (seg txt r.low r.high)⟩
def chOf (txt : List UInt8) (l : List Range) : List Chunk := l.map (ckOf txt)
theorem mkS_size (t : List UInt8) : (mkS t).size = t.length := by simp [ByteArray.size]
theorem ck_size {txt : List UInt8} {r : Range} (h0 : 0 ≤ r.low) (h1 : r.low < r.high) (h2 : r.high ≤ txt.length) : (((ckOf txt r).data.size : Nat) : Int) = r.high - r.low := by
  rw [show (ckOf txt r).data.size = (seg txt r.low r.high).length from mkS_size _, seg_len h0 (by omega) h2]
theorem ck_end {txt : List UInt8} {r : Range} (h0 : 0 ≤ r.low) (h1 : r.low < r.high) (h2 : r.high ≤ txt.length) (h3 : txt.length ≤ 16) : chunkEnd (ckOf txt r) = r.high := by
  unfold chunkEnd
  rw [ck_size h0 h1 h2, show (ckOf txt r).offset = r.low from rfl, w64_id (by omega) (by omega)]; omega
theorem buf_of {txt : List UInt8} (h3 : txt.length ≤ 16) : ∀ {l : List Range} {b : Int}, Vf b l → -1 ≤ b → Hb txt.length l → bufFrom (b + 1) (chOf txt l) = true
  | [], _, _, _, _ => rfl
  | r :: l, b, h, hb, hh => by
    obtain ⟨h1, h2, _, h4⟩ := h
    have h5 := hh.cons.1
    have ih := buf_of h3 h4 (by omega) hh.cons.2
    show bufFrom (b + 1) (ckOf txt r :: chOf txt l) = true
    unfold bufFrom
    rw [ck_end (by omega) h2 h5 h3, w64_id (n := r.high + 1) (by omega) (by omega), ih, ck_size (by omega) h2 h5, show (ckOf txt r).offset = r.low from rfl]
    have e1 : (r.high - r.low == 0) = false := by rw [beq_eq_false_iff_ne]; omega
    have e2 : decide (r.low < b + 1) = false := by rw [decide_eq_false_iff_not]; omega
    have e3 : decide (w64 (maxQuic - (r.high - r.low)) < r.low) = false := by
      rw [decide_eq_false_iff_not, w64_id (by unfold maxQuic; omega) (by unfold maxQuic; omega)]; unfold maxQuic; omega
    rw [e1, e2, e3]; rfl
/-- The receiver that has just what is acknowledged. -/
def recvOf (txt : List UInt8) (s : Sender) (hi : Int) : Receiver :=
  ⟨bif s.fin == 3 then (bif s.ring.base == s.ring.fin then 2 else 1) else 0, ⟨0, chOf txt s.acked⟩, bif s.fin == 3 then s.ring.fin else -1, hi, 0⟩
structure HiOk (s : Sender) (hi : Int) : Prop where
  b : Hb hi s.acked
  h0 : 0 ≤ hi
  hW : hi ≤ s.ring.fin
  f : s.fin = 3 → hi = s.ring.fin
theorem recv_buf {W : Nat} {txt : List UInt8} {s : Sender} (h : VC W s) (ht : txt.length = W) (hi : Int) : isBuffer (recvOf txt s hi).buffer = true := by
  have := h.hW
  have h1 := buf_of (txt := txt) (by omega) h.va (by omega) (by rw [ht]; exact h.xa)
  show (isQuic 0 && bufFrom (-1 + 1) (chOf txt s.acked)) = true
  rw [h1]; rfl
theorem recv_ready {W : Nat} {txt : List UInt8} {s : Sender} (h : VC W s) (ht : txt.length = W) (hi : Int) : readyBytes (recvOf txt s hi).buffer = s.ring.base := by
  have h16 := h.hW
  unfold readyBytes
  rw [recv_buf h ht hi, h.base]
  show (match (chOf txt s.acked)[0]? with | none => (0 : Int) | some c => bif c.offset == 0 then (c.data.size : Int) else 0) = _
  have hva := h.va
  have hxa := h.xa
  cases ha : s.acked with
  | nil => rfl
  | cons r t =>
    rw [ha] at hva hxa
    have h1 := hva.1; have h2 := hva.2.1; have h3 := hxa.cons.1
    rw [gap_cons hva]
    show (bif (ckOf txt r).offset == 0 then (((ckOf txt r).data.size : Nat) : Int) else 0) = _
    rw [ck_size (by omega) h2 (by omega), show (ckOf txt r).offset = r.low from rfl]
    by_cases h0 : r.low = 0
    · simp [h0]
    · have : (r.low == 0) = false := by rw [beq_eq_false_iff_ne]; exact h0
      rw [this, if_neg h0]; rfl
theorem recv_end {W : Nat} {txt : List UInt8} {s : Sender} {hi : Int} (h : VC W s) (ht : txt.length = W) (hh : HiOk s hi) : endOf (recvOf txt s hi).buffer ≤ hi := by
  have h16 := h.hW
  unfold endOf
  rw [recv_buf h ht hi]
  show (match (chOf txt s.acked)[(chOf txt s.acked).length - 1]? with | none => (0 : Int) | some c => chunkEnd c) ≤ hi
  cases hc : (chOf txt s.acked)[(chOf txt s.acked).length - 1]? with
  | none => exact hh.h0
  | some c =>
    obtain ⟨r, hr, rfl⟩ := List.mem_map.1 (List.mem_of_getElem? hc)
    have h1 := h.va.isRange (by omega) r hr
    simp only [isRange, Bool.and_eq_true, decide_eq_true_eq] at h1
    have h2 := h.xa r hr
    show chunkEnd (ckOf txt r) ≤ hi
    rw [ck_end h1.1.1 h1.1.2 (by omega) (by omega)]
    exact hh.b r hr
theorem recv_ok {W : Nat} {txt : List UInt8} {s : Sender} {hi : Int} (h : VC W s) (ht : txt.length = W) (hh : HiOk s hi) : isReceiver (recvOf txt s hi) = true := by
  have h16 := h.hW
  have hg := h.gap
  have hW := hh.hW; have h0 := hh.h0
  have hr := h.rfin
  unfold isReceiver
  rw [recv_buf h ht hi, recv_ready h ht hi]
  have e1 : decide ((recvOf txt s hi).highest < endOf (recvOf txt s hi).buffer) = false := by
    rw [decide_eq_false_iff_not]; have := recv_end h ht hh; show ¬ hi < _; omega
  have e2 : isQuic (recvOf txt s hi).highest = true := by
    show isQuic hi = true; simp only [isQuic, within, Bool.and_eq_true, decide_eq_true_eq]; omega
  rw [e1, e2]
  show (true && !false && true && isQuic 0 && ((bif s.fin == 3 then s.ring.fin else -1) == -1 || within (bif s.fin == 3 then s.ring.fin else -1) hi maxQuic) && _) = true
  cases hf : (s.fin == 3) with
  | false =>
    simp [recvOf, hf, isQuic, within]
  | true =>
    have hfin : s.fin = 3 := by simpa using hf
    have hhi := hh.f hfin
    have e3 : (s.ring.fin == -1) = false := by rw [beq_eq_false_iff_ne]; omega
    have e4 : within s.ring.fin hi maxQuic = true := by simp only [within, maxQuic, Bool.and_eq_true, decide_eq_true_eq]; omega
    have e5 : w64 (0 + s.ring.base) = s.ring.base := by rw [Int.zero_add]; exact w64_id (by omega) (by omega)
    simp only [recvOf, hf, cond_true, e3, e4, e5, Bool.not_false, Bool.or_true, Bool.and_true, Bool.true_and]
    cases hb : (s.ring.base == s.ring.fin) <;> simp [isQuic, within]
end Go.Proofs.Ytbhnekiclbfmgaa
