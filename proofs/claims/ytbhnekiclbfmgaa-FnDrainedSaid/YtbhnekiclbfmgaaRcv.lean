/- Receivers as they are drawn: their buffers stay small. No program in sight. -/
import Derived.Test.YtbhnekiclbfmgaaNxt
namespace Go.Proofs.Ytbhnekiclbfmgaa
open SL Go.RowKit
/-- Few chunks, all of them ahead of 100. -/
structure FineC (l : List Chunk) : Prop where
  n : l.length ≤ 101
  s : ∀ c ∈ l, c.data.size ≤ 100 ∧ c.offset + (c.data.size : Int) ≤ 100
theorem FineC.nil : FineC [] := ⟨by decide, fun _ h => by cases h⟩
theorem FineC.le {b : Buffer} (h : FineC b.chunks) : b.le 1048576 := ⟨by have := h.n; omega, fun c hc => by have := (h.s c hc).1; omega⟩
theorem FineC.leR {b : Receiver} (h : FineC b.buffer.chunks) : b.le 1048576 := ⟨by have := h.n; omega, fun c hc => by have := (h.s c hc).1; omega⟩
def bufRs (l : List Chunk) : List Range := l.map fun c => ⟨c.offset, chunkEnd c⟩
theorem bufRs_snoc {l : List Chunk} {i : Nat} {c : Chunk} (h : l[i]? = some c) : bufRs (l.take (i + 1)) = bufRs (l.take i) ++ [⟨c.offset, chunkEnd c⟩] := by
  rw [List.take_add_one, h]; simp [bufRs]
theorem bufFrom_vf : ∀ {l : List Chunk} {n : Int}, 0 ≤ n → bufFrom n l = true → (∀ c ∈ l, c.data.size ≤ 100 ∧ c.offset + (c.data.size : Int) ≤ 100) → Vf (n - 1) (bufRs l)
  | [], _, _, _, _ => trivial
  | c :: l, n, h0, h, hs => by
    have hc := hs c (by simp)
    simp only [bufFrom, Bool.and_eq_true, Bool.not_eq_true', decide_eq_false_iff_not, beq_eq_false_iff_ne] at h
    obtain ⟨⟨⟨h1, h2⟩, h3⟩, h4⟩ := h
    have he : chunkEnd c = c.offset + c.data.size := w64_id (by omega) (by omega)
    rw [he, w64_id (by omega) (by omega)] at h4
    have ih := bufFrom_vf (by omega) h4 fun c hc => hs c (by simp [hc])
    refine ⟨by show n - 1 < c.offset; omega, by show c.offset < chunkEnd c; omega, by show chunkEnd c ≤ maxQuic; simp only [maxQuic]; omega, ?_⟩
    have : c.offset + (c.data.size : Int) + 1 - 1 = chunkEnd c := by omega
    rw [this] at ih
    exact ih
theorem buf_vf {b : Buffer} (hb : isBuffer b = true) (hF : FineC b.chunks) : Vf (-1) (bufRs b.chunks) := by
  simp only [isBuffer, isQuic, within, Bool.and_eq_true, decide_eq_true_eq] at hb
  exact (bufFrom_vf hb.1.1 hb.2 hF.s).weaken (by omega)
theorem Vf.mem : ∀ {l : List Range} {b : Int} {r : Range}, Vf b l → r ∈ l → b < r.low ∧ r.low < r.high
  | x :: l, b, r, h, hm => by
    rcases List.mem_cons.1 hm with rfl | hm
    · exact ⟨h.1, h.2.1⟩
    · have h1 := h.2.2.2.mem hm; have h2 := h.1; have h3 := h.2.1
      exact ⟨by omega, h1.2⟩
theorem buf_hb {b : Buffer} (hb : isBuffer b = true) (hF : FineC b.chunks) : Hb 100 (bufRs b.chunks) := by
  intro r hr
  have h1 := (buf_vf hb hF).mem hr
  obtain ⟨c, hc, rfl⟩ := List.mem_map.1 hr
  have h2 := hF.s c hc
  simp only [chunkEnd] at h1 ⊢
  rw [w64_id (by omega) (by omega)]
  exact h2.2
def byteHit (n : Int) (c : Chunk) : Bool := decide (0 ≤ n) && decide (0 ≤ c.offset) && decide (0 ≤ w64 (n - c.offset)) && decide (w64 (n - c.offset) < (c.data.size : Int))
theorem hit_of_cov {b : Buffer} (hb : isBuffer b = true) (hF : FineC b.chunks) {n : Int} (h : Cov (bufRs b.chunks) n) : ∃ c ∈ b.chunks, byteHit n c = true := by
  obtain ⟨q, hq, h1, h2⟩ := h
  have h3 := (buf_vf hb hF).mem hq
  obtain ⟨c, hc, rfl⟩ := List.mem_map.1 hq
  refine ⟨c, hc, ?_⟩
  have h4 := hF.s c hc
  simp only [chunkEnd] at h1 h2 h3
  rw [w64_id (by omega) (by omega)] at h2
  simp only [byteHit, Bool.and_eq_true, decide_eq_true_eq]
  rw [w64_id (by omega) (by omega)]
  omega
theorem hit_snoc {n : Int} {l : List Chunk} {i : Nat} {c : Chunk} (h : ∀ c ∈ l.take i, byteHit n c = false) (hx : l[i]? = some c) (hc : byteHit n c = false) : ∀ c ∈ l.take (i + 1), byteHit n c = false := by
  intro y hy
  rw [List.take_add_one, hx] at hy
  rcases List.mem_append.1 hy with hy | hy
  · exact h y hy
  · simp at hy; subst hy; exact hc
theorem hit_get {k : Int} {c : Chunk} (h1 : decide (0 ≤ k) = true) (h2 : decide (k < (c.data.size : Int)) = true) : ∃ (i : Nat) (u : UInt8), k = (i : Int) ∧ c.data.data.toList[i]? = some u := by
  have h1 := of_decide_eq_true h1; have h2 := of_decide_eq_true h2
  have h3 : c.data.size = c.data.data.toList.length := rfl
  obtain ⟨u, hu⟩ := get_of_lt (show k.toNat < c.data.data.toList.length by omega)
  exact ⟨k.toNat, u, by omega, hu⟩
theorem byte_nn (u : UInt8) : ¬ IntKind.i64.wrap (u.toNat : Int) < 0 := by
  have := u.toNat_lt
  have e : IntKind.i64.wrap (u.toNat : Int) = (u.toNat : Int) := w64_of (by omega) (by omega)
  rw [e]; omega
/-- Where data goes in. -/
theorem ins_facts {b : Buffer} (hb : isBuffer b = true) (hF : FineC b.chunks) {o : Int} {n : Nat} (ho : 0 ≤ o) (hn : o + (n : Int) ≤ 100) :
    Vf (-1) (addRange (bufRs b.chunks) ⟨max o b.next, w64 (o + (n : Int))⟩) ∧ Hb 100 (addRange (bufRs b.chunks) ⟨max o b.next, w64 (o + (n : Int))⟩) ∧ (addRange (bufRs b.chunks) ⟨max o b.next, w64 (o + (n : Int))⟩).length ≤ 101 := by
  have h1 : Vf (-1) (addRange (bufRs b.chunks) ⟨max o b.next, w64 (o + (n : Int))⟩) := addRange_vf (buf_vf hb hF)
  have h2 : Hb 100 (addRange (bufRs b.chunks) ⟨max o b.next, w64 (o + (n : Int))⟩) := addRange_hb (buf_hb hb hF) (by show w64 (o + (n : Int)) ≤ 100; rw [w64_id (by omega) (by omega)]; exact hn)
  have h3 := h1.len h2 (by omega)
  exact ⟨h1, h2, by omega⟩
theorem ins_at {b : Buffer} (hb : isBuffer b = true) (hF : FineC b.chunks) {o n : Int} {D : List UInt8} {r : Range} (ho : 0 ≤ o) (hn : o + (D.length : Int) ≤ 100)
    (hr : r ∈ addRange (bufRs b.chunks) ⟨max o b.next, w64 (o + (D.length : Int))⟩) (h1 : r.low ≤ n) (h2 : n < r.high) (hno : ∀ c ∈ b.chunks, byteHit n c = false) : ∃ (k : Nat) (u : UInt8), w64 (n - o) = (k : Int) ∧ D[k]? = some u := by
  rcases addRange_cov ⟨r, hr, h1, h2⟩ with hc | hc
  · obtain ⟨c, hc, hh⟩ := hit_of_cov hb hF hc
    rw [hno c hc] at hh; cases hh
  · have h3 : max o b.next ≤ n := hc.1
    have h4 : n < w64 (o + (D.length : Int)) := hc.2
    rw [w64_id (by omega) (by omega)] at h4
    obtain ⟨u, hu⟩ := get_of_lt (show (n - o).toNat < D.length by omega)
    exact ⟨(n - o).toNat, u, by rw [w64_id (by omega) (by omega)]; omega, hu⟩
theorem FineC.snoc {l : List Chunk} {i : Nat} {r : Range} {s : List UInt8} {n : Int} (h : ∀ c ∈ l, c.data.size ≤ 100 ∧ c.offset + (c.data.size : Int) ≤ 100) (h1 : -1 < r.low) (h2 : r.high ≤ 100) (h3 : r.low ≤ n) (h4 : n ≤ r.high) (h5 : (s.length : Int) = n - r.low) :
    ∀ c ∈ l ++ [⟨r.low, mkS s⟩], c.data.size ≤ 100 ∧ c.offset + (c.data.size : Int) ≤ 100 := by
  intro c hc
  rcases List.mem_append.1 hc with hc | hc
  · exact h c hc
  · simp only [List.mem_cons, List.not_mem_nil, or_false] at hc; subst hc
    have h6 : (mkS s).size = s.length := by simp [ByteArray.size]
    simp only [h6]
    omega
def recvFin (x : Receiver) (e : Int) (f : Bool) : Int := bif (!(x.final == -1) && (decide (x.final < e) || f && !(e == x.final))) || (f && decide (e < x.highest)) then 6 else 0
end Go.Proofs.Ytbhnekiclbfmgaa
