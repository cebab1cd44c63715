/- What is reckoned on the data with slices: sizes. -/
import Derived.Test.YtbhnekiclbfmgaaDeep
import Derived.Test.YtbhnekiclbfmgaaSlq
namespace Go.Proofs.Ytbhnekiclbfmgaa
open SL Go.RowKit
def thenSz (a : Int) (f : Int → Int) : Int := bif decide (a < 0) then -1 else f a
theorem thenSz_ge {a : Int} {f : Int → Int} (h : 0 ≤ thenSz a f) : 0 ≤ a ∧ 0 ≤ f a := by
  unfold thenSz at h
  by_cases ha : a < 0
  · simp [ha] at h
  · simp [ha] at h; exact ⟨by omega, h⟩
theorem thenSz_of {a : Int} {f : Int → Int} (h : 0 ≤ a) : thenSz a f = f a := by
  unfold thenSz; simp [show ¬ a < 0 by omega]
theorem nn_of {a : Int} (h : decide (a < 0) = false) : 0 ≤ a := by
  have : ¬ a < 0 := by simpa using h
  omega
theorem szLen_ok {α : Type} {l : List α} {n : Int} (hb : l.length ≤ 9223372036854775807) (h0 : 0 ≤ n) (hn : n ≤ 1048576) (h : 0 ≤ szLen l n) : szLen l n ≤ n ∧ l.length ≤ 1048576 := by
  unfold szLen at h ⊢
  rw [w64_id (by omega) (by omega)] at h ⊢
  by_cases h2 : n - (l.length : Int) < 0
  · simp [h2] at h
  · simp [h2]; omega
theorem szStr_ok {s : ByteArray} {n : Int} (hb : s.size ≤ 9223372036854775807) (h0 : 0 ≤ n) (hn : n ≤ 1048576) (h : 0 ≤ szStr s n) : szStr s n ≤ n ∧ s.size ≤ 1048576 := by
  unfold szStr at h ⊢
  rw [w64_id (by omega) (by omega)] at h ⊢
  by_cases h2 : n - (s.size : Int) < 0
  · simp [h2] at h
  · simp [h2]; omega
theorem sz_start {α : Type} {l : List α} {n : Int} (hb : l.length ≤ 9223372036854775807) (h0 : 0 ≤ n) (hn : n ≤ 1048576) (h : decide (w64 (n - l.length) < 0) = false) : (0 ≤ w64 (n - l.length) ∧ w64 (n - l.length) ≤ 1048576) ∧ ∀ g, thenSz (szLen l n) g = g (w64 (n - l.length)) := by
  have h1 := nn_of h
  refine ⟨⟨h1, ?_⟩, fun g => ?_⟩
  · rw [w64_id (by omega) (by omega)]; omega
  · have : szLen l n = w64 (n - l.length) := by unfold szLen; rw [h]; rfl
    rw [this, thenSz_of h1]
theorem sz_neg {α : Type} {l : List α} {n : Int} (h : decide (w64 (n - l.length) < 0) = true) (g : Int → Int) : thenSz (szLen l n) g = -1 := by
  have : szLen l n = -1 := by unfold szLen; rw [h]; rfl
  rw [this]; rfl
def szAll {α : Type} (f : α → Int → Int) : List α → Int → Int
  | [], a => a
  | x :: l, a => thenSz (f x a) (szAll f l)
theorem szAll_ok {α : Type} {f : α → Int → Int} {P Q : α → Prop} (hf : ∀ x a, P x → 0 ≤ a → a ≤ 1048576 → 0 ≤ f x a → f x a ≤ a ∧ Q x) : ∀ {l : List α} {n : Int}, (∀ x ∈ l, P x) → 0 ≤ n → n ≤ 1048576 → 0 ≤ szAll f l n →
    szAll f l n ≤ n ∧ ∀ x ∈ l, Q x
  | [], n, _, _, _, _ => ⟨Int.le_refl _, by simp⟩
  | x :: l, n, hp, h0, hn, h => by
    unfold szAll at h ⊢
    obtain ⟨p, q⟩ := thenSz_ge h
    rw [thenSz_of p]
    obtain ⟨r, t⟩ := hf x n (hp x (by simp)) h0 hn p
    obtain ⟨r', t'⟩ := szAll_ok hf (l := l) (n := f x n) (fun y hy => hp y (by simp [hy])) p (by omega) q
    exact ⟨by omega, fun y hy => by rcases List.mem_cons.1 hy with rfl | hy; exact t; exact t' y hy⟩
def szChunks (l : List Chunk) (n : Int) : Int := thenSz (szLen l n) (szAll (fun c a => szStr c.data a) l)
theorem szChunks_ok {l : List Chunk} {n : Int} (hb : l.length ≤ 9223372036854775807) (hp : ∀ y ∈ l, y.data.size ≤ 9223372036854775807) (h0 : 0 ≤ n) (hn : n ≤ 1048576) (h : 0 ≤ szChunks l n) : szChunks l n ≤ n ∧ (l.length ≤ 1048576 ∧ ∀ y ∈ l, y.data.size ≤ 1048576) := by
  unfold szChunks at h ⊢
  obtain ⟨p, q⟩ := thenSz_ge h
  rw [thenSz_of p]
  obtain ⟨r, t⟩ := szLen_ok hb h0 hn p
  obtain ⟨r', t'⟩ := szAll_ok (P := fun y => y.data.size ≤ 9223372036854775807) (Q := fun y => y.data.size ≤ 1048576) (fun x a hx h0 hn h => szStr_ok hx h0 hn h) hp p (by omega) q
  exact ⟨by omega, t, t'⟩
def szFrames (l : List Frame') (n : Int) : Int := thenSz (szLen l n) (szAll (fun c a => szStr c.data a) l)
theorem szFrames_ok {l : List Frame'} {n : Int} (hb : l.length ≤ 9223372036854775807) (hp : ∀ y ∈ l, y.data.size ≤ 9223372036854775807) (h0 : 0 ≤ n) (hn : n ≤ 1048576) (h : 0 ≤ szFrames l n) : szFrames l n ≤ n ∧ (l.length ≤ 1048576 ∧ ∀ y ∈ l, y.data.size ≤ 1048576) := by
  unfold szFrames at h ⊢
  obtain ⟨p, q⟩ := thenSz_ge h
  rw [thenSz_of p]
  obtain ⟨r, t⟩ := szLen_ok hb h0 hn p
  obtain ⟨r', t'⟩ := szAll_ok (P := fun y => y.data.size ≤ 9223372036854775807) (Q := fun y => y.data.size ≤ 1048576) (fun x a hx h0 hn h => szStr_ok hx h0 hn h) hp p (by omega) q
  exact ⟨by omega, t, t'⟩
def szRing (x : Ring) (n : Int) : Int := thenSz (szLen x.cells n) id
theorem szRing_ok {x : Ring} {n : Int} (hw : x.le 9223372036854775807) (h0 : 0 ≤ n) (hn : n ≤ 1048576) (h : 0 ≤ szRing x n) : szRing x n ≤ n ∧ x.le 1048576 := by
  have w0 : x.cells.length ≤ 9223372036854775807 := hw
  unfold szRing at h ⊢
  obtain ⟨p0, q0⟩ := thenSz_ge h
  rw [thenSz_of p0]
  obtain ⟨r0, t0⟩ := szLen_ok w0 (by omega) (by omega) p0
  refine ⟨by simp only [id]; omega, t0⟩
def szSender (x : Sender) (n : Int) : Int := thenSz (szRing x.ring n) (fun a => thenSz (szLen x.pending a) (fun b => thenSz (szLen x.flight b) (fun c => thenSz (szLen x.acked c) id)))
theorem szSender_ok {x : Sender} {n : Int} (hw : x.le 9223372036854775807) (h0 : 0 ≤ n) (hn : n ≤ 1048576) (h : 0 ≤ szSender x n) : szSender x n ≤ n ∧ x.le 1048576 := by
  obtain ⟨w0, w1, w2, w3⟩ := hw
  unfold szSender at h ⊢
  obtain ⟨p0, q0⟩ := thenSz_ge h
  rw [thenSz_of p0]
  obtain ⟨r0, t0⟩ := szRing_ok w0 (by omega) (by omega) p0
  obtain ⟨p1, q1⟩ := thenSz_ge q0
  rw [thenSz_of p1]
  obtain ⟨r1, t1⟩ := szLen_ok w1 (by omega) (by omega) p1
  obtain ⟨p2, q2⟩ := thenSz_ge q1
  rw [thenSz_of p2]
  obtain ⟨r2, t2⟩ := szLen_ok w2 (by omega) (by omega) p2
  obtain ⟨p3, q3⟩ := thenSz_ge q2
  rw [thenSz_of p3]
  obtain ⟨r3, t3⟩ := szLen_ok w3 (by omega) (by omega) p3
  refine ⟨by simp only [id]; omega, t0, t1, t2, t3⟩
def szBuffer (x : Buffer) (n : Int) : Int := thenSz (szChunks x.chunks n) id
theorem szBuffer_ok {x : Buffer} {n : Int} (hw : x.le 9223372036854775807) (h0 : 0 ≤ n) (hn : n ≤ 1048576) (h : 0 ≤ szBuffer x n) : szBuffer x n ≤ n ∧ x.le 1048576 := by
  obtain ⟨w0, w1⟩ := hw
  unfold szBuffer at h ⊢
  obtain ⟨p0, q0⟩ := thenSz_ge h
  rw [thenSz_of p0]
  obtain ⟨r0, t0⟩ := szChunks_ok w0 w1 (by omega) (by omega) p0
  refine ⟨by simp only [id]; omega, t0.1, t0.2⟩
def szReceiver (x : Receiver) (n : Int) : Int := thenSz (szBuffer x.buffer n) id
theorem szReceiver_ok {x : Receiver} {n : Int} (hw : x.le 9223372036854775807) (h0 : 0 ≤ n) (hn : n ≤ 1048576) (h : 0 ≤ szReceiver x n) : szReceiver x n ≤ n ∧ x.le 1048576 := by
  obtain ⟨w0, w1⟩ := hw
  unfold szReceiver at h ⊢
  obtain ⟨p0, q0⟩ := thenSz_ge h
  rw [thenSz_of p0]
  obtain ⟨r0, t0⟩ := szBuffer_ok ⟨w0, w1⟩ (by omega) (by omega) p0
  refine ⟨by simp only [id]; omega, t0.1, t0.2⟩
def szStream (x : Stream) (n : Int) : Int := thenSz (szSender x.send n) (fun a => thenSz (szReceiver x.recv a) id)
theorem szStream_ok {x : Stream} {n : Int} (hw : x.le 9223372036854775807) (h0 : 0 ≤ n) (hn : n ≤ 1048576) (h : 0 ≤ szStream x n) : szStream x n ≤ n ∧ x.le 1048576 := by
  obtain ⟨w0, w1, w2, w3, w4, w5⟩ := hw
  unfold szStream at h ⊢
  obtain ⟨p0, q0⟩ := thenSz_ge h
  rw [thenSz_of p0]
  obtain ⟨r0, t0⟩ := szSender_ok ⟨w0, w1, w2, w3⟩ (by omega) (by omega) p0
  obtain ⟨p1, q1⟩ := thenSz_ge q0
  rw [thenSz_of p1]
  obtain ⟨r1, t1⟩ := szReceiver_ok ⟨w4, w5⟩ (by omega) (by omega) p1
  refine ⟨by simp only [id]; omega, t0.1, t0.2.1, t0.2.2.1, t0.2.2.2, t1.1, t1.2⟩
def szPacket (x : Packet) (n : Int) : Int := thenSz (szFrames x.frames n) id
theorem szPacket_ok {x : Packet} {n : Int} (hw : x.le 9223372036854775807) (h0 : 0 ≤ n) (hn : n ≤ 1048576) (h : 0 ≤ szPacket x n) : szPacket x n ≤ n ∧ x.le 1048576 := by
  obtain ⟨w0, w1⟩ := hw
  unfold szPacket at h ⊢
  obtain ⟨p0, q0⟩ := thenSz_ge h
  rw [thenSz_of p0]
  obtain ⟨r0, t0⟩ := szFrames_ok w0 w1 (by omega) (by omega) p0
  refine ⟨by simp only [id]; omega, t0.1, t0.2⟩
def szStreams (l : List Stream) (n : Int) : Int := thenSz (szLen l n) (szAll (szStream) l)
theorem szStreams_ok {l : List Stream} {n : Int} (hb : l.length ≤ 9223372036854775807) (hp : ∀ y ∈ l, y.le 9223372036854775807) (h0 : 0 ≤ n) (hn : n ≤ 1048576) (h : 0 ≤ szStreams l n) : szStreams l n ≤ n ∧ (l.length ≤ 1048576 ∧ ∀ y ∈ l, y.le 1048576) := by
  unfold szStreams at h ⊢
  obtain ⟨p, q⟩ := thenSz_ge h
  rw [thenSz_of p]
  obtain ⟨r, t⟩ := szLen_ok hb h0 hn p
  obtain ⟨r', t'⟩ := szAll_ok (f := szStream) (P := fun y => y.le 9223372036854775807) (Q := fun y => y.le 1048576) (fun x a hx h0 hn h => szStream_ok hx h0 hn h) hp p (by omega) q
  exact ⟨by omega, t, t'⟩
def szPackets (l : List Packet) (n : Int) : Int := thenSz (szLen l n) (szAll (szPacket) l)
theorem szPackets_ok {l : List Packet} {n : Int} (hb : l.length ≤ 9223372036854775807) (hp : ∀ y ∈ l, y.le 9223372036854775807) (h0 : 0 ≤ n) (hn : n ≤ 1048576) (h : 0 ≤ szPackets l n) : szPackets l n ≤ n ∧ (l.length ≤ 1048576 ∧ ∀ y ∈ l, y.le 1048576) := by
  unfold szPackets at h ⊢
  obtain ⟨p, q⟩ := thenSz_ge h
  rw [thenSz_of p]
  obtain ⟨r, t⟩ := szLen_ok hb h0 hn p
  obtain ⟨r', t'⟩ := szAll_ok (f := szPacket) (P := fun y => y.le 9223372036854775807) (Q := fun y => y.le 1048576) (fun x a hx h0 hn h => szPacket_ok hx h0 hn h) hp p (by omega) q
  exact ⟨by omega, t, t'⟩
def szConn (x : Conn) (n : Int) : Int := thenSz (szStreams x.streams n) (fun a => thenSz (szPackets x.packets a) id)
theorem szConn_ok {x : Conn} {n : Int} (hw : x.le 9223372036854775807) (h0 : 0 ≤ n) (hn : n ≤ 1048576) (h : 0 ≤ szConn x n) : szConn x n ≤ n ∧ x.le 1048576 := by
  obtain ⟨w0, w1, w2, w3⟩ := hw
  unfold szConn at h ⊢
  obtain ⟨p0, q0⟩ := thenSz_ge h
  rw [thenSz_of p0]
  obtain ⟨r0, t0⟩ := szStreams_ok w0 w1 (by omega) (by omega) p0
  obtain ⟨p1, q1⟩ := thenSz_ge q0
  rw [thenSz_of p1]
  obtain ⟨r1, t1⟩ := szPackets_ok w2 w3 (by omega) (by omega) p1
  refine ⟨by simp only [id]; omega, t0.1, t0.2, t1.1, t1.2⟩
end Go.Proofs.Ytbhnekiclbfmgaa
