/- Receiving, and the end. No program in sight. -/
import Derived.Test.YtbhnekiclbfmgaaDrs
import Derived.Laws.Closers25b
namespace Go.Proofs.Ytbhnekiclbfmgaa
open SL
def insM (b : Buffer) (o e : Int) (D : List UInt8) : Buffer := bif D.length == 0 then b else ⟨b.next, joinGo [] (piecesOf o e D (max o b.next) b.chunks)⟩
def recvM (r : Receiver) (o e : Int) (D : List UInt8) (f : Bool) : Receiver :=
  ⟨bif !((bif f then e else r.final) == -1) && w64 ((insM r.buffer o e D).next + readyBytes (insM r.buffer o e D)) == (bif f then e else r.final) then 2 else bif f then 1 else r.state, insM r.buffer o e D, bif f then e else r.final, max r.highest e, r.code⟩
theorem recv_step {W : Nat} {txt : List UInt8} {s : Sender} {ps rest : List Piece} {hi : Int} {q : Piece} (h : Inv W txt s ps hi) (ho : OutOk txt s ps q rest) :
    recvM (recvOf txt s hi) q.offset (q.offset + (q.data.size : Int)) (seg txt q.offset (q.offset + (q.data.size : Int))) q.fin = recvOf txt (ackP s q) (max hi (q.offset + (q.data.size : Int))) := by
  have h16 := h.vs.hW; have ht := h.ht
  have hW := ho.ok.hW; have h00 := ho.ok.h0
  have hA := ack_step h ho
  have ebuf : insM (recvOf txt s hi).buffer q.offset (q.offset + (q.data.size : Int)) (seg txt q.offset (q.offset + (q.data.size : Int))) = (recvOf txt (ackP s q) (max hi (q.offset + (q.data.size : Int)))).buffer := by
    have hl := seg_len (txt := txt) (a := q.offset) (b := q.offset + (q.data.size : Int)) h00 (by omega) hW
    have ea : (ackP s q).acked = (takeQ s q).acked := by unfold ackP finQ; cases q.fin <;> rfl
    show insM ⟨0, chOf txt s.acked⟩ _ _ _ = ⟨0, chOf txt (ackP s q).acked⟩
    unfold insM
    rw [ea]
    unfold takeQ
    cases h0 : (q.data.size == 0) with
    | true =>
      have e : q.data.size = 0 := by simpa using h0
      have : ((seg txt q.offset (q.offset + (q.data.size : Int))).length == 0) = true := by rw [beq_iff_eq]; omega
      rw [this]; rfl
    | false =>
      have e : q.data.size ≠ 0 := by simpa using h0
      have : ((seg txt q.offset (q.offset + (q.data.size : Int))).length == 0) = false := by rw [beq_eq_false_iff_ne]; omega
      rw [this]
      have hr := pr_ok ho.ok (by omega) e
      have := ins_law h.vs.toVC ht hr (by show q.offset + _ ≤ _; omega)
      show Buffer.mk 0 (joinGo [] (piecesOf _ _ _ (max q.offset 0) (chOf txt s.acked))) = ⟨0, chOf txt (addRange s.acked (pr q))⟩
      rw [show max q.offset 0 = q.offset by omega]
      exact congrArg (Buffer.mk 0) this
  have erdy := recv_ready hA.vs.toVC ht (max hi (q.offset + (q.data.size : Int)))
  have hg := hA.vs.toVC.gap
  have hg0 := h.vs.toVC.gap
  have eW := hA.vs.rfin
  have eW0 := h.vs.rfin
  have r4 : (ackP s q).fin = bif q.fin then 3 else s.fin := by
    unfold ackP finQ takeQ
    cases q.fin <;> cases (q.data.size == 0) <;> rfl
  unfold recvM
  rw [ebuf, erdy, show (recvOf txt (ackP s q) (max hi (q.offset + (q.data.size : Int)))).buffer.next = 0 from rfl, Int.zero_add, w64_id (by omega) (by omega)]
  have hmono : s.ring.base ≤ (ackP s q).ring.base := by
    rw [hA.vs.base, h.vs.base]
    have ea : (ackP s q).acked = (takeQ s q).acked := by unfold ackP finQ; cases q.fin <;> rfl
    rw [ea]
    unfold takeQ
    cases h0 : (q.data.size == 0) with
    | true => exact Int.le_refl _
    | false => exact gap_grow h.vs.va (pr_ok ho.ok (by omega) (by simpa using h0))
  cases hf : q.fin with
  | true =>
    have e := ho.ok.fin hf
    rw [hf] at r4
    have e1 : (q.offset + (q.data.size : Int) == -1) = false := by rw [beq_eq_false_iff_ne]; omega
    simp only [cond_true, e1, Bool.not_false, Bool.true_and]
    unfold recvOf
    have r4' : ((ackP s q).fin == 3) = true := by rw [r4]; rfl
    rw [r4', eW, e, ht]
    rfl
  | false =>
    rw [hf] at r4
    have r4' : ((ackP s q).fin == 3) = (s.fin == 3) := by rw [r4]; rfl
    simp only [cond_false]
    unfold recvOf
    rw [r4', eW, eW0]
    cases h3 : (s.fin == 3) with
    | false => rfl
    | true =>
      have e1 : ((W : Int) == -1) = false := by rw [beq_eq_false_iff_ne]; omega
      simp only [cond_true, e1, Bool.not_false, Bool.true_and]
      cases hb : ((ackP s q).ring.base == (W : Int)) with
      | true => rfl
      | false =>
        have hb' : (ackP s q).ring.base ≠ (W : Int) := by simpa using hb
        have : (s.ring.base == (W : Int)) = false := by rw [beq_eq_false_iff_ne]; omega
        rw [this]; rfl
/-- The end: all is acknowledged, nothing is under way, all was received. -/
theorem the_end {W : Nat} {txt : List UInt8} {s : Sender} {ps : List Piece} {hi : Int} (h : Inv W txt s ps hi) (h3 : s.state = 3) :
    ps = [] ∧ (recvOf txt s hi).state = 2 ∧ s.acked = (if W = 0 then [] else [⟨0, W⟩]) := by
  have ht := h.ht
  have hst := h.vs.st
  rw [h3] at hst
  have hh : s.fin = 3 ∧ s.ring.base = s.ring.fin := by
    unfold following at hst
    cases hc : (s.fin == 3 && s.ring.base == s.ring.fin) with
    | true => simpa using hc
    | false =>
      rw [hc] at hst
      cases h1 : (s.fin == 2 || s.fin == 3 || s.fin == 1 && s.state == 2) <;> cases h2 : (decide (0 < s.sent) || s.fin == 1 && s.state == 1) <;> rw [h1] at hst <;> simp [h2] at hst
  obtain ⟨hf, hb⟩ := hh
  have hb0 := h.vs.base
  have hall : ∀ n : Int, 0 ≤ n → n < W → Cov s.acked n := fun n h0 h1 => below_gap h.vs.va h0 (by have := h.vs.rfin; omega)
  refine ⟨?_, ?_, ?_⟩
  · cases hp : ps with
    | nil => rfl
    | cons p t =>
      exfalso
      have hpm : p ∈ ps := by rw [hp]; simp
      have ok := h.ps.ok p hpm
      have hfins := h.ps.fins
      rw [if_neg (by omega)] at hfins
      have hnf : p.fin = false := by
        cases e : p.fin with
        | false => rfl
        | true =>
          have : p ∈ ps.filter (·.fin) := List.mem_filter.2 ⟨hpm, e⟩
          rw [List.length_eq_zero_iff.1 hfins] at this
          cases this
      have hne : p.data.size ≠ 0 := fun e => by rw [ok.ne e] at hnf; cases hnf
      have a := ok.h0; have b := ok.hW
      have hfl := (h.ps.fl p.offset a (by omega)).2 ⟨p, hpm, by constructor <;> omega⟩
      have hac := hall p.offset a (by omega)
      rcases h.vs.part p.offset a (by omega) with ⟨_, h2, _⟩ | ⟨_, _, h2⟩ | ⟨_, h2, _⟩
      · exact h2 hfl
      · exact h2 hac
      · exact h2 hfl
  · show (bif s.fin == 3 then (bif s.ring.base == s.ring.fin then (2 : Int) else 1) else 0) = 2
    rw [hf, hb]; simp
  · have h16 := h.vs.hW
    by_cases hW : W = 0
    · rw [if_pos hW]
      refine canon h.vs.va (l' := []) (b' := -1) trivial fun n => ⟨fun hc => ?_, fun hc => absurd hc cov_nil⟩
      have h1 := h.vs.va.cov_lt hc; have h2 := h.vs.xa.cov_lt hc; omega
    · rw [if_neg hW]
      refine canon h.vs.va (l' := [⟨0, W⟩]) (b' := -1) ⟨by show (-1 : Int) < 0; omega, by show (0 : Int) < W; omega, by show (W : Int) ≤ maxQuic; unfold maxQuic; omega, trivial⟩ fun n => ?_
      rw [cov_cons]
      constructor
      · intro hc
        have h1 := h.vs.va.cov_lt hc; have h2 := h.vs.xa.cov_lt hc
        exact .inl ⟨by show (0 : Int) ≤ n; omega, h2⟩
      · rintro (hc | hc)
        · exact hall n hc.1 hc.2
        · exact absurd hc cov_nil
/-! ### the beginning -/
def cellsOf (txt : List UInt8) : List Int := txt.map (fun c => (c.toNat : Int)) ++ List.replicate (16 - txt.length) 0
def sender0 (txt : List UInt8) : Sender := ⟨0, ⟨16, 0, txt.length, cellsOf txt⟩, if txt.length = 0 then [] else [⟨0, txt.length⟩], [], [], txt.length, 1, 0, 0⟩
theorem inv0 {txt : List UInt8} (h : txt.length ≤ 16) : Inv txt.length txt (sender0 txt) [] 0 := by
  have hv : Vf (-1) (sender0 txt).pending := by
    show Vf (-1) (if txt.length = 0 then [] else [⟨0, txt.length⟩])
    by_cases h0 : txt.length = 0
    · rw [if_pos h0]; trivial
    · rw [if_neg h0]; exact ⟨by show (-1 : Int) < 0; omega, by show (0 : Int) < txt.length; omega, by show (txt.length : Int) ≤ maxQuic; unfold maxQuic; omega, trivial⟩
  have hc : ∀ n : Int, 0 ≤ n → n < txt.length → Cov (sender0 txt).pending n := fun n h1 h2 => by
    show Cov (if txt.length = 0 then [] else [⟨0, txt.length⟩]) n
    rw [if_neg (by omega)]; exact cov_cons.2 (.inl ⟨h1, h2⟩)
  refine ⟨rfl, { hW := h, size := rfl, len := ?_, byte := fun c hcm => ?_, rfin := rfl, base := rfl, vp := hv, vf := trivial, va := trivial, xp := fun x hx => ?_, xf := hb_nil _, xa := hb_nil _, part := fun n h1 h2 => .inl ⟨hc n h1 h2, cov_nil, cov_nil⟩, sent0 := Int.le_refl 0, sentW := by show (0 : Int) ≤ txt.length; omega, sf := hb_nil _, sa := hb_nil _, fn := by show (1 : Int) ≤ 1 ∧ (1 : Int) ≤ 3; omega, final := rfl, code := rfl, st := rfl }, fun k h1 h2 => ?_, ⟨by simp, List.Pairwise.nil, fun n _ _ => ⟨fun h => absurd h cov_nil, fun ⟨_, h, _⟩ => by cases h⟩, rfl⟩, ⟨hb_nil _, Int.le_refl 0, by show (0 : Int) ≤ txt.length; omega, fun h => by cases h⟩⟩
  · show (cellsOf txt).length = 16
    simp only [cellsOf, List.length_append, List.length_map, List.length_replicate]; omega
  · rcases List.mem_append.1 (show c ∈ txt.map (fun c => (c.toNat : Int)) ++ List.replicate (16 - txt.length) 0 from hcm) with hcm | hcm
    · obtain ⟨u, _, rfl⟩ := List.mem_map.1 hcm
      have := u.toNat_lt
      simp only [within, Bool.and_eq_true, decide_eq_true_eq]; omega
    · rw [(List.mem_replicate.1 hcm).2]; decide
  · have hx' : x ∈ (if txt.length = 0 then [] else [(⟨0, txt.length⟩ : Range)]) := hx
    by_cases h0 : txt.length = 0
    · rw [if_pos h0] at hx'; cases hx'
    · rw [if_neg h0] at hx'; rw [List.mem_singleton.1 hx']; exact Int.le_refl _
  · show (cellsOf txt)[k]? = _
    rw [cellsOf, List.getElem?_append_left (by simpa using h2), List.getElem?_map]
theorem zeroed_step {size a t : Int} {k : Nat} {l : List Int} {z : List Int} (ha : 0 ≤ a) (ht : t ≤ 4611686018427387903) (hl : a < t) (hk : a.tmod size = (k : Int)) (h : z = zeroed size (t - a).toNat a l) :
    z = zeroed size (t - w64 (a + 1)).toNat (w64 (a + 1)) (l.set k 0) := by
  rw [w64_id (by omega) (by omega), h, show (t - a).toNat = (t - (a + 1)).toNat + 1 by omega, zeroed, hk]
  rfl
theorem str_nil : ByteArray.empty.toList = [] := (toList_nil_iff_emptyBytes _).2 rfl
theorem str_ne {b : ByteArray} (h : b.size ≠ 0) : (b.toList == ByteArray.empty.toList) = false := by
  rw [beq_eq_false_iff_ne, str_nil]
  intro e
  rw [(toList_nil_iff_emptyBytes _).1 e] at h
  exact h rfl
theorem str_eq {b : ByteArray} (h : b.size = 0) : (b.toList == ByteArray.empty.toList) = true := by
  have : b = ByteArray.empty := by
    apply ByteArray.ext
    exact Array.eq_empty_of_size_eq_zero h
  rw [this, beq_iff_eq]
end Go.Proofs.Ytbhnekiclbfmgaa
