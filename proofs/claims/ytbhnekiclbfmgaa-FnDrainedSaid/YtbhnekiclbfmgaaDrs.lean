/- Sending, losing, acknowledging: what each keeps. No program in sight. -/
import Derived.Test.YtbhnekiclbfmgaaDrq
namespace Go.Proofs.Ytbhnekiclbfmgaa
open SL
def sendQ (s : Sender) (p : Piece) : Sender := bif p.data.size == 0 then s else sendR s (pr p)
def finQ (b : Bool) (s : Sender) (n : Int) : Sender := bif b then setF s n else s
def sendP (s : Sender) (p : Piece) : Sender := stF (finQ p.fin (sendQ s p) 2)
/-- All that holds at the head of the loop. -/
structure Inv (W : Nat) (txt : List UInt8) (s : Sender) (ps : List Piece) (hi : Int) : Prop where
  ht : txt.length = W
  vs : VS W s
  rc : RC txt s
  ps : PS txt s ps
  hi : HiOk s hi
theorem sendQ_facts {W : Nat} {txt : List UInt8} {s : Sender} {p : Piece} (h : VC W s) (ht : txt.length = W) (hn : NextOk W txt s p) :
    VC W (sendQ s p) ∧ (sendQ s p).ring = s.ring ∧ (sendQ s p).acked = s.acked ∧ (sendQ s p).fin = s.fin ∧ ∀ n, Cov (sendQ s p).flight n ↔ Cov s.flight n ∨ inP p n := by
  unfold sendQ
  cases h0 : (p.data.size == 0) with
  | true =>
    have e : p.data.size = 0 := by simpa using h0
    refine ⟨h, rfl, rfl, rfl, fun n => ⟨.inl, fun h => h.resolve_right fun hp => ?_⟩⟩
    have := hp.1; have := hp.2; rw [e] at this; omega
  | false =>
    have e : p.data.size ≠ 0 := by simpa using h0
    obtain ⟨h1, h2⟩ := hn.cov e
    exact ⟨h.sendR h1 (by show p.offset + _ ≤ _; have := hn.ok.hW; omega) fun n a b => h2 n ⟨a, b⟩, rfl, rfl, rfl, fun n => add_cov h.vf h1 n⟩
theorem send_step {W : Nat} {txt : List UInt8} {s : Sender} {ps : List Piece} {hi : Int} {p : Piece} (h : Inv W txt s ps hi) (hn : NextOk W txt s p) :
    Inv W txt (sendP s p) (ps ++ [p]) hi ∧ recvOf txt (sendP s p) hi = recvOf txt s hi := by
  obtain ⟨q1, q2, q3, q4, q5⟩ := sendQ_facts h.vs.toVC h.ht hn
  have c1 : VC W (finQ p.fin (sendQ s p) 2) := by
    unfold finQ
    cases p.fin with
    | true => exact q1.setF (by omega)
    | false => exact q1
  have r1 : (sendP s p).ring = s.ring := by unfold sendP finQ; cases p.fin <;> exact q2
  have r2 : (sendP s p).acked = s.acked := by unfold sendP finQ; cases p.fin <;> exact q3
  have r3 : (sendP s p).flight = (sendQ s p).flight := by unfold sendP finQ; cases p.fin <;> rfl
  have r4 : (sendP s p).fin = bif p.fin then 2 else s.fin := by
    unfold sendP finQ
    cases p.fin with
    | true => rfl
    | false => exact q4
  have r5 : ((sendP s p).fin == 3) = (s.fin == 3) := by
    rw [r4]
    cases hf : p.fin with
    | true => rw [hn.fin hf]; rfl
    | false => rfl
  refine ⟨⟨h.ht, c1.stF, ?_, ⟨fun x hx => ?_, ?_, fun n h0 h1 => ?_, ?_⟩, ⟨by rw [r2]; exact h.hi.b, h.hi.h0, by rw [r1]; exact h.hi.hW, fun hf => by rw [r1]; exact h.hi.f (by have := r5; rw [hf] at this; simpa using this.symm)⟩⟩, ?_⟩
  · intro k hk hl; rw [r1] at hk ⊢; exact h.rc k hk hl
  · rcases List.mem_append.1 hx with hx | hx
    · exact h.ps.ok x hx
    · rw [List.mem_singleton.1 hx]; exact hn.ok
  · refine List.pairwise_append.2 ⟨h.ps.dis, List.pairwise_singleton _ _, fun x hx y hy n ⟨a, b⟩ => ?_⟩
    rw [List.mem_singleton.1 hy] at b
    have hne : p.data.size ≠ 0 := fun e => by have := b.1; have := b.2; rw [e] at this; omega
    have hb := b.1; have hb2 := b.2
    have hw := hn.ok.hW; have h0 := hn.ok.h0; have ht := h.ht
    have hfl : Cov s.flight n := (h.ps.fl n (by omega) (by omega)).2 ⟨x, hx, a⟩
    rcases h.vs.part n (by omega) (by omega) with ⟨_, h2, _⟩ | ⟨h2, _, _⟩ | ⟨h2, _, _⟩
    · exact h2 hfl
    · exact h2 ((hn.cov hne).2 n b)
    · exact h2 ((hn.cov hne).2 n b)
  · rw [r3, q5, h.ps.fl n h0 h1]
    constructor
    · rintro (⟨x, hx, hi⟩ | hi)
      · exact ⟨x, by simp [hx], hi⟩
      · exact ⟨p, by simp, hi⟩
    · rintro ⟨x, hx, hi⟩
      rcases List.mem_append.1 hx with hx | hx
      · exact .inl ⟨x, hx, hi⟩
      · rw [List.mem_singleton.1 hx] at hi; exact .inr hi
  · rw [r4, List.filter_append, List.length_append, h.ps.fins]
    cases hf : p.fin with
    | true => rw [hn.fin hf]; simp [hf]
    | false => simp [hf]
  · unfold recvOf
    rw [r5, r1, r2]
/-! ### a piece is taken out -/
theorem split_at {α : Type} {l : List α} {k : Nat} {q : α} (h : l[k]? = some q) : l = l.take k ++ (q :: l.drop (k + 1)) := by
  obtain ⟨hk, rfl⟩ := List.getElem?_eq_some_iff.1 h
  rw [← List.drop_eq_getElem_cons hk, List.take_append_drop]
structure OutOk (txt : List UInt8) (s : Sender) (ps : List Piece) (q : Piece) (rest : List Piece) : Prop where
  ok : PieceOk txt q
  oks : ∀ p ∈ rest, PieceOk txt p
  dis : rest.Pairwise fun p q => ∀ n, ¬ (inP p n ∧ inP q n)
  fl : ∀ n : Int, 0 ≤ n → n < txt.length → ((Cov s.flight n ∧ ¬ inP q n) ↔ ∃ p ∈ rest, inP p n)
  cov : ∀ n, inP q n → Cov s.flight n
  fin : q.fin = true → s.fin = 2
  fins : (rest.filter (·.fin)).length = if s.fin = 2 then (bif q.fin then 0 else 1) else 0
theorem out_ok {txt : List UInt8} {s : Sender} {ps : List Piece} {k : Nat} {q : Piece} (h : PS txt s ps) (hk : ps[k]? = some q) : OutOk txt s ps q (ps.take k ++ ps.drop (k + 1)) := by
  have hs := split_at hk
  have hq := h.ok q (List.mem_of_getElem? hk)
  have hd := h.dis
  have hsub : (ps.take k ++ ps.drop (k + 1)).Sublist ps := by
    conv => rhs; rw [hs]
    exact List.Sublist.append_left (List.sublist_cons_self _ _) _
  rw [hs] at hd
  obtain ⟨_, d2, d3⟩ := List.pairwise_append.1 hd
  have d4 := (List.pairwise_cons.1 d2).1
  have dq : ∀ x ∈ ps.take k ++ ps.drop (k + 1), ∀ n, ¬ (inP x n ∧ inP q n) := fun x hx n => by
    rcases List.mem_append.1 hx with hx | hx
    · exact d3 x hx q (by simp) n
    · exact fun ⟨a, b⟩ => d4 x hx n ⟨b, a⟩
  have mem : ∀ x, x ∈ ps ↔ x = q ∨ x ∈ ps.take k ++ ps.drop (k + 1) := fun x => by
    conv => lhs; rw [hs]
    simp only [List.mem_append, List.mem_cons]
    constructor
    · rintro (h | h | h)
      · exact .inr (.inl h)
      · exact .inl h
      · exact .inr (.inr h)
    · rintro (h | h | h)
      · exact .inr (.inl h)
      · exact .inl h
      · exact .inr (.inr h)
  have hf := h.fins
  rw [hs, List.filter_append, List.length_append, List.filter_cons] at hf
  have hfin : q.fin = true → s.fin = 2 := fun e => by
    rw [e] at hf
    simp only [if_true, List.length_cons] at hf
    by_cases h2 : s.fin = 2
    · exact h2
    · rw [if_neg h2] at hf; omega
  refine ⟨hq, fun p hp => h.ok p (hsub.subset hp), h.dis.sublist hsub, fun n h0 h1 => ?_, fun n hn => ?_, hfin, ?_⟩
  · rw [h.fl n h0 h1]
    constructor
    · rintro ⟨⟨x, hx, hi⟩, hn⟩
      rcases (mem x).1 hx with rfl | hx
      · exact absurd hi hn
      · exact ⟨x, hx, hi⟩
    · rintro ⟨x, hx, hi⟩
      exact ⟨⟨x, (mem x).2 (.inr hx), hi⟩, fun hn => dq x hx n ⟨hi, hn⟩⟩
  · have a := hq.h0; have b := hq.hW; have c := hn.1; have d := hn.2
    exact (h.fl n (by omega) (by omega)).2 ⟨q, List.mem_of_getElem? hk, hn⟩
  · rw [List.filter_append, List.length_append]
    cases e : q.fin with
    | true =>
      rw [e] at hf
      simp only [if_true, List.length_cons] at hf
      rw [if_pos (hfin e)] at hf ⊢
      show _ = 0; omega
    | false =>
      rw [e] at hf
      simpa using hf
theorem pr_ok {txt : List UInt8} {q : Piece} (h : PieceOk txt q) (ht : txt.length ≤ 16) (hne : q.data.size ≠ 0) : isRange (pr q) = true := by
  have := h.h0; have := h.hW
  show isRange ⟨q.offset, q.offset + (q.data.size : Int)⟩ = true
  simp only [isRange, maxQuic, Bool.and_eq_true, decide_eq_true_eq]; omega
def takeQ (s : Sender) (q : Piece) : Sender := bif q.data.size == 0 then s else takeR s (pr q)
def backQ (s : Sender) (q : Piece) : Sender := bif q.data.size == 0 then s else backR s (pr q)
def ackP (s : Sender) (q : Piece) : Sender := stF (dropR (finQ q.fin (takeQ s q) 3))
def loseP (s : Sender) (q : Piece) : Sender := stF (finQ q.fin (backQ s q) 1)
theorem lose_step {W : Nat} {txt : List UInt8} {s : Sender} {ps rest : List Piece} {hi : Int} {q : Piece} (h : Inv W txt s ps hi) (ho : OutOk txt s ps q rest) :
    Inv W txt (loseP s q) rest hi ∧ recvOf txt (loseP s q) hi = recvOf txt s hi := by
  have h16 := h.vs.hW; have ht := h.ht
  have qf : VC W (backQ s q) ∧ (backQ s q).ring = s.ring ∧ (backQ s q).acked = s.acked ∧ (backQ s q).fin = s.fin ∧ ∀ n, Cov (backQ s q).flight n ↔ Cov s.flight n ∧ ¬ inP q n := by
    unfold backQ
    cases h0 : (q.data.size == 0) with
    | true =>
      have e : q.data.size = 0 := by simpa using h0
      refine ⟨h.vs.toVC, rfl, rfl, rfl, fun n => ⟨fun h => ⟨h, fun hp => ?_⟩, fun h => h.1⟩⟩
      have := hp.1; have := hp.2; rw [e] at this; omega
    | false =>
      have e : q.data.size ≠ 0 := by simpa using h0
      have h1 := pr_ok ho.ok (by omega) e
      exact ⟨h.vs.toVC.loseR h1 fun n a b => ho.cov n ⟨a, b⟩, rfl, rfl, rfl, fun n => rm_cov h.vs.vf h1 n⟩
  obtain ⟨q1, q2, q3, q4, q5⟩ := qf
  have c1 : VC W (finQ q.fin (backQ s q) 1) := by
    unfold finQ
    cases q.fin with
    | true => exact q1.setF (by omega)
    | false => exact q1
  have r1 : (loseP s q).ring = s.ring := by unfold loseP finQ; cases q.fin <;> exact q2
  have r2 : (loseP s q).acked = s.acked := by unfold loseP finQ; cases q.fin <;> exact q3
  have r3 : (loseP s q).flight = (backQ s q).flight := by unfold loseP finQ; cases q.fin <;> rfl
  have r4 : (loseP s q).fin = bif q.fin then 1 else s.fin := by
    unfold loseP finQ
    cases q.fin with
    | true => rfl
    | false => exact q4
  have r5 : ((loseP s q).fin == 3) = (s.fin == 3) := by
    rw [r4]
    cases hf : q.fin with
    | true => rw [ho.fin hf]; rfl
    | false => rfl
  refine ⟨⟨h.ht, c1.stF, ?_, ⟨ho.oks, ho.dis, fun n h0 h1 => by rw [r3, q5]; exact ho.fl n h0 h1, ?_⟩, ⟨by rw [r2]; exact h.hi.b, h.hi.h0, by rw [r1]; exact h.hi.hW, fun hf => by rw [r1]; exact h.hi.f (by have := r5; rw [hf] at this; simpa using this.symm)⟩⟩, ?_⟩
  · intro k hk hl; rw [r1] at hk ⊢; exact h.rc k hk hl
  · rw [ho.fins, r4]
    cases hf : q.fin with
    | true => rw [ho.fin hf]; simp
    | false => simp
  · unfold recvOf
    rw [r5, r1, r2]
theorem ack_step {W : Nat} {txt : List UInt8} {s : Sender} {ps rest : List Piece} {hi : Int} {q : Piece} (h : Inv W txt s ps hi) (ho : OutOk txt s ps q rest) :
    Inv W txt (ackP s q) rest (max hi (q.offset + (q.data.size : Int))) := by
  have h16 := h.vs.hW; have ht := h.ht
  have hW := ho.ok.hW; have h00 := ho.ok.h0
  have eq : dropR (finQ q.fin (takeQ s q) 3) = finQ q.fin (dropR (takeQ s q)) 3 := by unfold finQ; cases q.fin <;> rfl
  have qf : VC W (dropR (takeQ s q)) ∧ RC txt (dropR (takeQ s q)) ∧ (takeQ s q).ring = s.ring ∧ (∀ n, Cov (takeQ s q).acked n ↔ Cov s.acked n ∨ inP q n) ∧ (takeQ s q).fin = s.fin ∧ ∀ n, Cov (takeQ s q).flight n ↔ Cov s.flight n ∧ ¬ inP q n := by
    unfold takeQ
    cases h0 : (q.data.size == 0) with
    | true =>
      have e : q.data.size = 0 := by simpa using h0
      have no : ∀ n, ¬ inP q n := fun n hp => by have := hp.1; have := hp.2; rw [e] at this; omega
      show VC W (dropR s) ∧ RC txt (dropR s) ∧ _
      rw [drop_same h.vs.toVC]
      exact ⟨h.vs.toVC, h.rc, rfl, fun n => ⟨.inl, fun h => h.resolve_right (no n)⟩, rfl, fun n => ⟨fun h => ⟨h, no n⟩, fun h => h.1⟩⟩
    | false =>
      have e : q.data.size ≠ 0 := by simpa using h0
      have h1 := pr_ok ho.ok (by omega) e
      have v := h.vs.toVC.ackR h1 fun n a b => ho.cov n ⟨a, b⟩
      have g := v.gap
      exact ⟨v, RC.drop h.vs.toVC (by rw [h.vs.base]; exact gap_grow h.vs.va h1) g.2 h.rc rfl, rfl, fun n => add_cov h.vs.va h1 n, rfl, fun n => rm_cov h.vs.vf h1 n⟩
  obtain ⟨q1, q1r, q2, q3, q4, q5⟩ := qf
  have c1 : VC W (finQ q.fin (dropR (takeQ s q)) 3) := by
    unfold finQ
    cases q.fin with
    | true => exact q1.setF (by omega)
    | false => exact q1
  have r1 : (ackP s q).ring = (dropR (takeQ s q)).ring := by unfold ackP; rw [eq]; unfold finQ; cases q.fin <;> rfl
  have r2 : (ackP s q).acked = (takeQ s q).acked := by unfold ackP finQ; cases q.fin <;> rfl
  have r3 : (ackP s q).flight = (takeQ s q).flight := by unfold ackP finQ; cases q.fin <;> rfl
  have r4 : (ackP s q).fin = bif q.fin then 3 else s.fin := by
    unfold ackP finQ
    cases q.fin with
    | true => rfl
    | false => exact q4
  have rW : (ackP s q).ring.fin = W := by rw [r1]; exact q1.rfin
  have hiW := h.hi.hW
  have hsW := h.vs.rfin
  refine ⟨h.ht, by unfold ackP; rw [eq]; exact c1.stF, ?_, ⟨ho.oks, ho.dis, fun n h0 h1 => by rw [r3, q5]; exact ho.fl n h0 h1, ?_⟩, ⟨?_, by have := h.hi.h0; omega, by rw [rW]; omega, fun hf => ?_⟩⟩
  · intro k hk hl; rw [r1] at hk ⊢; exact q1r k hk hl
  · rw [ho.fins, r4]
    cases hf : q.fin with
    | true => rw [ho.fin hf]; simp
    | false => simp
  · rw [r2]
    refine hb_of (l := []) q1.va fun n hn => ?_
    rcases (q3 n).1 hn with hc | hc
    · have := h.hi.b.cov_lt hc; omega
    · have := hc.2; omega
  · rw [rW]
    rw [r4] at hf
    cases hq : q.fin with
    | true => have := ho.ok.fin hq; omega
    | false =>
      rw [hq] at hf
      have := h.hi.f hf
      omega
end Go.Proofs.Ytbhnekiclbfmgaa
