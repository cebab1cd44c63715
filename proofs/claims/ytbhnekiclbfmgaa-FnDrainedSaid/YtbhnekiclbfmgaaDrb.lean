/- Writing into a new sender, and closing it. No program in sight. -/
import Derived.Test.YtbhnekiclbfmgaaDrw
import Derived.Test.YtbhnekiclbfmgaaMark
import Derived.KernelRfl
namespace Go.Proofs.Ytbhnekiclbfmgaa
open SL
def cellsAt (D : List UInt8) (i : Nat) : List Int := (D.take i).map (fun c => (c.toNat : Int)) ++ List.replicate (16 - i) 0
theorem cellsAt_len {D : List UInt8} {i : Nat} (h : i ≤ D.length) (hD : D.length ≤ 16) : (cellsAt D i).length = 16 := by
  simp only [cellsAt, List.length_append, List.length_map, List.length_take, List.length_replicate]; omega
theorem cells_step {D : List UInt8} {i : Nat} {u : UInt8} (hx : D[i]? = some u) (hD : D.length ≤ 16) : (cellsAt D i).set i (IntKind.i64.wrap ((u.toNat : Nat) : Int)) = cellsAt D (i + 1) := by
  have hi := (List.getElem?_eq_some_iff.1 hx).1
  have hu : IntKind.i64.wrap ((u.toNat : Nat) : Int) = ((u.toNat : Nat) : Int) := by
    have := u.toNat_lt
    exact w64_id (by omega) (by omega)
  have hl : ((D.take i).map (fun c : UInt8 => (c.toNat : Int))).length = i := by
    simp only [List.length_map, List.length_take]; omega
  unfold cellsAt
  rw [hu, List.set_append_right _ _ (by omega), hl, Nat.sub_self, show 16 - i = (16 - (i + 1)) + 1 by omega, List.replicate_succ, List.set_cons_zero, take_snoc hx, List.map_append, List.append_assoc]
  rfl
theorem cellsAt_end (D : List UInt8) : cellsAt D D.length = cellsOf D := by
  unfold cellsAt cellsOf; rw [List.take_length]
theorem wr_place {x : Ring} (hx : x = newRing 16) {i : Nat} (h : i < 16) : (w64 (x.fin + (i : Int))).tmod x.size = (i : Int) := by
  subst hx
  show (w64 (0 + (i : Int))).tmod 16 = (i : Int)
  rw [Int.zero_add, w64_id (by omega) (by omega)]
  exact Int.tmod_eq_of_lt (by omega) (by omega)
theorem room16 : roomOf (newRing 16) = 16 := by kernel_rfl
theorem min_room {x : Ring} (hx : x = newRing 16) {D : List UInt8} (hD : D.length ≤ 16) : min (D.length : Int) (roomOf x) = (D.length : Int) := by
  rw [hx, room16]; omega
def sender1 (D : List UInt8) : Sender := ⟨0, ⟨16, 0, D.length, cellsOf D⟩, if D.length = 0 then [] else [⟨0, D.length⟩], [], [], -1, 0, 0, 0⟩
def wrRing (x : Ring) (D : List UInt8) : Ring := { x with fin := w64 (x.fin + (D.length : Int)), cells := cellsAt D D.length }
def wrSender (x : Sender) (D : List UInt8) : Sender := { x with ring := wrRing x.ring D, pending := addRange x.pending ⟨x.ring.fin, w64 (x.ring.fin + (D.length : Int))⟩ }
theorem wr_eq {x : Sender} (hx : x = newSender 16) {D : List UInt8} (hD : D.length ≤ 16) : wrSender x D = sender1 D := by
  subst hx
  have e : w64 (0 + (D.length : Int)) = (D.length : Int) := by rw [Int.zero_add]; exact w64_id (by omega) (by omega)
  have ep : addRange [] ⟨0, w64 (0 + (D.length : Int))⟩ = if D.length = 0 then [] else [(⟨0, (D.length : Int)⟩ : Range)] := by
    rw [e]
    by_cases h0 : D.length = 0
    · rw [if_pos h0, h0]; rfl
    · rw [if_neg h0]
      have : isRange ⟨0, (D.length : Int)⟩ = true := by simp only [isRange, maxQuic, Bool.and_eq_true, decide_eq_true_eq]; omega
      unfold addRange; rw [this]; rfl
  show Sender.mk 0 ⟨16, 0, w64 (0 + (D.length : Int)), cellsAt D D.length⟩ (addRange [] ⟨0, w64 (0 + (D.length : Int))⟩) [] [] (-1) 0 0 0 = sender1 D
  rw [ep, e, cellsAt_end]; rfl
theorem sender1_ok {D : List UInt8} (hD : D.length ≤ 16) : isSender (sender1 D) = true := by
  have h := (inv0 hD).vs.ok
  have hf : following (sender1 D) = 0 := rfl
  simp only [isSender, Bool.and_eq_true] at h ⊢
  obtain ⟨h1, h2⟩ := h
  have e1 : ((sender0 D).state == 4 || (sender0 D).state == 5) = false := rfl
  rw [e1] at h2
  simp only [cond_false, Bool.and_eq_true] at h2
  obtain ⟨⟨⟨⟨⟨⟨a1, a2⟩, a3⟩, a4⟩, a5⟩, a6⟩, a7⟩ := h2
  refine ⟨?_, ?_⟩
  · simp only [senderBase, Bool.and_eq_true] at h1 ⊢
    obtain ⟨⟨⟨⟨⟨⟨b1, b2⟩, b3⟩, b4⟩, b5⟩, b6⟩, b7⟩ := h1
    exact ⟨⟨⟨⟨⟨⟨b1, b2⟩, b3⟩, b4⟩, b5⟩, b6⟩, rfl⟩
  · have e2 : ((sender1 D).state == 4 || (sender1 D).state == 5) = false := rfl
    rw [e2]
    simp only [cond_false, Bool.and_eq_true]
    exact ⟨⟨⟨⟨⟨⟨a1, a2⟩, a3⟩, a4⟩, a5⟩, rfl⟩, rfl⟩
theorem canWrite1 {x : Sender} {D : List UInt8} (hx : x = sender1 D) (hD : D.length ≤ 16) : (isSender x && (x.state == 0 || x.state == 1) && x.final == -1) = true := by
  subst hx; rw [sender1_ok hD]; rfl
theorem new16_ok : isSender (newSender 16) = true := by kernel_rfl
theorem new16_okS : isSenderS (newSender 16) = true := by kernel_rfl
theorem canWrite0 {x : Sender} (hx : x = newSender 16) : (isSender x && (x.state == 0 || x.state == 1) && x.final == -1) = true := by
  subst hx; rw [new16_ok]; rfl
theorem close_eq (D : List UInt8) : ({ sender1 D with final := (sender1 D).ring.fin, fin := 1 } : Sender) = sender0 D := rfl
theorem s_le {x : Sender} {D : List UInt8} (hx : x = newSender 16 ∨ x = sender1 D) (hD : D.length ≤ 16) : x.le 1048576 := by
  rcases hx with rfl | rfl
  · exact ⟨by show (List.replicate 16 (0 : Int)).length ≤ _; simp, by decide, by decide, by decide⟩
  · refine ⟨?_, ?_, by show ([] : List Range).length ≤ _; decide, by show ([] : List Range).length ≤ _; decide⟩
    · have := cellsAt_len (Nat.le_refl D.length) hD
      rw [cellsAt_end] at this
      show (cellsOf D).length ≤ _; omega
    · show (if D.length = 0 then [] else [(⟨0, (D.length : Int)⟩ : Range)]).length ≤ _
      split <;> simp
theorem wmin16 {x : Ring} (hx : x = newRing 16) {D : List UInt8} (hD : D.length ≤ 16) : w64 (x.fin + min (roomOf x) (D.length : Int)) = (D.length : Int) := by
  rw [hx, room16, show min (16 : Int) (D.length : Int) = (D.length : Int) by omega]
  show w64 (0 + (D.length : Int)) = _
  rw [Int.zero_add]; exact w64_id (by omega) (by omega)
end Go.Proofs.Ytbhnekiclbfmgaa
