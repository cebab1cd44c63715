/- The argument of the law, read: bytes. -/
import Derived.Test.YtbhnekiclbfmgaaRd
import Derived.Test.YtbhnekiclbfmgaaCur
import Derived.Test.YtbhnekiclbfmgaaProg
import Derived.Test.YtbhnekiclbfmgaaChecked
namespace Go.Proofs.Ytbhnekiclbfmgaa
open SL Go.ChangeShapes Go.WideShapes Go.ChangeAt Go.RowKit
theorem row_own : ownKnob Try.prog.godebug = none := by kernel_rfl
theorem row_laid : laidOutB Try.prog = true := by kernel_rfl
theorem byte_wf {a : Int} (h : (Lit.int .u8 a).wf = true) : ∃ u : UInt8, (u.toNat : Int) = a := by
  have h1 : 0 ≤ a ∧ a ≤ 255 := by
    have h2 := h
    simp only [Lit.wf, Bool.and_eq_true, decide_eq_true_eq] at h2
    exact h2
  exact ⟨UInt8.ofNat a.toNat, by rw [UInt8.toNat_ofNat']; omega⟩
theorem readS_bytes {H : Type} {enc : TypeId × Value → H} {W : World} {base : Nat} {sp : Nat → Bool} {held : Bool} {fuel : Nat} {cs : List Value} {x : DataW H × List MemPlace}
    (h : DataW.trod enc Try.prog W base sp held fuel 22 cs = some x) : ∃ (v : Value) (l : List UInt8), cs = [v] ∧ RdS W 1 (Pl byC) v l ∧ l.length ≤ 9223372036854775807 :=
  read_slice Try.underlying22 (by kernel_rfl) (by decide) (fun n cs y h => by
    obtain ⟨a, e, _, hw⟩ := DataW.trod_int Try.underlying5 h
    obtain ⟨u, hu⟩ := byte_wf hw
    exact ⟨u, by rw [e, ← hu]; rfl⟩) h
end Go.Proofs.Ytbhnekiclbfmgaa
