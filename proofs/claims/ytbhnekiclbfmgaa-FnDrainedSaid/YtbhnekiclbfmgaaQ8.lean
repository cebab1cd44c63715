/- The law FnDrained returns true for every byte string: no condition. -/
import Derived.Test.YtbhnekiclbfmgaaRows
import Derived.Test.YtbhnekiclbfmgaaRow
import Derived.Test.YtbhnekiclbfmgaaReadsO
import Derived.Test.YtbhnekiclbfmgaaWDo
namespace Go.Proofs.Ytbhnekiclbfmgaa
open SL Go.ChangeShapes Go.WideShapes Go.ChangeAt Go.RowKit
set_option maxRecDepth 100000 in
theorem fnDrained_lifted (os : Os) (started : os.Started) (H : Type) (enc : TypeId × Value → H) :
    ReturnsInHanded {} Try.checked os 3 .any (Rows.fnDrainedSpec.pre6 enc Try.prog Try.f3 Rows.fnDrainedRow.domain false) (Rows.fnDrainedSpec.post enc Try.prog Try.f3 false true false false) := by
  refine returnsInHanded_of_change (C := Try.checked) row_own started (by kernel_rfl) Try.func3
    (ChangeSpec.witness6 (enc := enc) (C := Try.checked) false ⟨#[], #[.slice none 0 0], []⟩ 8 (by kernel_rfl) (by kernel_rfl) (by kernel_rfl) (by kernel_rfl)) ?_
  intro W base args ds gs before hval0 hW hcnd _
  have hval : ∀ (j : Nat) t v, Try.f3.params[j]? = some t → args[j]? = some v → Value.okWide Try.prog W .any base t v := hval0
  have hW' := hW
  obtain ⟨p, q, hA0, hV, rfl, hfz, hnd⟩ := hW
  have hA : DataW.TrodAll enc Try.prog W 0 (fun _ => true) true Try.f3.params.toList args.toList ds p := hA0
  rw [Try.params3] at hA hval
  obtain ⟨v0, d0, rfl, rfl, h0⟩ := trodAll_one hA
  obtain ⟨rfl, rfl⟩ := trodVars_none hV
  obtain ⟨aa0, ln0, cp0, rfl⟩ := okWide_slice Try.underlying22 (hval 0 _ _ rfl rfl)
  obtain ⟨fuel0, hf0⟩ := h0
  obtain ⟨vv0, l0, ee0, hv0, hb0⟩ := readS_bytes hf0
  obtain rfl : vv0 = .slice aa0 ln0 cp0 := by simpa [Value.cells, eq_comm] using ee0
  refine (law_FnDrained hv0).mono fun e W' ⟨he, hb⟩ => ⟨_, he, law_post row_laid (by kernel_rfl) rfl Try.underlying4 rfl rfl hW' hb⟩
theorem fnDrained_closed : joinedFacts Try.prog 3 Try.f3 Rows.fnDrainedSpec Rows.fnDrainedRow = true := by kernel_rfl
theorem fnDrained_named : Try.prog.funcNamed Rows.fnDrainedRow.func = some 3 := by kernel_rfl
theorem fnDrained_holds : Rows.FnDrainedSaid :=
  OpenClaim.holds_of_wide 3 Try.f3 rfl rfl rfl rfl rfl rfl rfl ⟨rfl, rfl, rfl, rfl, rfl⟩ rfl rfl rfl rfl rfl fnDrained_named Try.func3 fnDrained_closed
    (of_decide_eq_true (by kernel_rfl)) (by unfold Func.isWrapper; first | (rw [if_pos (by decide +kernel)]; kernel_rfl) | (rw [if_neg (by decide +kernel)]; exact ⟨rfl, rfl⟩))
    (fun os started H enc _ => fnDrained_lifted os started H enc)
end Go.Proofs.Ytbhnekiclbfmgaa
