/- The law FnStreams returns true for every byte string: no condition. -/
import Derived.Test.YtbhnekiclbfmgaaGreatRows
import Derived.Test.YtbhnekiclbfmgaaGreatRow
import Derived.Test.YtbhnekiclbfmgaaGreatReadsO
import Derived.Test.YtbhnekiclbfmgaaGreatWXK
namespace Go.Proofs.YtbhnekiclbfmgaaGreat
open SL Go.ChangeShapes Go.WideShapes Go.ChangeAt Go.RowKit
set_option maxRecDepth 100000 in
theorem fnStreams_lifted (os : Os) (started : os.Started) (H : Type) (enc : TypeId × Value → H) :
    ReturnsInHanded {} Tryz.checked os 3 .any (Rows.fnStreamsSpec.pre6 enc Tryz.prog Tryz.f3 Rows.fnStreamsRow.domain false) (Rows.fnStreamsSpec.post enc Tryz.prog Tryz.f3 false true false false) := by
  refine returnsInHanded_of_change (C := Tryz.checked) row_own started (by kernel_rfl) Tryz.func3
    (ChangeSpec.witness6 (enc := enc) (C := Tryz.checked) false ⟨#[], #[.slice none 0 0], []⟩ 8 (by kernel_rfl) (by kernel_rfl) (by kernel_rfl) (by kernel_rfl)) ?_
  intro W base args ds gs before hval0 hW hcnd _
  have hval : ∀ (j : Nat) t v, Tryz.f3.params[j]? = some t → args[j]? = some v → Value.okWide Tryz.prog W .any base t v := hval0
  have hW' := hW
  obtain ⟨p, q, hA0, hV, rfl, hfz, hnd⟩ := hW
  have hA : DataW.TrodAll enc Tryz.prog W 0 (fun _ => true) true Tryz.f3.params.toList args.toList ds p := hA0
  rw [Tryz.params3] at hA hval
  obtain ⟨v0, d0, rfl, rfl, h0⟩ := trodAll_one hA
  obtain ⟨rfl, rfl⟩ := trodVars_none hV
  obtain ⟨aa0, ln0, cp0, rfl⟩ := okWide_slice Tryz.underlying22 (hval 0 _ _ rfl rfl)
  obtain ⟨fuel0, hf0⟩ := h0
  obtain ⟨vv0, l0, ee0, hv0, hb0⟩ := readS_bytes hf0
  obtain rfl : vv0 = .slice aa0 ln0 cp0 := by simpa [Value.cells, eq_comm] using ee0
  refine (law_FnStreams hv0).mono fun e W' ⟨he, hb⟩ => ⟨_, he, law_post row_laid (by kernel_rfl) rfl Tryz.underlying4 rfl rfl hW' hb⟩
theorem fnStreams_closed : joinedFacts Tryz.prog 3 Tryz.f3 Rows.fnStreamsSpec Rows.fnStreamsRow = true := by kernel_rfl
theorem fnStreams_named : Tryz.prog.funcNamed Rows.fnStreamsRow.func = some 3 := by kernel_rfl
theorem fnStreams_holds : Rows.FnStreamsSaid :=
  OpenClaim.holds_of_wide 3 Tryz.f3 rfl rfl rfl rfl rfl rfl rfl ⟨rfl, rfl, rfl, rfl, rfl⟩ rfl rfl rfl rfl rfl fnStreams_named Tryz.func3 fnStreams_closed
    (of_decide_eq_true (by kernel_rfl)) (by unfold Func.isWrapper; first | (rw [if_pos (by decide +kernel)]; kernel_rfl) | (rw [if_neg (by decide +kernel)]; exact ⟨rfl, rfl⟩))
    (fun os started H enc _ => fnStreams_lifted os started H enc)
end Go.Proofs.YtbhnekiclbfmgaaGreat
