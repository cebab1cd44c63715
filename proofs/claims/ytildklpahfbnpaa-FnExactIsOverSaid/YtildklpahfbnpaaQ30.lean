/- The law FnExactIsOver returns true for every stream: no condition. -/
import Derived.Test.YtildklpahfbnpaaRows
import Derived.Test.YtildklpahfbnpaaRow
import Derived.Test.YtildklpahfbnpaaReadsV
import Derived.Test.YtildklpahfbnpaaWV
namespace Go.Proofs.Ytildklpahfbnpaa
open SL Go.ChangeShapes Go.WideShapes Go.ChangeAt Go.RowKit
set_option maxRecDepth 100000 in
theorem fnExactIsOver_lifted (os : Os) (started : os.Started) (H : Type) (enc : TypeId × Value → H) :
    ReturnsInHanded {} Try.checked os 3 .any (Rows.fnExactIsOverSpec.pre6 enc Try.prog Try.f3 Rows.fnExactIsOverRow.domain false) (Rows.fnExactIsOverSpec.post enc Try.prog Try.f3 false true false false) := by
  refine returnsInHanded_of_change (C := Try.checked) row_own started (by kernel_rfl) Try.func3
    (ChangeSpec.witness6 (enc := enc) (C := Try.checked) false ⟨#[], #[.agg #[.int .i64 0, .int .i64 0, .int .i64 0, .int .i64 0, .int .i64 0, .slice none 0 0, .slice none 0 0, .slice none 0 0, .slice none 0 0, .int .i64 0, .int .i64 0, .int .i64 0, .int .i64 0, .int .i64 0, .int .i64 0, .int .i64 0, .int .i64 0, .int .i64 0, .int .i64 0, .slice none 0 0, .int .i64 0, .int .i64 0, .int .i64 0, .int .i64 0, .int .i64 0, .int .i64 0, .int .i64 0, .int .i64 0, .int .i64 0, .int .i64 0, .bool false, .bool false, .bool false, .bool false, .bool false, .bool false, .bool false, .int .i64 0, .bool false]], []⟩ 8 (by kernel_rfl) (by kernel_rfl) (by kernel_rfl) (by kernel_rfl)) ?_
  intro W base args ds gs before hval0 hW hcnd _
  have hval : ∀ (j : Nat) t v, Try.f3.params[j]? = some t → args[j]? = some v → Value.okWide Try.prog W .any base t v := hval0
  have hW' := hW
  obtain ⟨p, q, hA0, hV, rfl, hfz, hnd⟩ := hW
  have hA : DataW.TrodAll enc Try.prog W 0 (fun _ => true) true Try.f3.params.toList args.toList ds p := hA0
  rw [Try.params3] at hA hval
  obtain ⟨v0, d0, rfl, rfl, h0⟩ := trodAll_one hA
  obtain ⟨rfl, rfl⟩ := trodVars_none hV
  obtain ⟨cs0, rfl, _⟩ := okWide_struct Try.underlying40 (hval 0 _ _ rfl rfl)
  obtain ⟨fuel0, hf0⟩ := h0
  obtain ⟨a0, hr0, hb0⟩ := read_laws_Stream hf0
  refine (law_FnExactIsOver (cs := cs0.toList) hr0 hb0).mono fun e W' ⟨he, hb⟩ => ⟨_, he, law_post row_laid (by kernel_rfl) rfl Try.underlying4 rfl rfl hW' hb⟩
theorem fnExactIsOver_closed : joinedFacts Try.prog 3 Try.f3 Rows.fnExactIsOverSpec Rows.fnExactIsOverRow = true := by kernel_rfl
theorem fnExactIsOver_named : Try.prog.funcNamed Rows.fnExactIsOverRow.func = some 3 := by kernel_rfl
theorem fnExactIsOver_holds : Rows.FnExactIsOverSaid :=
  OpenClaim.holds_of_wide 3 Try.f3 rfl rfl rfl rfl rfl rfl rfl ⟨rfl, rfl, rfl, rfl, rfl⟩ rfl rfl rfl rfl rfl fnExactIsOver_named Try.func3 fnExactIsOver_closed
    (of_decide_eq_true (by kernel_rfl)) (by unfold Func.isWrapper; first | (rw [if_pos (by decide +kernel)]; kernel_rfl) | (rw [if_neg (by decide +kernel)]; exact ⟨rfl, rfl⟩))
    (fun os started H enc _ => fnExactIsOver_lifted os started H enc)
end Go.Proofs.Ytildklpahfbnpaa
