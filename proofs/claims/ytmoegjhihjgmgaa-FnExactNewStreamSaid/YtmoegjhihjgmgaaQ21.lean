/- The law FnExactNewStream returns true for every side, stream id and configurations: no condition. -/
import Derived.Test.YtmoegjhihjgmgaaRows
import Derived.Test.YtmoegjhihjgmgaaRow
import Derived.Test.YtmoegjhihjgmgaaReadsD
import Derived.Test.YtmoegjhihjgmgaaWF
namespace Go.Proofs.Ytmoegjhihjgmgaa
open SL Go.ChangeShapes Go.WideShapes Go.ChangeAt Go.RowKit
set_option maxRecDepth 100000 in
theorem fnExactNewStream_lifted (os : Os) (started : os.Started) (H : Type) (enc : TypeId × Value → H) :
    ReturnsInHanded {} Try.checked os 5 .any (Rows.fnExactNewStreamSpec.pre6 enc Try.prog Try.f5 Rows.fnExactNewStreamRow.domain false) (Rows.fnExactNewStreamSpec.post enc Try.prog Try.f5 false true false false) := by
  refine returnsInHanded_of_change (C := Try.checked) row_own started (by kernel_rfl) Try.func5
    (ChangeSpec.witness6 (enc := enc) (C := Try.checked) false ⟨#[], #[.bool false, .int .i64 0, .agg #[.int .i64 0, .int .i64 0, .int .i64 0, .int .i64 0, .int .i64 0, .int .i64 0, .int .i64 0, .int .i64 0], .agg #[.int .i64 0, .int .i64 0, .int .i64 0, .int .i64 0, .int .i64 0, .int .i64 0, .int .i64 0, .int .i64 0]], []⟩ 8 (by kernel_rfl) (by kernel_rfl) (by kernel_rfl) (by kernel_rfl)) ?_
  intro W base args ds gs before hval0 hW hcnd _
  have hval : ∀ (j : Nat) t v, Try.f5.params[j]? = some t → args[j]? = some v → Value.okWide Try.prog W .any base t v := hval0
  have hW' := hW
  obtain ⟨p, q, hA0, hV, rfl, hfz, hnd⟩ := hW
  have hA : DataW.TrodAll enc Try.prog W 0 (fun _ => true) true Try.f5.params.toList args.toList ds p := hA0
  rw [Try.params5] at hA hval
  obtain ⟨v0, v1, v2, v3, d0, d1, d2, d3, p0, p1, p2, p3, rfl, rfl, rfl, h0, h1, h2, h3⟩ := trodAll_four hA
  obtain ⟨rfl, rfl⟩ := trodVars_none hV
  obtain ⟨b0, rfl, rfl, rfl⟩ := open_bool Try.underlying4 (hval 0 _ _ rfl rfl) h0
  obtain ⟨n1, rfl, rfl, rfl, wn1⟩ := open_int Try.underlying3 (hval 1 _ _ rfl rfl) h1
  obtain ⟨cs2, rfl, _⟩ := okWide_struct Try.underlying68 (hval 2 _ _ rfl rfl)
  obtain ⟨fuel2, hf2⟩ := h2
  obtain ⟨a2, hc2⟩ := read_laws_Conf hf2
  obtain rfl : cs2 = a2.cells.toArray := by simpa [Value.cells] using congrArg List.toArray hc2
  obtain ⟨cs3, rfl, _⟩ := okWide_struct Try.underlying68 (hval 3 _ _ rfl rfl)
  obtain ⟨fuel3, hf3⟩ := h3
  obtain ⟨a3, hc3⟩ := read_laws_Conf hf3
  obtain rfl : cs3 = a3.cells.toArray := by simpa [Value.cells] using congrArg List.toArray hc3
  refine (law_FnExactNewStream b0 n1 a2 a3 W).mono fun e W' ⟨he, hb⟩ => ⟨_, he, law_post row_laid (by kernel_rfl) rfl Try.underlying4 rfl rfl hW' hb⟩
theorem fnExactNewStream_closed : joinedFacts Try.prog 5 Try.f5 Rows.fnExactNewStreamSpec Rows.fnExactNewStreamRow = true := by kernel_rfl
theorem fnExactNewStream_named : Try.prog.funcNamed Rows.fnExactNewStreamRow.func = some 5 := by kernel_rfl
theorem fnExactNewStream_holds : Rows.FnExactNewStreamSaid :=
  OpenClaim.holds_of_wide 5 Try.f5 rfl rfl rfl rfl rfl rfl rfl ⟨rfl, rfl, rfl, rfl, rfl⟩ rfl rfl rfl rfl rfl fnExactNewStream_named Try.func5 fnExactNewStream_closed
    (of_decide_eq_true (by kernel_rfl)) (by unfold Func.isWrapper; first | (rw [if_pos (by decide +kernel)]; kernel_rfl) | (rw [if_neg (by decide +kernel)]; exact ⟨rfl, rfl⟩))
    (fun os started H enc _ => fnExactNewStream_lifted os started H enc)
end Go.Proofs.Ytmoegjhihjgmgaa
