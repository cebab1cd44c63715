/- The law FnExactNewConn returns true for every side and configurations: no condition. -/
import Derived.Test.YtmoegjhihjgmgaaRows
import Derived.Test.YtmoegjhihjgmgaaRow
import Derived.Test.YtmoegjhihjgmgaaReadsD
import Derived.Test.YtmoegjhihjgmgaaWE
namespace Go.Proofs.Ytmoegjhihjgmgaa
open SL Go.ChangeShapes Go.WideShapes Go.ChangeAt Go.RowKit
set_option maxRecDepth 100000 in
theorem fnExactNewConn_lifted (os : Os) (started : os.Started) (H : Type) (enc : TypeId × Value → H) :
    ReturnsInHanded {} Try.checked os 13 .any (Rows.fnExactNewConnSpec.pre6 enc Try.prog Try.f13 Rows.fnExactNewConnRow.domain false) (Rows.fnExactNewConnSpec.post enc Try.prog Try.f13 false true false false) := by
  refine returnsInHanded_of_change (C := Try.checked) row_own started (by kernel_rfl) Try.func13
    (ChangeSpec.witness6 (enc := enc) (C := Try.checked) false ⟨#[], #[.bool false, .agg #[.int .i64 0, .int .i64 0, .int .i64 0, .int .i64 0, .int .i64 0, .int .i64 0, .int .i64 0, .int .i64 0], .agg #[.int .i64 0, .int .i64 0, .int .i64 0, .int .i64 0, .int .i64 0, .int .i64 0, .int .i64 0, .int .i64 0]], []⟩ 8 (by kernel_rfl) (by kernel_rfl) (by kernel_rfl) (by kernel_rfl)) ?_
  intro W base args ds gs before hval0 hW hcnd _
  have hval : ∀ (j : Nat) t v, Try.f13.params[j]? = some t → args[j]? = some v → Value.okWide Try.prog W .any base t v := hval0
  have hW' := hW
  obtain ⟨p, q, hA0, hV, rfl, hfz, hnd⟩ := hW
  have hA : DataW.TrodAll enc Try.prog W 0 (fun _ => true) true Try.f13.params.toList args.toList ds p := hA0
  rw [Try.params13] at hA hval
  obtain ⟨v0, v1, v2, d0, d1, d2, p0, p1, p2, rfl, rfl, rfl, h0, h1, h2⟩ := trodAll_three hA
  obtain ⟨rfl, rfl⟩ := trodVars_none hV
  obtain ⟨b0, rfl, rfl, rfl⟩ := open_bool Try.underlying4 (hval 0 _ _ rfl rfl) h0
  obtain ⟨cs1, rfl, _⟩ := okWide_struct Try.underlying68 (hval 1 _ _ rfl rfl)
  obtain ⟨fuel1, hf1⟩ := h1
  obtain ⟨a1, hc1⟩ := read_laws_Conf hf1
  obtain rfl : cs1 = a1.cells.toArray := by simpa [Value.cells] using congrArg List.toArray hc1
  obtain ⟨cs2, rfl, _⟩ := okWide_struct Try.underlying68 (hval 2 _ _ rfl rfl)
  obtain ⟨fuel2, hf2⟩ := h2
  obtain ⟨a2, hc2⟩ := read_laws_Conf hf2
  obtain rfl : cs2 = a2.cells.toArray := by simpa [Value.cells] using congrArg List.toArray hc2
  refine (law_FnExactNewConn b0 a1 a2 W).mono fun e W' ⟨he, hb⟩ => ⟨_, he, law_post row_laid (by kernel_rfl) rfl Try.underlying4 rfl rfl hW' hb⟩
theorem fnExactNewConn_closed : joinedFacts Try.prog 13 Try.f13 Rows.fnExactNewConnSpec Rows.fnExactNewConnRow = true := by kernel_rfl
theorem fnExactNewConn_named : Try.prog.funcNamed Rows.fnExactNewConnRow.func = some 13 := by kernel_rfl
theorem fnExactNewConn_holds : Rows.FnExactNewConnSaid :=
  OpenClaim.holds_of_wide 13 Try.f13 rfl rfl rfl rfl rfl rfl rfl ⟨rfl, rfl, rfl, rfl, rfl⟩ rfl rfl rfl rfl rfl fnExactNewConn_named Try.func13 fnExactNewConn_closed
    (of_decide_eq_true (by kernel_rfl)) (by unfold Func.isWrapper; first | (rw [if_pos (by decide +kernel)]; kernel_rfl) | (rw [if_neg (by decide +kernel)]; exact ⟨rfl, rfl⟩))
    (fun os started H enc _ => fnExactNewConn_lifted os started H enc)
end Go.Proofs.Ytmoegjhihjgmgaa
