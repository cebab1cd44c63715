/- The law FnExactRaiseAllow returns true for every allowance: no condition. -/
import Derived.Test.YtcdabfkankcodaaRows
import Derived.Test.YtcdabfkankcodaaRow
import Derived.Test.YtcdabfkankcodaaReads
import Derived.Test.YtcdabfkankcodaaW1
namespace Go.Proofs.Ytcdabfkankcodaa
open SL Go.ChangeShapes Go.WideShapes Go.ChangeAt Go.RowKit
set_option maxRecDepth 100000 in
theorem fnExactRaiseAllow_lifted (os : Os) (started : os.Started) (H : Type) (enc : TypeId × Value → H) :
    ReturnsInHanded {} Try.checked os 12 .any (Rows.fnExactRaiseAllowSpec.pre6 enc Try.prog Try.f12 Rows.fnExactRaiseAllowRow.domain false) (Rows.fnExactRaiseAllowSpec.post enc Try.prog Try.f12 false true false false) := by
  refine returnsInHanded_of_change (C := Try.checked) row_own started (by kernel_rfl) Try.func12
    (ChangeSpec.witness6 (enc := enc) (C := Try.checked) false ⟨#[], #[.agg #[.int .i64 0, .int .i64 0, .int .i64 0, .int .i64 0]], []⟩ 8 (by kernel_rfl) (by kernel_rfl) (by kernel_rfl) (by kernel_rfl)) ?_
  intro W base args ds gs before hval0 hW hcnd _
  have hval : ∀ (j : Nat) t v, Try.f12.params[j]? = some t → args[j]? = some v → Value.okWide Try.prog W .any base t v := hval0
  have hW' := hW
  obtain ⟨p, q, hA0, hV, rfl, hfz, hnd⟩ := hW
  have hA : DataW.TrodAll enc Try.prog W 0 (fun _ => true) true Try.f12.params.toList args.toList ds p := hA0
  rw [Try.params12] at hA hval
  obtain ⟨v0, d0, rfl, rfl, h0⟩ := trodAll_one hA
  obtain ⟨rfl, rfl⟩ := trodVars_none hV
  obtain ⟨cs0, rfl, _⟩ := okWide_struct Try.underlying45 (hval 0 _ _ rfl rfl)
  obtain ⟨fuel0, hf0⟩ := h0
  obtain ⟨a0, hc0⟩ := read_laws_Allow hf0
  obtain rfl : cs0 = a0.cells.toArray := by simpa [Value.cells] using congrArg List.toArray hc0
  refine (law_FnExactRaiseAllow a0 W).mono fun e W' ⟨he, hb⟩ => ⟨_, he, law_post row_laid (by kernel_rfl) rfl Try.underlying4 rfl rfl hW' hb⟩
theorem fnExactRaiseAllow_holds : Rows.FnExactRaiseAllowSaid :=
  OpenClaim.holds_of_wide 12 Try.f12 rfl rfl rfl rfl rfl rfl rfl ⟨rfl, rfl, rfl, rfl, rfl⟩ rfl rfl rfl rfl rfl (by kernel_rfl) Try.func12 (by kernel_rfl)
    (of_decide_eq_true (by kernel_rfl)) (by unfold Func.isWrapper; first | (rw [if_pos (by decide +kernel)]; kernel_rfl) | (rw [if_neg (by decide +kernel)]; exact ⟨rfl, rfl⟩))
    (fun os started H enc _ => fnExactRaiseAllow_lifted os started H enc)
end Go.Proofs.Ytcdabfkankcodaa
