/- The law FnCounts returns true for every byte string: no condition. -/
import Derived.Test.YtajcfmibcnibpaaRows
import Derived.Test.YtajcfmibcnibpaaRow
import Derived.Test.YtajcfmibcnibpaaReadsO
import Derived.Test.YtajcfmibcnibpaaWX
namespace Go.Proofs.Ytajcfmibcnibpaa
open SL Go.ChangeShapes Go.WideShapes Go.ChangeAt Go.RowKit
set_option maxRecDepth 100000 in
theorem fnCounts_lifted (os : Os) (started : os.Started) (H : Type) (enc : TypeId × Value → H) :
    ReturnsInHanded {} Try.checked os 6 .any (Rows.fnCountsSpec.pre6 enc Try.prog Try.f6 Rows.fnCountsRow.domain false) (Rows.fnCountsSpec.post enc Try.prog Try.f6 false true false false) := by
  refine returnsInHanded_of_change (C := Try.checked) row_own started (by kernel_rfl) Try.func6
    (ChangeSpec.witness6 (enc := enc) (C := Try.checked) false ⟨#[], #[.slice none 0 0], []⟩ 8 (by kernel_rfl) (by kernel_rfl) (by kernel_rfl) (by kernel_rfl)) ?_
  intro W base args ds gs before hval0 hW hcnd _
  have hval : ∀ (j : Nat) t v, Try.f6.params[j]? = some t → args[j]? = some v → Value.okWide Try.prog W .any base t v := hval0
  have hW' := hW
  obtain ⟨p, q, hA0, hV, rfl, hfz, hnd⟩ := hW
  have hA : DataW.TrodAll enc Try.prog W 0 (fun _ => true) true Try.f6.params.toList args.toList ds p := hA0
  rw [Try.params6] at hA hval
  obtain ⟨v0, d0, rfl, rfl, h0⟩ := trodAll_one hA
  obtain ⟨rfl, rfl⟩ := trodVars_none hV
  obtain ⟨aa0, ln0, cp0, rfl⟩ := okWide_slice Try.underlying36 (hval 0 _ _ rfl rfl)
  obtain ⟨fuel0, hf0⟩ := h0
  obtain ⟨vv0, l0, ee0, hv0, hb0⟩ := readS_bytes hf0
  obtain rfl : vv0 = .slice aa0 ln0 cp0 := by simpa [Value.cells, eq_comm] using ee0
  refine (law_FnCounts hv0).mono fun e W' ⟨he, hb⟩ => ⟨_, he, law_post row_laid (by kernel_rfl) rfl Try.underlying4 rfl rfl hW' hb⟩
theorem fnCounts_closed : joinedFacts Try.prog 6 Try.f6 Rows.fnCountsSpec Rows.fnCountsRow = true := by kernel_rfl
theorem fnCounts_named : Try.prog.funcNamed Rows.fnCountsRow.func = some 6 := by kernel_rfl
theorem fnCounts_holds : Rows.FnCountsSaid :=
  OpenClaim.holds_of_wide 6 Try.f6 rfl rfl rfl rfl rfl rfl rfl ⟨rfl, rfl, rfl, rfl, rfl⟩ rfl rfl rfl rfl rfl fnCounts_named Try.func6 fnCounts_closed
    (of_decide_eq_true (by kernel_rfl)) (by unfold Func.isWrapper; first | (rw [if_pos (by decide +kernel)]; kernel_rfl) | (rw [if_neg (by decide +kernel)]; exact ⟨rfl, rfl⟩))
    (fun os started H enc _ => fnCounts_lifted os started H enc)
end Go.Proofs.Ytajcfmibcnibpaa
