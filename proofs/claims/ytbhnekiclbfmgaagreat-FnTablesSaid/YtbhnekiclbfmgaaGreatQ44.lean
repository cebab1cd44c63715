/- The law FnTables returns true for every byte string: no condition. -/
import Derived.Test.YtbhnekiclbfmgaaGreatRows
import Derived.Test.YtbhnekiclbfmgaaGreatRow
import Derived.Test.YtbhnekiclbfmgaaGreatReadsO
import Derived.Test.YtbhnekiclbfmgaaGreatWXO
namespace Go.Proofs.YtbhnekiclbfmgaaGreat
open SL Go.ChangeShapes Go.WideShapes Go.ChangeAt Go.RowKit
set_option maxRecDepth 100000 in
theorem fnTables_lifted (os : Os) (started : os.Started) (H : Type) (enc : TypeId × Value → H) :
    ReturnsInHanded {} Tryz.checked os 4 .any (Rows.fnTablesSpec.pre6 enc Tryz.prog Tryz.f4 Rows.fnTablesRow.domain false) (Rows.fnTablesSpec.post enc Tryz.prog Tryz.f4 false true false false) := by
  refine returnsInHanded_of_change (C := Tryz.checked) row_own started (by kernel_rfl) Tryz.func4
    (ChangeSpec.witness6 (enc := enc) (C := Tryz.checked) false ⟨#[], #[.slice none 0 0], []⟩ 8 (by kernel_rfl) (by kernel_rfl) (by kernel_rfl) (by kernel_rfl)) ?_
  intro W base args ds gs before hval0 hW hcnd _
  have hval : ∀ (j : Nat) t v, Tryz.f4.params[j]? = some t → args[j]? = some v → Value.okWide Tryz.prog W .any base t v := hval0
  have hW' := hW
  obtain ⟨p, q, hA0, hV, rfl, hfz, hnd⟩ := hW
  have hA : DataW.TrodAll enc Tryz.prog W 0 (fun _ => true) true Tryz.f4.params.toList args.toList ds p := hA0
  rw [Tryz.params4] at hA hval
  obtain ⟨v0, d0, rfl, rfl, h0⟩ := trodAll_one hA
  obtain ⟨rfl, rfl⟩ := trodVars_none hV
  obtain ⟨aa0, ln0, cp0, rfl⟩ := okWide_slice Tryz.underlying22 (hval 0 _ _ rfl rfl)
  obtain ⟨fuel0, hf0⟩ := h0
  obtain ⟨vv0, l0, ee0, hv0, hb0⟩ := readS_bytes hf0
  obtain rfl : vv0 = .slice aa0 ln0 cp0 := by simpa [Value.cells, eq_comm] using ee0
  refine (law_FnTables hv0).mono fun e W' ⟨he, hb⟩ => ⟨_, he, law_post row_laid (by kernel_rfl) rfl Tryz.underlying4 rfl rfl hW' hb⟩
theorem fnTables_closed : joinedFacts Tryz.prog 4 Tryz.f4 Rows.fnTablesSpec Rows.fnTablesRow = true := by kernel_rfl
theorem fnTables_named : Tryz.prog.funcNamed Rows.fnTablesRow.func = some 4 := by kernel_rfl
theorem fnTables_holds : Rows.FnTablesSaid :=
  OpenClaim.holds_of_wide 4 Tryz.f4 rfl rfl rfl rfl rfl rfl rfl ⟨rfl, rfl, rfl, rfl, rfl⟩ rfl rfl rfl rfl rfl fnTables_named Tryz.func4 fnTables_closed
    (of_decide_eq_true (by kernel_rfl)) (by unfold Func.isWrapper; first | (rw [if_pos (by decide +kernel)]; kernel_rfl) | (rw [if_neg (by decide +kernel)]; exact ⟨rfl, rfl⟩))
    (fun os started H enc _ => fnTables_lifted os started H enc)
end Go.Proofs.YtbhnekiclbfmgaaGreat
