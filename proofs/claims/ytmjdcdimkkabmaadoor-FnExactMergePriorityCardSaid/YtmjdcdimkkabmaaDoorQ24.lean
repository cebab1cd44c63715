/- The law FnExactMergePriority returns true for every input. The package variables that the row lists start as the program's text lays them: the card ties them. -/
import Derived.Test.YtmjdcdimkkabmaaDoorRows
import Derived.Test.YtmjdcdimkkabmaaDoorCards
import Derived.Test.YtmjdcdimkkabmaaDoorTie
import Derived.Test.YtmjdcdimkkabmaaDoorRowL
import Derived.Test.YtmjdcdimkkabmaaDoorReadsP
import Derived.Test.YtmjdcdimkkabmaaDoorWM
import Derived.LaidMore
import Derived.ChangeMaps5
import Derived.Lay
import Derived.SevenTiedAt
import Derived.Stop.Joined
namespace Go.Proofs.YtmjdcdimkkabmaaDoor
open SL Go.ChangeShapes Go.WideShapes Go.ChangeAt Go.RowKit
set_option maxRecDepth 100000 in
theorem fnExactMergePriority_witness (os : Os) (H : Type) (enc : TypeId × Value → H) : ∃ (w : World) (tape : Tape) (i : Input), w.os = os ∧ (w.forCall tape i).Shaped Tryd.checked.prog ∧ i.vars = [] ∧ Input.okWide Tryd.checked.prog (w.forCall tape i) .any w.heap.size 4 i ∧
      ((Rows.fnExactMergePrioritySpec.pre enc Tryd.checked.prog Tryd.f4 [] false (w.forCall tape i).memory i.args ∧ laidMetH Tryd.prog Rows.fnExactMergePriorityRow.laid (w.forCall tape i).memory) ∧ sizedMet enc Tryd.checked.prog Tryd.f4 (OpenSpec.ofChange Rows.fnExactMergePrioritySpec) false (w.forCall tape i).memory i.args) ∧ ({ } : Assume).holds Tryd.checked.prog (lone (Frame.enter Tryd.checked.prog 4 i.args .normal) [] (w.forCall tape i)) :=
  ChangeSpec.witness_shaped (enc := enc) (C := Tryd.checked) (os := os) (X := fun w _ => laidMetH Tryd.prog Rows.fnExactMergePriorityRow.laid w) false (World.laidAll Tryd.prog os Rows.fnExactMergePriorityRow.laid) #[.agg #[.int .i64 0, .bool false], .string ByteArray.empty] 8 (World.laidAll_os _ _ _)
    (World.shaped_of_ZipB (by kernel_rfl) (by kernel_rfl)) (by kernel_rfl) (by kernel_rfl) (by kernel_rfl)
    (by rw [MakeChecks.laidMetH_plain _ _ _ (by kernel_rfl)]; exact laidMet_laidAll _ (by kernel_rfl) (by kernel_rfl))
set_option maxRecDepth 100000 in
theorem fnExactMergePriority_lifted (os : Os) (started : os.Started) (H : Type) (enc : TypeId × Value → H) :
    ReturnsInHanded {} Tryd.checked os 4 .any (fun w args => (Rows.fnExactMergePrioritySpec.pre enc Tryd.prog Tryd.f4 [] false w args ∧ laidMetH Tryd.prog Rows.fnExactMergePriorityRow.laid w) ∧ sizedMet enc Tryd.prog Tryd.f4 (OpenSpec.ofChange Rows.fnExactMergePrioritySpec) false w args)
      (Rows.fnExactMergePrioritySpec.post enc Tryd.prog Tryd.f4 false true false false) := by
  refine handed_laid (C := Tryd.checked) (X := fun w _ => laidMetH Tryd.prog Rows.fnExactMergePriorityRow.laid w) row_own started (by kernel_rfl) Tryd.func4 (fnExactMergePriority_witness os H enc) ?_
  intro W base args ds gs before hval0 hW hsh
  have hval : ∀ (j : Nat) t v, Tryd.f4.params[j]? = some t → args[j]? = some v → Value.okWide Tryd.prog W .any base t v := hval0
  have hW' := hW
  obtain ⟨p, q, hA0, hV, rfl, hfz, hnd⟩ := hW
  have hA : DataW.TrodAll enc Tryd.prog W 0 (fun _ => true) true Tryd.f4.params.toList args.toList ds p := hA0
  rw [Tryd.params4] at hA hval
  obtain ⟨v0, v1, d0, d1, p0, p1, rfl, rfl, rfl, h0, h1⟩ := trodAll_two hA
  obtain ⟨rfl, rfl⟩ := trodVars_none hV
  obtain ⟨cs0, rfl, _⟩ := okWide_struct Tryd.underlying27 (hval 0 _ _ rfl rfl)
  obtain ⟨fuel0, hf0⟩ := h0
  obtain ⟨a0, hc0⟩ := read_laws_Priority hf0
  obtain rfl : cs0 = a0.cells.toArray := by simpa [Value.cells] using congrArg List.toArray hc0
  obtain ⟨s1, rfl, rfl, rfl, ws1⟩ := Go.ChangeMaps.open_string Tryd.underlying9 (hval 1 _ _ rfl rfl) h1
  obtain ⟨l1, rfl⟩ : ∃ l : List UInt8, s1 = ⟨l.toArray⟩ := ⟨s1.data.toList, by cases s1; simp⟩
  refine (law_FnExactMergePriority (.of hsh) a0 l1).mono fun e W' ⟨he, hb⟩ => ⟨_, he, law_post row_laid (by kernel_rfl) rfl Tryd.underlying4 rfl rfl hW' hb⟩
theorem fnExactMergePriority_closed : joinedFacts Tryd.prog 4 Tryd.f4 Rows.fnExactMergePrioritySpec Rows.fnExactMergePriorityRow = true := by kernel_rfl
theorem fnExactMergePriority_named : Tryd.prog.funcNamed Rows.fnExactMergePriorityRow.func = some 4 := by kernel_rfl
theorem fnExactMergePriority_holds : Rows.FnExactMergePrioritySaid :=
  OpenClaim.holds_of_wide 4 Tryd.f4 rfl rfl rfl rfl rfl rfl rfl ⟨rfl, rfl, rfl, rfl, rfl⟩ rfl rfl rfl rfl rfl fnExactMergePriority_named Tryd.func4 fnExactMergePriority_closed
    (of_decide_eq_true (by kernel_rfl)) (by unfold Func.isWrapper; first | (rw [if_pos (by decide +kernel)]; kernel_rfl) | (rw [if_neg (by decide +kernel)]; exact ⟨rfl, rfl⟩))
    (fun os started H enc _ => fnExactMergePriority_lifted os started H enc)
theorem fnExactMergePriorityCard_holds : Rows.FnExactMergePriorityCardSaid :=
  Claim7.holds_tied_plain_at .later [] [.data, .pinned] true (true, "3e06e7a4b2ed651669901199a8c64cd5161555c1f239493c070aff1fb9dcb04f") false
    fnExactMergePriority_holds (fun _ h => by cases h) (by kernel_rfl) (fun _ h => by cases h) fnExactMergePriority_row_tie rfl ⟨rfl, rfl⟩ (by kernel_rfl) rfl
    (fun f fn hf hfn => by
      obtain rfl : f = 4 := Option.some.inj (fnExactMergePriority_named.symm.trans hf) |>.symm
      obtain rfl : fn = Tryd.f4 := (Option.some.inj (Tryd.func4.symm.trans hfn)).symm
      exact ⟨by kernel_rfl, fun j t ht => by
        rw [Tryd.params4] at ht
        have hm : t ∈ [27, 9] := by simpa using Array.mem_of_getElem? ht
        have hall : ([27, 9].all fun u => !Tryd.prog.wantsStandIn u) = true := by kernel_rfl
        exact (show Tryd.prog.wantsStandIn t = false by simpa using List.all_eq_true.1 hall t hm)⟩)
    (by kernel_rfl)
end Go.Proofs.YtmjdcdimkkabmaaDoor
