/- The law FnPriorities returns true for every input. The package variables that the row lists start as the program's text lays them: the card ties them. -/
import Derived.Test.YtcobcopmkafcoaaDoorRows
import Derived.Test.YtcobcopmkafcoaaDoorCards
import Derived.Test.YtcobcopmkafcoaaDoorTie
import Derived.Test.YtcobcopmkafcoaaDoorRowL
import Derived.Test.YtcobcopmkafcoaaDoorReadsO
import Derived.Test.YtcobcopmkafcoaaDoorWO
import Derived.LaidMore
import Derived.ChangeMaps5
import Derived.Lay
import Derived.SevenTiedAt
import Derived.Stop.Joined
namespace Go.Proofs.YtcobcopmkafcoaaDoor
open SL Go.ChangeShapes Go.WideShapes Go.ChangeAt Go.RowKit
set_option maxRecDepth 100000 in
theorem fnPriorities_witness (os : Os) (H : Type) (enc : TypeId × Value → H) : ∃ (w : World) (tape : Tape) (i : Input), w.os = os ∧ (w.forCall tape i).Shaped Tryd.checked.prog ∧ i.vars = [] ∧ Input.okWide Tryd.checked.prog (w.forCall tape i) .any w.heap.size 3 i ∧
      ((Rows.fnPrioritiesSpec.pre enc Tryd.checked.prog Tryd.f3 [] false (w.forCall tape i).memory i.args ∧ laidMetH Tryd.prog Rows.fnPrioritiesRow.laid (w.forCall tape i).memory) ∧ sizedMet enc Tryd.checked.prog Tryd.f3 (OpenSpec.ofChange Rows.fnPrioritiesSpec) false (w.forCall tape i).memory i.args) ∧ ({ } : Assume).holds Tryd.checked.prog (lone (Frame.enter Tryd.checked.prog 3 i.args .normal) [] (w.forCall tape i)) :=
  ChangeSpec.witness_shaped (enc := enc) (C := Tryd.checked) (os := os) (X := fun w _ => laidMetH Tryd.prog Rows.fnPrioritiesRow.laid w) false (World.laidAll Tryd.prog os Rows.fnPrioritiesRow.laid) #[.slice none 0 0] 8 (World.laidAll_os _ _ _)
    (World.shaped_of_ZipB (by kernel_rfl) (by kernel_rfl)) (by kernel_rfl) (by kernel_rfl) (by kernel_rfl)
    (by rw [MakeChecks.laidMetH_plain _ _ _ (by kernel_rfl)]; exact laidMet_laidAll _ (by kernel_rfl) (by kernel_rfl))
set_option maxRecDepth 100000 in
theorem fnPriorities_lifted (os : Os) (started : os.Started) (H : Type) (enc : TypeId × Value → H) :
    ReturnsInHanded {} Tryd.checked os 3 .any (fun w args => (Rows.fnPrioritiesSpec.pre enc Tryd.prog Tryd.f3 [] false w args ∧ laidMetH Tryd.prog Rows.fnPrioritiesRow.laid w) ∧ sizedMet enc Tryd.prog Tryd.f3 (OpenSpec.ofChange Rows.fnPrioritiesSpec) false w args)
      (Rows.fnPrioritiesSpec.post enc Tryd.prog Tryd.f3 false true false false) := by
  refine handed_laid (C := Tryd.checked) (X := fun w _ => laidMetH Tryd.prog Rows.fnPrioritiesRow.laid w) row_own started (by kernel_rfl) Tryd.func3 (fnPriorities_witness os H enc) ?_
  intro W base args ds gs before hval0 hW hsh
  have hval : ∀ (j : Nat) t v, Tryd.f3.params[j]? = some t → args[j]? = some v → Value.okWide Tryd.prog W .any base t v := hval0
  have hW' := hW
  obtain ⟨p, q, hA0, hV, rfl, hfz, hnd⟩ := hW
  have hA : DataW.TrodAll enc Tryd.prog W 0 (fun _ => true) true Tryd.f3.params.toList args.toList ds p := hA0
  rw [Tryd.params3] at hA hval
  obtain ⟨v0, d0, rfl, rfl, h0⟩ := trodAll_one hA
  obtain ⟨rfl, rfl⟩ := trodVars_none hV
  obtain ⟨aa0, ln0, cp0, rfl⟩ := okWide_slice Tryd.underlying22 (hval 0 _ _ rfl rfl)
  obtain ⟨fuel0, hf0⟩ := h0
  obtain ⟨vv0, l0, ee0, hv0, hb0⟩ := readS_bytes hf0
  obtain rfl : vv0 = .slice aa0 ln0 cp0 := by simpa [Value.cells, eq_comm] using ee0
  refine (law_FnPriorities (.of hsh) hv0).mono fun e W' ⟨he, hb⟩ => ⟨_, he, law_post row_laid (by kernel_rfl) rfl Tryd.underlying4 rfl rfl hW' hb⟩
theorem fnPriorities_closed : joinedFacts Tryd.prog 3 Tryd.f3 Rows.fnPrioritiesSpec Rows.fnPrioritiesRow = true := by kernel_rfl
theorem fnPriorities_named : Tryd.prog.funcNamed Rows.fnPrioritiesRow.func = some 3 := by kernel_rfl
theorem fnPriorities_holds : Rows.FnPrioritiesSaid :=
  OpenClaim.holds_of_wide 3 Tryd.f3 rfl rfl rfl rfl rfl rfl rfl ⟨rfl, rfl, rfl, rfl, rfl⟩ rfl rfl rfl rfl rfl fnPriorities_named Tryd.func3 fnPriorities_closed
    (of_decide_eq_true (by kernel_rfl)) (by unfold Func.isWrapper; first | (rw [if_pos (by decide +kernel)]; kernel_rfl) | (rw [if_neg (by decide +kernel)]; exact ⟨rfl, rfl⟩))
    (fun os started H enc _ => fnPriorities_lifted os started H enc)
theorem fnPrioritiesCard_holds : Rows.FnPrioritiesCardSaid :=
  Claim7.holds_tied_plain_at .later [] [.data, .data, .data, .data, .pinned] true (true, "d1d920bcda5e7cb69198123630758c7573a027bc92c7efa5b1eafe6c6e1ae7bb") false
    fnPriorities_holds (fun _ h => by cases h) (by kernel_rfl) (fun _ h => by cases h) fnPriorities_row_tie rfl ⟨rfl, rfl⟩ (by kernel_rfl) rfl
    (fun f fn hf hfn => by
      obtain rfl : f = 3 := Option.some.inj (fnPriorities_named.symm.trans hf) |>.symm
      obtain rfl : fn = Tryd.f3 := (Option.some.inj (Tryd.func3.symm.trans hfn)).symm
      exact ⟨by kernel_rfl, fun j t ht => by
        rw [Tryd.params3] at ht
        have hm : t ∈ [22] := by simpa using Array.mem_of_getElem? ht
        have hall : ([22].all fun u => !Tryd.prog.wantsStandIn u) = true := by kernel_rfl
        exact (show Tryd.prog.wantsStandIn t = false by simpa using List.all_eq_true.1 hall t hm)⟩)
    (by kernel_rfl)
end Go.Proofs.YtcobcopmkafcoaaDoor
