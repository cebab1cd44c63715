/- The law FnExactIsClosed returns true for every connection: no condition. -/
import Derived.Test.YtmoegjhihjgmgaaRows
import Derived.Test.YtmoegjhihjgmgaaRow
import Derived.Test.YtmoegjhihjgmgaaReadsD
import Derived.Test.YtmoegjhihjgmgaaWD
namespace Go.Proofs.Ytmoegjhihjgmgaa
open SL Go.ChangeShapes Go.WideShapes Go.ChangeAt Go.RowKit
set_option maxRecDepth 100000 in
theorem fnExactIsClosed_lifted (os : Os) (started : os.Started) (H : Type) (enc : TypeId × Value → H) :
    ReturnsInHanded {} Try.checked os 9 .any (Rows.fnExactIsClosedSpec.pre6 enc Try.prog Try.f9 Rows.fnExactIsClosedRow.domain false) (Rows.fnExactIsClosedSpec.post enc Try.prog Try.f9 false true false false) := by
  refine returnsInHanded_of_change (C := Try.checked) row_own started (by kernel_rfl) Try.func9
    (ChangeSpec.witness6 (enc := enc) (C := Try.checked) false ⟨#[], #[.agg #[.bool false, .int .i64 0, .int .i64 0, .int .i64 0, .int .i64 0, .int .i64 0, .int .i64 0, .int .i64 0, .int .i64 0, .int .i64 0, .int .i64 0, .int .i64 0, .int .i64 0, .int .i64 0, .int .i64 0, .int .i64 0, .int .i64 0, .slice none 0 0, .int .i64 0, .int .i64 0, .int .i64 0, .int .i64 0, .int .i64 0, .int .i64 0, .int .i64 0, .int .i64 0, .int .i64 0, .int .i64 0, .int .i64 0, .int .i64 0, .int .i64 0, .int .i64 0, .int .i64 0, .int .i64 0, .int .i64 0, .int .i64 0, .int .i64 0, .int .i64 0, .int .i64 0, .int .i64 0, .int .i64 0, .int .i64 0, .bool false, .bool false, .bool false, .int .i64 0, .int .i64 0, .slice none 0 0, .int .i64 0, .int .i64 0]], []⟩ 8 (by kernel_rfl) (by kernel_rfl) (by kernel_rfl) (by kernel_rfl)) ?_
  intro W base args ds gs before hval0 hW hcnd _
  have hval : ∀ (j : Nat) t v, Try.f9.params[j]? = some t → args[j]? = some v → Value.okWide Try.prog W .any base t v := hval0
  have hW' := hW
  obtain ⟨p, q, hA0, hV, rfl, hfz, hnd⟩ := hW
  have hA : DataW.TrodAll enc Try.prog W 0 (fun _ => true) true Try.f9.params.toList args.toList ds p := hA0
  rw [Try.params9] at hA hval
  obtain ⟨v0, d0, rfl, rfl, h0⟩ := trodAll_one hA
  obtain ⟨rfl, rfl⟩ := trodVars_none hV
  obtain ⟨cs0, rfl, _⟩ := okWide_struct Try.underlying83 (hval 0 _ _ rfl rfl)
  obtain ⟨fuel0, hf0⟩ := h0
  obtain ⟨a0, hr0, hb0⟩ := read_laws_Conn hf0
  refine (law_FnExactIsClosed (cs := cs0.toList) hr0 hb0).mono fun e W' ⟨he, hb⟩ => ⟨_, he, law_post row_laid (by kernel_rfl) rfl Try.underlying4 rfl rfl hW' hb⟩
theorem fnExactIsClosed_c_wf : Rows.fnExactIsClosedRow.wf (OpenSpec.ofChange Rows.fnExactIsClosedSpec) = true := by kernel_rfl
theorem fnExactIsClosed_c_laid : laidOutB Try.prog = true := row_laid
theorem fnExactIsClosed_c_mapsRowed : mapsRowed Try.prog = true := row_mapsRowed
theorem fnExactIsClosed_c_readable : Try.f9.params.all (Try.prog.readableRec ·) = true := by kernel_rfl
theorem fnExactIsClosed_c_tie : namedTie Try.prog Rows.fnExactIsClosedRow.named Rows.fnExactIsClosedSpec.vars = true := by kernel_rfl
theorem fnExactIsClosed_c_stops : (Rows.fnExactIsClosedRow.stops == []) = true := by kernel_rfl
theorem fnExactIsClosed_c_pstops : (Try.prog.stops == []) = true := row_pstops
theorem fnExactIsClosed_c_knobs : (Rows.fnExactIsClosedRow.knobs == []) = true := by kernel_rfl
theorem fnExactIsClosed_c_pknobs : (Try.prog.stopKnobs == []) = true := row_pknobs
theorem fnExactIsClosed_c_inPlace : (Rows.fnExactIsClosedRow.inPlace == Try.prog.inPlace 9) = true := by kernel_rfl
theorem fnExactIsClosed_c_unfollowed : (Rows.fnExactIsClosedRow.unfollowed == Try.prog.unfollowed 9) = true := by kernel_rfl
theorem fnExactIsClosed_c_recurses : (Rows.fnExactIsClosedRow.recurses == Try.prog.recurses 9) = true := by kernel_rfl
theorem fnExactIsClosed_c_varsNamed : (Rows.fnExactIsClosedRow.named == Try.prog.varsNamed 9) = true := by kernel_rfl
theorem fnExactIsClosed_c_maps : (Rows.fnExactIsClosedRow.maps == (Try.f9.params.toList ++ Rows.fnExactIsClosedSpec.plain.varTypes Try.prog).any (Try.prog.mapsRec ·)) = true := by kernel_rfl
theorem fnExactIsClosed_c_ifaces : (Rows.fnExactIsClosedRow.ifaces == (Try.f9.params.toList ++ Rows.fnExactIsClosedSpec.plain.varTypes Try.prog).any (Try.prog.ifacesRec ·)) = true := by kernel_rfl
theorem fnExactIsClosed_c_mapsOut : (Rows.fnExactIsClosedRow.mapsOut == Try.prog.mapsAmong Try.f9.resultTypes.toList) = true := by kernel_rfl
theorem fnExactIsClosed_c_loops : (Rows.fnExactIsClosedRow.loops == (Try.f9.params.toList ++ Rows.fnExactIsClosedSpec.plain.varTypes Try.prog).any (Try.prog.loopsFrom ·)) = true := by kernel_rfl
theorem fnExactIsClosed_c_wideKeys : (Rows.fnExactIsClosedRow.wideKeys == (Try.f9.params.toList ++ Rows.fnExactIsClosedSpec.plain.varTypes Try.prog ++ Try.f9.resultTypes.toList).any (Try.prog.wideKeysFrom ·)) = true := by kernel_rfl
theorem fnExactIsClosed_c_vars : Rows.fnExactIsClosedSpec.vars.all (Try.prog.varReadable ·) = true := by kernel_rfl
theorem fnExactIsClosed_c_res : Try.f9.resultTypes.all (fun t => Try.prog.readableRec t && decide (t < Try.prog.types.size)) = true := by kernel_rfl
theorem fnExactIsClosed_c_ifacesOut : (Rows.fnExactIsClosedRow.ifacesOut == Try.f9.resultTypes.toList.any (Try.prog.ifacesRec ·)) = true := by kernel_rfl
theorem fnExactIsClosed_c_loopsOut : (Rows.fnExactIsClosedRow.loopsOut == Try.f9.resultTypes.toList.any (Try.prog.loopsFrom ·)) = true := by kernel_rfl
theorem fnExactIsClosed_c_plainKeys : (Rows.fnExactIsClosedRow.plainKeys == Try.prog.plainKeys) = true := by kernel_rfl
theorem fnExactIsClosed_c_short : Rows.fnExactIsClosedRow.shortTexts.isNone = true := by kernel_rfl
theorem fnExactIsClosed_c_heard : Try.prog.stopsHeard = true := row_heard
theorem fnExactIsClosed_c_enter : Try.prog.mayEnter = true := row_enter
theorem fnExactIsClosed_c_lifted : (Rows.fnExactIsClosedRow.lifted == Try.prog.liftsFinal) = true := by kernel_rfl
theorem fnExactIsClosed_c_make : (Try.prog.make == some Rows.fnExactIsClosedRow.make) = true := by kernel_rfl
theorem fnExactIsClosed_c_kinds : (Rows.fnExactIsClosedRow.kinds == (if Rows.fnExactIsClosedRow.domain.isEmpty then [] else Try.f9.params.toList.map fun t => match Try.prog.underlying t with | some (.int k) => some k | _ => none)) = true := by kernel_rfl
theorem fnExactIsClosed_c_pinned : (Rows.fnExactIsClosedRow.pinned == Rows.fnExactIsClosedRow.pinnedBy) = true := by kernel_rfl
theorem fnExactIsClosed_c_veiled : (Rows.fnExactIsClosedRow.veiled == (Try.f9.params.toList ++ Rows.fnExactIsClosedSpec.plain.varTypes Try.prog ++ Try.f9.resultTypes.toList).any (Try.prog.veiledRec ·)) = true := by kernel_rfl
theorem fnExactIsClosed_c_veiledFits : Rows.fnExactIsClosedRow.veiledFits Try.prog Try.f9.params.toList (Try.f9.params.toList ++ Rows.fnExactIsClosedSpec.plain.varTypes Try.prog ++ Try.f9.resultTypes.toList) = true := by kernel_rfl
set_option maxRecDepth 100000 in
theorem fnExactIsClosed_closed : joinedFacts Try.prog 9 Try.f9 Rows.fnExactIsClosedSpec Rows.fnExactIsClosedRow = true := by
  unfold joinedFacts
  exact (and_i (and_i (and_i (and_i (and_i (and_i (and_i (and_i (and_i (and_i (and_i (and_i (and_i (and_i (and_i (and_i (and_i (and_i (and_i (and_i (and_i (and_i (and_i (and_i (and_i (and_i (and_i (and_i (and_i (and_i (and_i fnExactIsClosed_c_wf fnExactIsClosed_c_laid) fnExactIsClosed_c_mapsRowed) fnExactIsClosed_c_readable) fnExactIsClosed_c_tie) fnExactIsClosed_c_stops) fnExactIsClosed_c_pstops) fnExactIsClosed_c_knobs) fnExactIsClosed_c_pknobs) fnExactIsClosed_c_inPlace) fnExactIsClosed_c_unfollowed) fnExactIsClosed_c_recurses) fnExactIsClosed_c_varsNamed) fnExactIsClosed_c_maps) fnExactIsClosed_c_ifaces) fnExactIsClosed_c_mapsOut) fnExactIsClosed_c_loops) fnExactIsClosed_c_wideKeys) fnExactIsClosed_c_vars) fnExactIsClosed_c_res) fnExactIsClosed_c_ifacesOut) fnExactIsClosed_c_loopsOut) fnExactIsClosed_c_plainKeys) fnExactIsClosed_c_short) fnExactIsClosed_c_heard) fnExactIsClosed_c_enter) fnExactIsClosed_c_lifted) fnExactIsClosed_c_make) fnExactIsClosed_c_kinds) fnExactIsClosed_c_pinned) fnExactIsClosed_c_veiled) fnExactIsClosed_c_veiledFits)
theorem fnExactIsClosed_named : Try.prog.funcNamed Rows.fnExactIsClosedRow.func = some 9 := by kernel_rfl
theorem fnExactIsClosed_holds : Rows.FnExactIsClosedSaid :=
  OpenClaim.holds_of_wide 9 Try.f9 rfl rfl rfl rfl rfl rfl rfl ⟨rfl, rfl, rfl, rfl, rfl⟩ rfl rfl rfl rfl rfl fnExactIsClosed_named Try.func9 fnExactIsClosed_closed
    (of_decide_eq_true (by kernel_rfl)) (by unfold Func.isWrapper; first | (rw [if_pos (by decide +kernel)]; kernel_rfl) | (rw [if_neg (by decide +kernel)]; exact ⟨rfl, rfl⟩))
    (fun os started H enc _ => fnExactIsClosed_lifted os started H enc)
end Go.Proofs.Ytmoegjhihjgmgaa
