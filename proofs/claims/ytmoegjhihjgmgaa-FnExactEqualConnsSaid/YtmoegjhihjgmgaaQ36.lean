/- The law FnExactEqualConns returns true for every two connections: no condition. -/
import Derived.Test.YtmoegjhihjgmgaaRows
import Derived.Test.YtmoegjhihjgmgaaRow
import Derived.Test.YtmoegjhihjgmgaaReadsD
import Derived.Test.YtmoegjhihjgmgaaWD
namespace Go.Proofs.Ytmoegjhihjgmgaa
open SL Go.ChangeShapes Go.WideShapes Go.ChangeAt Go.RowKit
set_option maxRecDepth 100000 in
theorem fnExactEqualConns_lifted (os : Os) (started : os.Started) (H : Type) (enc : TypeId × Value → H) :
    ReturnsInHanded {} Try.checked os 12 .any (Rows.fnExactEqualConnsSpec.pre6 enc Try.prog Try.f12 Rows.fnExactEqualConnsRow.domain false) (Rows.fnExactEqualConnsSpec.post enc Try.prog Try.f12 false true false false) := by
  refine returnsInHanded_of_change (C := Try.checked) row_own started (by kernel_rfl) Try.func12
    (ChangeSpec.witness6 (enc := enc) (C := Try.checked) false ⟨#[], #[.agg #[.bool false, .int .i64 0, .int .i64 0, .int .i64 0, .int .i64 0, .int .i64 0, .int .i64 0, .int .i64 0, .int .i64 0, .int .i64 0, .int .i64 0, .int .i64 0, .int .i64 0, .int .i64 0, .int .i64 0, .int .i64 0, .int .i64 0, .slice none 0 0, .int .i64 0, .int .i64 0, .int .i64 0, .int .i64 0, .int .i64 0, .int .i64 0, .int .i64 0, .int .i64 0, .int .i64 0, .int .i64 0, .int .i64 0, .int .i64 0, .int .i64 0, .int .i64 0, .int .i64 0, .int .i64 0, .int .i64 0, .int .i64 0, .int .i64 0, .int .i64 0, .int .i64 0, .int .i64 0, .int .i64 0, .int .i64 0, .bool false, .bool false, .bool false, .int .i64 0, .int .i64 0, .slice none 0 0, .int .i64 0, .int .i64 0], .agg #[.bool false, .int .i64 0, .int .i64 0, .int .i64 0, .int .i64 0, .int .i64 0, .int .i64 0, .int .i64 0, .int .i64 0, .int .i64 0, .int .i64 0, .int .i64 0, .int .i64 0, .int .i64 0, .int .i64 0, .int .i64 0, .int .i64 0, .slice none 0 0, .int .i64 0, .int .i64 0, .int .i64 0, .int .i64 0, .int .i64 0, .int .i64 0, .int .i64 0, .int .i64 0, .int .i64 0, .int .i64 0, .int .i64 0, .int .i64 0, .int .i64 0, .int .i64 0, .int .i64 0, .int .i64 0, .int .i64 0, .int .i64 0, .int .i64 0, .int .i64 0, .int .i64 0, .int .i64 0, .int .i64 0, .int .i64 0, .bool false, .bool false, .bool false, .int .i64 0, .int .i64 0, .slice none 0 0, .int .i64 0, .int .i64 0]], []⟩ 8 (by kernel_rfl) (by kernel_rfl) (by kernel_rfl) (by kernel_rfl)) ?_
  intro W base args ds gs before hval0 hW hcnd _
  have hval : ∀ (j : Nat) t v, Try.f12.params[j]? = some t → args[j]? = some v → Value.okWide Try.prog W .any base t v := hval0
  have hW' := hW
  obtain ⟨p, q, hA0, hV, rfl, hfz, hnd⟩ := hW
  have hA : DataW.TrodAll enc Try.prog W 0 (fun _ => true) true Try.f12.params.toList args.toList ds p := hA0
  rw [Try.params12] at hA hval
  obtain ⟨v0, v1, d0, d1, p0, p1, rfl, rfl, rfl, h0, h1⟩ := trodAll_two hA
  obtain ⟨rfl, rfl⟩ := trodVars_none hV
  obtain ⟨cs0, rfl, _⟩ := okWide_struct Try.underlying83 (hval 0 _ _ rfl rfl)
  obtain ⟨fuel0, hf0⟩ := h0
  obtain ⟨a0, hr0, hb0⟩ := read_laws_Conn hf0
  obtain ⟨cs1, rfl, _⟩ := okWide_struct Try.underlying83 (hval 1 _ _ rfl rfl)
  obtain ⟨fuel1, hf1⟩ := h1
  obtain ⟨a1, hr1, hb1⟩ := read_laws_Conn hf1
  refine (law_FnExactEqualConns (cs := cs0.toList) hr0 hb0 (cs2_ := cs1.toList) hr1 hb1).mono fun e W' ⟨he, hb⟩ => ⟨_, he, law_post row_laid (by kernel_rfl) rfl Try.underlying4 rfl rfl hW' hb⟩
theorem fnExactEqualConns_c_wf : Rows.fnExactEqualConnsRow.wf (OpenSpec.ofChange Rows.fnExactEqualConnsSpec) = true := by kernel_rfl
theorem fnExactEqualConns_c_laid : laidOutB Try.prog = true := row_laid
theorem fnExactEqualConns_c_mapsRowed : mapsRowed Try.prog = true := row_mapsRowed
theorem fnExactEqualConns_c_readable : Try.f12.params.all (Try.prog.readableRec ·) = true := by kernel_rfl
theorem fnExactEqualConns_c_tie : namedTie Try.prog Rows.fnExactEqualConnsRow.named Rows.fnExactEqualConnsSpec.vars = true := by kernel_rfl
theorem fnExactEqualConns_c_stops : (Rows.fnExactEqualConnsRow.stops == []) = true := by kernel_rfl
theorem fnExactEqualConns_c_pstops : (Try.prog.stops == []) = true := row_pstops
theorem fnExactEqualConns_c_knobs : (Rows.fnExactEqualConnsRow.knobs == []) = true := by kernel_rfl
theorem fnExactEqualConns_c_pknobs : (Try.prog.stopKnobs == []) = true := row_pknobs
theorem fnExactEqualConns_c_inPlace : (Rows.fnExactEqualConnsRow.inPlace == Try.prog.inPlace 12) = true := by kernel_rfl
theorem fnExactEqualConns_c_unfollowed : (Rows.fnExactEqualConnsRow.unfollowed == Try.prog.unfollowed 12) = true := by kernel_rfl
theorem fnExactEqualConns_c_recurses : (Rows.fnExactEqualConnsRow.recurses == Try.prog.recurses 12) = true := by kernel_rfl
theorem fnExactEqualConns_c_varsNamed : (Rows.fnExactEqualConnsRow.named == Try.prog.varsNamed 12) = true := by kernel_rfl
theorem fnExactEqualConns_c_maps : (Rows.fnExactEqualConnsRow.maps == (Try.f12.params.toList ++ Rows.fnExactEqualConnsSpec.plain.varTypes Try.prog).any (Try.prog.mapsRec ·)) = true := by kernel_rfl
theorem fnExactEqualConns_c_ifaces : (Rows.fnExactEqualConnsRow.ifaces == (Try.f12.params.toList ++ Rows.fnExactEqualConnsSpec.plain.varTypes Try.prog).any (Try.prog.ifacesRec ·)) = true := by kernel_rfl
theorem fnExactEqualConns_c_mapsOut : (Rows.fnExactEqualConnsRow.mapsOut == Try.prog.mapsAmong Try.f12.resultTypes.toList) = true := by kernel_rfl
theorem fnExactEqualConns_c_loops : (Rows.fnExactEqualConnsRow.loops == (Try.f12.params.toList ++ Rows.fnExactEqualConnsSpec.plain.varTypes Try.prog).any (Try.prog.loopsFrom ·)) = true := by kernel_rfl
theorem fnExactEqualConns_c_wideKeys : (Rows.fnExactEqualConnsRow.wideKeys == (Try.f12.params.toList ++ Rows.fnExactEqualConnsSpec.plain.varTypes Try.prog ++ Try.f12.resultTypes.toList).any (Try.prog.wideKeysFrom ·)) = true := by kernel_rfl
theorem fnExactEqualConns_c_vars : Rows.fnExactEqualConnsSpec.vars.all (Try.prog.varReadable ·) = true := by kernel_rfl
theorem fnExactEqualConns_c_res : Try.f12.resultTypes.all (fun t => Try.prog.readableRec t && decide (t < Try.prog.types.size)) = true := by kernel_rfl
theorem fnExactEqualConns_c_ifacesOut : (Rows.fnExactEqualConnsRow.ifacesOut == Try.f12.resultTypes.toList.any (Try.prog.ifacesRec ·)) = true := by kernel_rfl
theorem fnExactEqualConns_c_loopsOut : (Rows.fnExactEqualConnsRow.loopsOut == Try.f12.resultTypes.toList.any (Try.prog.loopsFrom ·)) = true := by kernel_rfl
theorem fnExactEqualConns_c_plainKeys : (Rows.fnExactEqualConnsRow.plainKeys == Try.prog.plainKeys) = true := by kernel_rfl
theorem fnExactEqualConns_c_short : Rows.fnExactEqualConnsRow.shortTexts.isNone = true := by kernel_rfl
theorem fnExactEqualConns_c_heard : Try.prog.stopsHeard = true := row_heard
theorem fnExactEqualConns_c_enter : Try.prog.mayEnter = true := row_enter
theorem fnExactEqualConns_c_lifted : (Rows.fnExactEqualConnsRow.lifted == Try.prog.liftsFinal) = true := by kernel_rfl
theorem fnExactEqualConns_c_make : (Try.prog.make == some Rows.fnExactEqualConnsRow.make) = true := by kernel_rfl
theorem fnExactEqualConns_c_kinds : (Rows.fnExactEqualConnsRow.kinds == (if Rows.fnExactEqualConnsRow.domain.isEmpty then [] else Try.f12.params.toList.map fun t => match Try.prog.underlying t with | some (.int k) => some k | _ => none)) = true := by kernel_rfl
theorem fnExactEqualConns_c_pinned : (Rows.fnExactEqualConnsRow.pinned == Rows.fnExactEqualConnsRow.pinnedBy) = true := by kernel_rfl
theorem fnExactEqualConns_c_veiled : (Rows.fnExactEqualConnsRow.veiled == (Try.f12.params.toList ++ Rows.fnExactEqualConnsSpec.plain.varTypes Try.prog ++ Try.f12.resultTypes.toList).any (Try.prog.veiledRec ·)) = true := by kernel_rfl
theorem fnExactEqualConns_c_veiledFits : Rows.fnExactEqualConnsRow.veiledFits Try.prog Try.f12.params.toList (Try.f12.params.toList ++ Rows.fnExactEqualConnsSpec.plain.varTypes Try.prog ++ Try.f12.resultTypes.toList) = true := by kernel_rfl
set_option maxRecDepth 100000 in
theorem fnExactEqualConns_closed : joinedFacts Try.prog 12 Try.f12 Rows.fnExactEqualConnsSpec Rows.fnExactEqualConnsRow = true := by
  unfold joinedFacts
  exact (and_i (and_i (and_i (and_i (and_i (and_i (and_i (and_i (and_i (and_i (and_i (and_i (and_i (and_i (and_i (and_i (and_i (and_i (and_i (and_i (and_i (and_i (and_i (and_i (and_i (and_i (and_i (and_i (and_i (and_i (and_i fnExactEqualConns_c_wf fnExactEqualConns_c_laid) fnExactEqualConns_c_mapsRowed) fnExactEqualConns_c_readable) fnExactEqualConns_c_tie) fnExactEqualConns_c_stops) fnExactEqualConns_c_pstops) fnExactEqualConns_c_knobs) fnExactEqualConns_c_pknobs) fnExactEqualConns_c_inPlace) fnExactEqualConns_c_unfollowed) fnExactEqualConns_c_recurses) fnExactEqualConns_c_varsNamed) fnExactEqualConns_c_maps) fnExactEqualConns_c_ifaces) fnExactEqualConns_c_mapsOut) fnExactEqualConns_c_loops) fnExactEqualConns_c_wideKeys) fnExactEqualConns_c_vars) fnExactEqualConns_c_res) fnExactEqualConns_c_ifacesOut) fnExactEqualConns_c_loopsOut) fnExactEqualConns_c_plainKeys) fnExactEqualConns_c_short) fnExactEqualConns_c_heard) fnExactEqualConns_c_enter) fnExactEqualConns_c_lifted) fnExactEqualConns_c_make) fnExactEqualConns_c_kinds) fnExactEqualConns_c_pinned) fnExactEqualConns_c_veiled) fnExactEqualConns_c_veiledFits)
theorem fnExactEqualConns_named : Try.prog.funcNamed Rows.fnExactEqualConnsRow.func = some 12 := by kernel_rfl
theorem fnExactEqualConns_holds : Rows.FnExactEqualConnsSaid :=
  OpenClaim.holds_of_wide 12 Try.f12 rfl rfl rfl rfl rfl rfl rfl ⟨rfl, rfl, rfl, rfl, rfl⟩ rfl rfl rfl rfl rfl fnExactEqualConns_named Try.func12 fnExactEqualConns_closed
    (of_decide_eq_true (by kernel_rfl)) (by unfold Func.isWrapper; first | (rw [if_pos (by decide +kernel)]; kernel_rfl) | (rw [if_neg (by decide +kernel)]; exact ⟨rfl, rfl⟩))
    (fun os started H enc _ => fnExactEqualConns_lifted os started H enc)
end Go.Proofs.Ytmoegjhihjgmgaa
