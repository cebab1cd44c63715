/- The law FnExactStreamOf returns true for every connection and stream id: no condition. -/
import Derived.Test.YtildklpahfbnpaaRows
import Derived.Test.YtildklpahfbnpaaRow
import Derived.Test.YtildklpahfbnpaaReadsV
import Derived.Test.YtildklpahfbnpaaWZ39
namespace Go.Proofs.Ytildklpahfbnpaa
open SL Go.ChangeShapes Go.WideShapes Go.ChangeAt Go.RowKit
set_option maxRecDepth 100000 in
theorem fnExactStreamOf_lifted (os : Os) (started : os.Started) (H : Type) (enc : TypeId × Value → H) :
    ReturnsInHanded {} Try.checked os 6 .any (Rows.fnExactStreamOfSpec.pre6 enc Try.prog Try.f6 Rows.fnExactStreamOfRow.domain false) (Rows.fnExactStreamOfSpec.post enc Try.prog Try.f6 false true false false) := by
  refine returnsInHanded_of_change (C := Try.checked) row_own started (by kernel_rfl) Try.func6
    (ChangeSpec.witness6 (enc := enc) (C := Try.checked) false ⟨#[], #[.agg #[.bool false, .int .i64 0, .int .i64 0, .int .i64 0, .int .i64 0, .int .i64 0, .int .i64 0, .int .i64 0, .int .i64 0, .int .i64 0, .int .i64 0, .int .i64 0, .int .i64 0, .int .i64 0, .int .i64 0, .int .i64 0, .int .i64 0, .slice none 0 0, .int .i64 0, .int .i64 0, .int .i64 0, .int .i64 0, .int .i64 0, .int .i64 0, .int .i64 0, .int .i64 0, .int .i64 0, .int .i64 0, .int .i64 0, .int .i64 0, .int .i64 0, .int .i64 0, .int .i64 0, .int .i64 0, .int .i64 0, .int .i64 0, .int .i64 0, .int .i64 0, .int .i64 0, .int .i64 0, .int .i64 0, .int .i64 0, .bool false, .bool false, .bool false, .int .i64 0, .int .i64 0, .slice none 0 0, .int .i64 0, .int .i64 0], .int .i64 0], []⟩ 8 (by kernel_rfl) (by kernel_rfl) (by kernel_rfl) (by kernel_rfl)) ?_
  intro W base args ds gs before hval0 hW hcnd _
  have hval : ∀ (j : Nat) t v, Try.f6.params[j]? = some t → args[j]? = some v → Value.okWide Try.prog W .any base t v := hval0
  have hW' := hW
  obtain ⟨p, q, hA0, hV, rfl, hfz, hnd⟩ := hW
  have hA : DataW.TrodAll enc Try.prog W 0 (fun _ => true) true Try.f6.params.toList args.toList ds p := hA0
  rw [Try.params6] at hA hval
  obtain ⟨v0, v1, d0, d1, p0, p1, rfl, rfl, rfl, h0, h1⟩ := trodAll_two hA
  obtain ⟨rfl, rfl⟩ := trodVars_none hV
  obtain ⟨cs0, rfl, _⟩ := okWide_struct Try.underlying79 (hval 0 _ _ rfl rfl)
  obtain ⟨fuel0, hf0⟩ := h0
  obtain ⟨a0, hr0, hb0⟩ := read_laws_Conn hf0
  obtain ⟨n1, rfl, rfl, rfl, wn1⟩ := open_int Try.underlying3 (hval 1 _ _ rfl rfl) h1
  refine (law_FnExactStreamOf (cs := cs0.toList) hr0 hb0 n1).mono fun e W' ⟨he, hb⟩ => ⟨_, he, law_post row_laid (by kernel_rfl) rfl Try.underlying4 rfl rfl hW' hb⟩
theorem fnExactStreamOf_c_wf : Rows.fnExactStreamOfRow.wf (OpenSpec.ofChange Rows.fnExactStreamOfSpec) = true := by kernel_rfl
theorem fnExactStreamOf_c_laid : laidOutB Try.prog = true := row_laid
theorem fnExactStreamOf_c_mapsRowed : mapsRowed Try.prog = true := row_mapsRowed
theorem fnExactStreamOf_c_readable : Try.f6.params.all (Try.prog.readableRec ·) = true := by kernel_rfl
theorem fnExactStreamOf_c_tie : namedTie Try.prog Rows.fnExactStreamOfRow.named Rows.fnExactStreamOfSpec.vars = true := by kernel_rfl
theorem fnExactStreamOf_c_stops : (Rows.fnExactStreamOfRow.stops == []) = true := by kernel_rfl
theorem fnExactStreamOf_c_pstops : (Try.prog.stops == []) = true := row_pstops
theorem fnExactStreamOf_c_knobs : (Rows.fnExactStreamOfRow.knobs == []) = true := by kernel_rfl
theorem fnExactStreamOf_c_pknobs : (Try.prog.stopKnobs == []) = true := row_pknobs
theorem fnExactStreamOf_c_inPlace : (Rows.fnExactStreamOfRow.inPlace == Try.prog.inPlace 6) = true := by kernel_rfl
theorem fnExactStreamOf_c_unfollowed : (Rows.fnExactStreamOfRow.unfollowed == Try.prog.unfollowed 6) = true := by kernel_rfl
theorem fnExactStreamOf_c_recurses : (Rows.fnExactStreamOfRow.recurses == Try.prog.recurses 6) = true := by kernel_rfl
theorem fnExactStreamOf_c_varsNamed : (Rows.fnExactStreamOfRow.named == Try.prog.varsNamed 6) = true := by kernel_rfl
theorem fnExactStreamOf_c_maps : (Rows.fnExactStreamOfRow.maps == (Try.f6.params.toList ++ Rows.fnExactStreamOfSpec.plain.varTypes Try.prog).any (Try.prog.mapsRec ·)) = true := by kernel_rfl
theorem fnExactStreamOf_c_ifaces : (Rows.fnExactStreamOfRow.ifaces == (Try.f6.params.toList ++ Rows.fnExactStreamOfSpec.plain.varTypes Try.prog).any (Try.prog.ifacesRec ·)) = true := by kernel_rfl
theorem fnExactStreamOf_c_mapsOut : (Rows.fnExactStreamOfRow.mapsOut == Try.prog.mapsAmong Try.f6.resultTypes.toList) = true := by kernel_rfl
theorem fnExactStreamOf_c_loops : (Rows.fnExactStreamOfRow.loops == (Try.f6.params.toList ++ Rows.fnExactStreamOfSpec.plain.varTypes Try.prog).any (Try.prog.loopsFrom ·)) = true := by kernel_rfl
theorem fnExactStreamOf_c_wideKeys : (Rows.fnExactStreamOfRow.wideKeys == (Try.f6.params.toList ++ Rows.fnExactStreamOfSpec.plain.varTypes Try.prog ++ Try.f6.resultTypes.toList).any (Try.prog.wideKeysFrom ·)) = true := by kernel_rfl
theorem fnExactStreamOf_c_vars : Rows.fnExactStreamOfSpec.vars.all (Try.prog.varReadable ·) = true := by kernel_rfl
theorem fnExactStreamOf_c_res : Try.f6.resultTypes.all (fun t => Try.prog.readableRec t && decide (t < Try.prog.types.size)) = true := by kernel_rfl
theorem fnExactStreamOf_c_ifacesOut : (Rows.fnExactStreamOfRow.ifacesOut == Try.f6.resultTypes.toList.any (Try.prog.ifacesRec ·)) = true := by kernel_rfl
theorem fnExactStreamOf_c_loopsOut : (Rows.fnExactStreamOfRow.loopsOut == Try.f6.resultTypes.toList.any (Try.prog.loopsFrom ·)) = true := by kernel_rfl
theorem fnExactStreamOf_c_plainKeys : (Rows.fnExactStreamOfRow.plainKeys == Try.prog.plainKeys) = true := by kernel_rfl
theorem fnExactStreamOf_c_short : Rows.fnExactStreamOfRow.shortTexts.isNone = true := by kernel_rfl
theorem fnExactStreamOf_c_heard : Try.prog.stopsHeard = true := row_heard
theorem fnExactStreamOf_c_enter : Try.prog.mayEnter = true := row_enter
theorem fnExactStreamOf_c_lifted : (Rows.fnExactStreamOfRow.lifted == Try.prog.liftsFinal) = true := by kernel_rfl
theorem fnExactStreamOf_c_make : (Try.prog.make == some Rows.fnExactStreamOfRow.make) = true := by kernel_rfl
theorem fnExactStreamOf_c_kinds : (Rows.fnExactStreamOfRow.kinds == (if Rows.fnExactStreamOfRow.domain.isEmpty then [] else Try.f6.params.toList.map fun t => match Try.prog.underlying t with | some (.int k) => some k | _ => none)) = true := by kernel_rfl
theorem fnExactStreamOf_c_pinned : (Rows.fnExactStreamOfRow.pinned == Rows.fnExactStreamOfRow.pinnedBy) = true := by kernel_rfl
theorem fnExactStreamOf_c_veiled : (Rows.fnExactStreamOfRow.veiled == (Try.f6.params.toList ++ Rows.fnExactStreamOfSpec.plain.varTypes Try.prog ++ Try.f6.resultTypes.toList).any (Try.prog.veiledRec ·)) = true := by kernel_rfl
theorem fnExactStreamOf_c_veiledFits : Rows.fnExactStreamOfRow.veiledFits Try.prog Try.f6.params.toList (Try.f6.params.toList ++ Rows.fnExactStreamOfSpec.plain.varTypes Try.prog ++ Try.f6.resultTypes.toList) = true := by kernel_rfl
set_option maxRecDepth 100000 in
theorem fnExactStreamOf_closed : joinedFacts Try.prog 6 Try.f6 Rows.fnExactStreamOfSpec Rows.fnExactStreamOfRow = true := by
  unfold joinedFacts
  exact (and_i (and_i (and_i (and_i (and_i (and_i (and_i (and_i (and_i (and_i (and_i (and_i (and_i (and_i (and_i (and_i (and_i (and_i (and_i (and_i (and_i (and_i (and_i (and_i (and_i (and_i (and_i (and_i (and_i (and_i (and_i fnExactStreamOf_c_wf fnExactStreamOf_c_laid) fnExactStreamOf_c_mapsRowed) fnExactStreamOf_c_readable) fnExactStreamOf_c_tie) fnExactStreamOf_c_stops) fnExactStreamOf_c_pstops) fnExactStreamOf_c_knobs) fnExactStreamOf_c_pknobs) fnExactStreamOf_c_inPlace) fnExactStreamOf_c_unfollowed) fnExactStreamOf_c_recurses) fnExactStreamOf_c_varsNamed) fnExactStreamOf_c_maps) fnExactStreamOf_c_ifaces) fnExactStreamOf_c_mapsOut) fnExactStreamOf_c_loops) fnExactStreamOf_c_wideKeys) fnExactStreamOf_c_vars) fnExactStreamOf_c_res) fnExactStreamOf_c_ifacesOut) fnExactStreamOf_c_loopsOut) fnExactStreamOf_c_plainKeys) fnExactStreamOf_c_short) fnExactStreamOf_c_heard) fnExactStreamOf_c_enter) fnExactStreamOf_c_lifted) fnExactStreamOf_c_make) fnExactStreamOf_c_kinds) fnExactStreamOf_c_pinned) fnExactStreamOf_c_veiled) fnExactStreamOf_c_veiledFits)
theorem fnExactStreamOf_named : Try.prog.funcNamed Rows.fnExactStreamOfRow.func = some 6 := by kernel_rfl
theorem fnExactStreamOf_holds : Rows.FnExactStreamOfSaid :=
  OpenClaim.holds_of_wide 6 Try.f6 rfl rfl rfl rfl rfl rfl rfl ⟨rfl, rfl, rfl, rfl, rfl⟩ rfl rfl rfl rfl rfl fnExactStreamOf_named Try.func6 fnExactStreamOf_closed
    (of_decide_eq_true (by kernel_rfl)) (by unfold Func.isWrapper; first | (rw [if_pos (by decide +kernel)]; kernel_rfl) | (rw [if_neg (by decide +kernel)]; exact ⟨rfl, rfl⟩))
    (fun os started H enc _ => fnExactStreamOf_lifted os started H enc)
end Go.Proofs.Ytildklpahfbnpaa
