/- The law FnExactCloseConn returns true for every connection and code: no condition. -/
import Derived.Test.YtildklpahfbnpaaRows
import Derived.Test.YtildklpahfbnpaaRow
import Derived.Test.YtildklpahfbnpaaReadsV
import Derived.Test.YtildklpahfbnpaaWZ42
namespace Go.Proofs.Ytildklpahfbnpaa
open SL Go.ChangeShapes Go.WideShapes Go.ChangeAt Go.RowKit
set_option maxRecDepth 100000 in
theorem fnExactCloseConn_lifted (os : Os) (started : os.Started) (H : Type) (enc : TypeId × Value → H) :
    ReturnsInHanded {} Try.checked os 7 .any (Rows.fnExactCloseConnSpec.pre6 enc Try.prog Try.f7 Rows.fnExactCloseConnRow.domain false) (Rows.fnExactCloseConnSpec.post enc Try.prog Try.f7 false true false false) := by
  refine returnsInHanded_of_change (C := Try.checked) row_own started (by kernel_rfl) Try.func7
    (ChangeSpec.witness6 (enc := enc) (C := Try.checked) false ⟨#[], #[.agg #[.bool false, .int .i64 0, .int .i64 0, .int .i64 0, .int .i64 0, .int .i64 0, .int .i64 0, .int .i64 0, .int .i64 0, .int .i64 0, .int .i64 0, .int .i64 0, .int .i64 0, .int .i64 0, .int .i64 0, .int .i64 0, .int .i64 0, .slice none 0 0, .int .i64 0, .int .i64 0, .int .i64 0, .int .i64 0, .int .i64 0, .int .i64 0, .int .i64 0, .int .i64 0, .int .i64 0, .int .i64 0, .int .i64 0, .int .i64 0, .int .i64 0, .int .i64 0, .int .i64 0, .int .i64 0, .int .i64 0, .int .i64 0, .int .i64 0, .int .i64 0, .int .i64 0, .int .i64 0, .int .i64 0, .int .i64 0, .bool false, .bool false, .bool false, .int .i64 0, .int .i64 0, .slice none 0 0, .int .i64 0, .int .i64 0], .int .i64 0], []⟩ 8 (by kernel_rfl) (by kernel_rfl) (by kernel_rfl) (by kernel_rfl)) ?_
  intro W base args ds gs before hval0 hW hcnd _
  have hval : ∀ (j : Nat) t v, Try.f7.params[j]? = some t → args[j]? = some v → Value.okWide Try.prog W .any base t v := hval0
  have hW' := hW
  obtain ⟨p, q, hA0, hV, rfl, hfz, hnd⟩ := hW
  have hA : DataW.TrodAll enc Try.prog W 0 (fun _ => true) true Try.f7.params.toList args.toList ds p := hA0
  rw [Try.params7] at hA hval
  obtain ⟨v0, v1, d0, d1, p0, p1, rfl, rfl, rfl, h0, h1⟩ := trodAll_two hA
  obtain ⟨rfl, rfl⟩ := trodVars_none hV
  obtain ⟨cs0, rfl, _⟩ := okWide_struct Try.underlying79 (hval 0 _ _ rfl rfl)
  obtain ⟨fuel0, hf0⟩ := h0
  obtain ⟨a0, hr0, hb0⟩ := read_laws_Conn hf0
  obtain ⟨n1, rfl, rfl, rfl, wn1⟩ := open_int Try.underlying3 (hval 1 _ _ rfl rfl) h1
  refine (law_FnExactCloseConn (cs := cs0.toList) hr0 hb0 n1).mono fun e W' ⟨he, hb⟩ => ⟨_, he, law_post row_laid (by kernel_rfl) rfl Try.underlying4 rfl rfl hW' hb⟩
theorem fnExactCloseConn_c_wf : Rows.fnExactCloseConnRow.wf (OpenSpec.ofChange Rows.fnExactCloseConnSpec) = true := by kernel_rfl
theorem fnExactCloseConn_c_laid : laidOutB Try.prog = true := row_laid
theorem fnExactCloseConn_c_mapsRowed : mapsRowed Try.prog = true := row_mapsRowed
theorem fnExactCloseConn_c_readable : Try.f7.params.all (Try.prog.readableRec ·) = true := by kernel_rfl
theorem fnExactCloseConn_c_tie : namedTie Try.prog Rows.fnExactCloseConnRow.named Rows.fnExactCloseConnSpec.vars = true := by kernel_rfl
theorem fnExactCloseConn_c_stops : (Rows.fnExactCloseConnRow.stops == []) = true := by kernel_rfl
theorem fnExactCloseConn_c_pstops : (Try.prog.stops == []) = true := row_pstops
theorem fnExactCloseConn_c_knobs : (Rows.fnExactCloseConnRow.knobs == []) = true := by kernel_rfl
theorem fnExactCloseConn_c_pknobs : (Try.prog.stopKnobs == []) = true := row_pknobs
theorem fnExactCloseConn_c_inPlace : (Rows.fnExactCloseConnRow.inPlace == Try.prog.inPlace 7) = true := by kernel_rfl
theorem fnExactCloseConn_c_unfollowed : (Rows.fnExactCloseConnRow.unfollowed == Try.prog.unfollowed 7) = true := by kernel_rfl
theorem fnExactCloseConn_c_recurses : (Rows.fnExactCloseConnRow.recurses == Try.prog.recurses 7) = true := by kernel_rfl
theorem fnExactCloseConn_c_varsNamed : (Rows.fnExactCloseConnRow.named == Try.prog.varsNamed 7) = true := by kernel_rfl
theorem fnExactCloseConn_c_maps : (Rows.fnExactCloseConnRow.maps == (Try.f7.params.toList ++ Rows.fnExactCloseConnSpec.plain.varTypes Try.prog).any (Try.prog.mapsRec ·)) = true := by kernel_rfl
theorem fnExactCloseConn_c_ifaces : (Rows.fnExactCloseConnRow.ifaces == (Try.f7.params.toList ++ Rows.fnExactCloseConnSpec.plain.varTypes Try.prog).any (Try.prog.ifacesRec ·)) = true := by kernel_rfl
theorem fnExactCloseConn_c_mapsOut : (Rows.fnExactCloseConnRow.mapsOut == Try.prog.mapsAmong Try.f7.resultTypes.toList) = true := by kernel_rfl
theorem fnExactCloseConn_c_loops : (Rows.fnExactCloseConnRow.loops == (Try.f7.params.toList ++ Rows.fnExactCloseConnSpec.plain.varTypes Try.prog).any (Try.prog.loopsFrom ·)) = true := by kernel_rfl
theorem fnExactCloseConn_c_wideKeys : (Rows.fnExactCloseConnRow.wideKeys == (Try.f7.params.toList ++ Rows.fnExactCloseConnSpec.plain.varTypes Try.prog ++ Try.f7.resultTypes.toList).any (Try.prog.wideKeysFrom ·)) = true := by kernel_rfl
theorem fnExactCloseConn_c_vars : Rows.fnExactCloseConnSpec.vars.all (Try.prog.varReadable ·) = true := by kernel_rfl
theorem fnExactCloseConn_c_res : Try.f7.resultTypes.all (fun t => Try.prog.readableRec t && decide (t < Try.prog.types.size)) = true := by kernel_rfl
theorem fnExactCloseConn_c_ifacesOut : (Rows.fnExactCloseConnRow.ifacesOut == Try.f7.resultTypes.toList.any (Try.prog.ifacesRec ·)) = true := by kernel_rfl
theorem fnExactCloseConn_c_loopsOut : (Rows.fnExactCloseConnRow.loopsOut == Try.f7.resultTypes.toList.any (Try.prog.loopsFrom ·)) = true := by kernel_rfl
theorem fnExactCloseConn_c_plainKeys : (Rows.fnExactCloseConnRow.plainKeys == Try.prog.plainKeys) = true := by kernel_rfl
theorem fnExactCloseConn_c_short : Rows.fnExactCloseConnRow.shortTexts.isNone = true := by kernel_rfl
theorem fnExactCloseConn_c_heard : Try.prog.stopsHeard = true := row_heard
theorem fnExactCloseConn_c_enter : Try.prog.mayEnter = true := row_enter
theorem fnExactCloseConn_c_lifted : (Rows.fnExactCloseConnRow.lifted == Try.prog.liftsFinal) = true := by kernel_rfl
theorem fnExactCloseConn_c_make : (Try.prog.make == some Rows.fnExactCloseConnRow.make) = true := by kernel_rfl
theorem fnExactCloseConn_c_kinds : (Rows.fnExactCloseConnRow.kinds == (if Rows.fnExactCloseConnRow.domain.isEmpty then [] else Try.f7.params.toList.map fun t => match Try.prog.underlying t with | some (.int k) => some k | _ => none)) = true := by kernel_rfl
theorem fnExactCloseConn_c_pinned : (Rows.fnExactCloseConnRow.pinned == Rows.fnExactCloseConnRow.pinnedBy) = true := by kernel_rfl
theorem fnExactCloseConn_c_veiled : (Rows.fnExactCloseConnRow.veiled == (Try.f7.params.toList ++ Rows.fnExactCloseConnSpec.plain.varTypes Try.prog ++ Try.f7.resultTypes.toList).any (Try.prog.veiledRec ·)) = true := by kernel_rfl
theorem fnExactCloseConn_c_veiledFits : Rows.fnExactCloseConnRow.veiledFits Try.prog Try.f7.params.toList (Try.f7.params.toList ++ Rows.fnExactCloseConnSpec.plain.varTypes Try.prog ++ Try.f7.resultTypes.toList) = true := by kernel_rfl
set_option maxRecDepth 100000 in
theorem fnExactCloseConn_closed : joinedFacts Try.prog 7 Try.f7 Rows.fnExactCloseConnSpec Rows.fnExactCloseConnRow = true := by
  unfold joinedFacts
  exact (and_i (and_i (and_i (and_i (and_i (and_i (and_i (and_i (and_i (and_i (and_i (and_i (and_i (and_i (and_i (and_i (and_i (and_i (and_i (and_i (and_i (and_i (and_i (and_i (and_i (and_i (and_i (and_i (and_i (and_i (and_i fnExactCloseConn_c_wf fnExactCloseConn_c_laid) fnExactCloseConn_c_mapsRowed) fnExactCloseConn_c_readable) fnExactCloseConn_c_tie) fnExactCloseConn_c_stops) fnExactCloseConn_c_pstops) fnExactCloseConn_c_knobs) fnExactCloseConn_c_pknobs) fnExactCloseConn_c_inPlace) fnExactCloseConn_c_unfollowed) fnExactCloseConn_c_recurses) fnExactCloseConn_c_varsNamed) fnExactCloseConn_c_maps) fnExactCloseConn_c_ifaces) fnExactCloseConn_c_mapsOut) fnExactCloseConn_c_loops) fnExactCloseConn_c_wideKeys) fnExactCloseConn_c_vars) fnExactCloseConn_c_res) fnExactCloseConn_c_ifacesOut) fnExactCloseConn_c_loopsOut) fnExactCloseConn_c_plainKeys) fnExactCloseConn_c_short) fnExactCloseConn_c_heard) fnExactCloseConn_c_enter) fnExactCloseConn_c_lifted) fnExactCloseConn_c_make) fnExactCloseConn_c_kinds) fnExactCloseConn_c_pinned) fnExactCloseConn_c_veiled) fnExactCloseConn_c_veiledFits)
theorem fnExactCloseConn_named : Try.prog.funcNamed Rows.fnExactCloseConnRow.func = some 7 := by kernel_rfl
theorem fnExactCloseConn_holds : Rows.FnExactCloseConnSaid :=
  OpenClaim.holds_of_wide 7 Try.f7 rfl rfl rfl rfl rfl rfl rfl ⟨rfl, rfl, rfl, rfl, rfl⟩ rfl rfl rfl rfl rfl fnExactCloseConn_named Try.func7 fnExactCloseConn_closed
    (of_decide_eq_true (by kernel_rfl)) (by unfold Func.isWrapper; first | (rw [if_pos (by decide +kernel)]; kernel_rfl) | (rw [if_neg (by decide +kernel)]; exact ⟨rfl, rfl⟩))
    (fun os started H enc _ => fnExactCloseConn_lifted os started H enc)
end Go.Proofs.Ytildklpahfbnpaa
