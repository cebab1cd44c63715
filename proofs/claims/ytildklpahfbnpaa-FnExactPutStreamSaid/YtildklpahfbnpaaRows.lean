/-
  No cell of these rows narrows 'for every input' (looked for: loops, veiled, ifaces, maps, wideKeys, modest, calm, conditions, laid).
  DERIVED. THE GIVEN ROWS OF THIS SEAT. 6 by the template 'for every input the law returns true; each argument reads behind the call as it read before'; 0 by the template 'total and deterministic' (their statements: YtildklpahfbnpaaTotals.lean).
  GIVEN WITH THE SEED: the statements are not yours to turn. If you find one false, say at which input.
  Laid BY PROGRAM, IN A SANDBOX (cutbox-rows.mjs): the forced cells as the released guide's own fill.sh prints them over the translation a2f2cdadf8a6fadb… (all of the seat's roots in one cut). By AI agents, Wed Nov 11 2026. No macro, syntax, notation, axiom, sorry.
-/
import Derived.Test.YtildklpahfbnpaaChecked
import GoSem.Claim
import GoSem.ClaimJoined
import GoSem.ClaimMapViews
import Derived.JoinedTies
import Derived.KernelRfl
namespace Go.Proofs.Ytildklpahfbnpaa
/- THE CELL 'sum', in the pinned program and in every row, IS THE sha256 OF THE DUMP (.gsa) THAT YtildklpahfbnpaaProg.lean LOADS. Nothing in Lean hashes anything: it is a label: what it is worth is what the hold of that sum in a sandbox is worth. -/
noncomputable def Try.pinned : Pinned := { name := "ytildklpahfbnpaa", sum := "a2f2cdadf8a6fadb5f46ee7eeb2946c0c59797dc23dc0b2be44b58ca1f5eb56a", checked := Try.checked }
namespace Rows
def none {H : Type} : Left H := { results := [], args := [] }

/-- 'laws.FnExactIsOver': WHATEVER THE INPUT: true; the input reads as it did. -/
def fnExactIsOverSpec : ChangeSpec := { name := "fnExactIsOver", fn := fun _ => fun
  | [d] => { results := [.lit (.bool true)], args := [d] }
  | _ => none }
def fnExactIsOverRow : OpenClaim := { program := "ytildklpahfbnpaa", sum := "a2f2cdadf8a6fadb5f46ee7eeb2946c0c59797dc23dc0b2be44b58ca1f5eb56a", func := "loop.example/g01633/laws.FnExactIsOver", spec := "fnExactIsOver", unfollowed := true, recurses := true, apart := false }
def FnExactIsOverSaid : Prop := fnExactIsOverRow.holds Try.pinned (OpenSpec.ofChange fnExactIsOverSpec)

/-- ITS FALSE NEIGHBOUR: 'it returns false'. Refute it at one input. -/
def fnExactIsOverWrong : ChangeSpec := { name := "fnExactIsOver", fn := fun _ => fun
  | [d] => { results := [.lit (.bool false)], args := [d] }
  | _ => none }
def FnExactIsOverWrongFalsely : Prop := fnExactIsOverRow.holds Try.pinned (OpenSpec.ofChange fnExactIsOverWrong)

/-- 'laws.FnExactCountOver': WHATEVER THE INPUT: true; the input reads as it did. -/
def fnExactCountOverSpec : ChangeSpec := { name := "fnExactCountOver", fn := fun _ => fun
  | [d] => { results := [.lit (.bool true)], args := [d] }
  | _ => none }
def fnExactCountOverRow : OpenClaim := { program := "ytildklpahfbnpaa", sum := "a2f2cdadf8a6fadb5f46ee7eeb2946c0c59797dc23dc0b2be44b58ca1f5eb56a", func := "loop.example/g01633/laws.FnExactCountOver", spec := "fnExactCountOver", unfollowed := true, recurses := true, apart := false }
def FnExactCountOverSaid : Prop := fnExactCountOverRow.holds Try.pinned (OpenSpec.ofChange fnExactCountOverSpec)

/-- ITS FALSE NEIGHBOUR: 'it returns false'. Refute it at one input. -/
def fnExactCountOverWrong : ChangeSpec := { name := "fnExactCountOver", fn := fun _ => fun
  | [d] => { results := [.lit (.bool false)], args := [d] }
  | _ => none }
def FnExactCountOverWrongFalsely : Prop := fnExactCountOverRow.holds Try.pinned (OpenSpec.ofChange fnExactCountOverWrong)

/-- 'laws.FnExactPutStream': WHATEVER THE INPUT: true; the input reads as it did. -/
def fnExactPutStreamSpec : ChangeSpec := { name := "fnExactPutStream", fn := fun _ => fun
  | [d1, d2] => { results := [.lit (.bool true)], args := [d1, d2] }
  | _ => none }
def fnExactPutStreamRow : OpenClaim := { program := "ytildklpahfbnpaa", sum := "a2f2cdadf8a6fadb5f46ee7eeb2946c0c59797dc23dc0b2be44b58ca1f5eb56a", func := "loop.example/g01633/laws.FnExactPutStream", spec := "fnExactPutStream", inPlace := ["slices.overlaps[loop.example/g01633/impl.Stream]"], unfollowed := true, recurses := true, apart := false }
def FnExactPutStreamSaid : Prop := fnExactPutStreamRow.holds Try.pinned (OpenSpec.ofChange fnExactPutStreamSpec)

/-- ITS FALSE NEIGHBOUR: 'it returns false'. Refute it at one input. -/
def fnExactPutStreamWrong : ChangeSpec := { name := "fnExactPutStream", fn := fun _ => fun
  | [d1, d2] => { results := [.lit (.bool false)], args := [d1, d2] }
  | _ => none }
def FnExactPutStreamWrongFalsely : Prop := fnExactPutStreamRow.holds Try.pinned (OpenSpec.ofChange fnExactPutStreamWrong)

/-- 'laws.FnExactStreamOf': WHATEVER THE INPUT: true; the input reads as it did. -/
def fnExactStreamOfSpec : ChangeSpec := { name := "fnExactStreamOf", fn := fun _ => fun
  | [d1, d2] => { results := [.lit (.bool true)], args := [d1, d2] }
  | _ => none }
def fnExactStreamOfRow : OpenClaim := { program := "ytildklpahfbnpaa", sum := "a2f2cdadf8a6fadb5f46ee7eeb2946c0c59797dc23dc0b2be44b58ca1f5eb56a", func := "loop.example/g01633/laws.FnExactStreamOf", spec := "fnExactStreamOf", unfollowed := true, recurses := true, apart := false }
def FnExactStreamOfSaid : Prop := fnExactStreamOfRow.holds Try.pinned (OpenSpec.ofChange fnExactStreamOfSpec)

/-- ITS FALSE NEIGHBOUR: 'it returns false'. Refute it at one input. -/
def fnExactStreamOfWrong : ChangeSpec := { name := "fnExactStreamOf", fn := fun _ => fun
  | [d1, d2] => { results := [.lit (.bool false)], args := [d1, d2] }
  | _ => none }
def FnExactStreamOfWrongFalsely : Prop := fnExactStreamOfRow.holds Try.pinned (OpenSpec.ofChange fnExactStreamOfWrong)

/-- 'laws.FnExactCloseConn': WHATEVER THE INPUT: true; the input reads as it did. -/
def fnExactCloseConnSpec : ChangeSpec := { name := "fnExactCloseConn", fn := fun _ => fun
  | [d1, d2] => { results := [.lit (.bool true)], args := [d1, d2] }
  | _ => none }
def fnExactCloseConnRow : OpenClaim := { program := "ytildklpahfbnpaa", sum := "a2f2cdadf8a6fadb5f46ee7eeb2946c0c59797dc23dc0b2be44b58ca1f5eb56a", func := "loop.example/g01633/laws.FnExactCloseConn", spec := "fnExactCloseConn", apart := false }
def FnExactCloseConnSaid : Prop := fnExactCloseConnRow.holds Try.pinned (OpenSpec.ofChange fnExactCloseConnSpec)

/-- ITS FALSE NEIGHBOUR: 'it returns false'. Refute it at one input. -/
def fnExactCloseConnWrong : ChangeSpec := { name := "fnExactCloseConn", fn := fun _ => fun
  | [d1, d2] => { results := [.lit (.bool false)], args := [d1, d2] }
  | _ => none }
def FnExactCloseConnWrongFalsely : Prop := fnExactCloseConnRow.holds Try.pinned (OpenSpec.ofChange fnExactCloseConnWrong)

/-- 'laws.FnDrained': WHATEVER THE INPUT: true; the input reads as it did. -/
def fnDrainedSpec : ChangeSpec := { name := "fnDrained", fn := fun _ => fun
  | [d] => { results := [.lit (.bool true)], args := [d] }
  | _ => none }
def fnDrainedRow : OpenClaim := { program := "ytildklpahfbnpaa", sum := "a2f2cdadf8a6fadb5f46ee7eeb2946c0c59797dc23dc0b2be44b58ca1f5eb56a", func := "loop.example/g01633/laws.FnDrained", spec := "fnDrained", unfollowed := true, recurses := true, apart := false }
def FnDrainedSaid : Prop := fnDrainedRow.holds Try.pinned (OpenSpec.ofChange fnDrainedSpec)

/-- ITS FALSE NEIGHBOUR: 'it returns false'. Refute it at one input. -/
def fnDrainedWrong : ChangeSpec := { name := "fnDrained", fn := fun _ => fun
  | [d] => { results := [.lit (.bool false)], args := [d] }
  | _ => none }
def FnDrainedWrongFalsely : Prop := fnDrainedRow.holds Try.pinned (OpenSpec.ofChange fnDrainedWrong)

/- THE SECOND FORM. 'bulk': how many values and letters a reading holds, each counted each time it is reached (what is shared counts as often as it is met; a slice's spare places count too). A statement '..UptoSaid' is the law's where the arguments, and the package variables that the reading takes, are together of bulk at most 1048576: NARROWER than '..Said'. Prove '..Said' where nothing that the law and all that it calls make is longer than what came in: it says more and counts as full. Else prove '..UptoSaid'. A law counts once. -/
mutual
def uptoBulk {H : Type} : DataW H → Nat
  | .lit (.string bytes) => bytes.length + 1
  | .lit _ => 1
  | .nil => 1
  | .ptr d => uptoBulk d + 1
  | .slice elems spare => uptoBulkAll elems + uptoBulkAll spare + 1
  | .agg parts => uptoBulkAll parts + 1
  | .iface _ d => uptoBulk d + 1
  | .map entries => uptoBulkEntries entries + 1
  | .held _ => 1
def uptoBulkAll {H : Type} : List (DataW H) → Nat
  | [] => 0
  | d :: r => uptoBulk d + uptoBulkAll r
def uptoBulkEntries {H : Type} : List (Lit × DataW H) → Nat
  | [] => 0
  | x :: r => uptoBulkEntry x + uptoBulkEntries r
def uptoBulkEntry {H : Type} : Lit × DataW H → Nat
  | (.string bytes, d) => bytes.length + uptoBulk d + 1
  | (_, d) => uptoBulk d + 1
 end
def uptoSmall : (H : Type) → List (DataW H) → Bool := fun _ ds => decide (uptoBulkAll ds ≤ 1048576)
def OpenSpec.upto (s : _root_.Go.ChangeSpec) : _root_.Go.OpenSpec := { _root_.Go.OpenSpec.ofChange s with cond := some uptoSmall }

/-- 'laws.FnExactIsOver', WHERE WHAT IT READS IS OF BULK AT MOST 1048576: true; the input reads as it did. -/
def fnExactIsOverUptoRow : OpenClaim := { program := "ytildklpahfbnpaa", sum := "a2f2cdadf8a6fadb5f46ee7eeb2946c0c59797dc23dc0b2be44b58ca1f5eb56a", func := "loop.example/g01633/laws.FnExactIsOver", spec := "fnExactIsOver", unfollowed := true, recurses := true, apart := false, narrowed := true }
def FnExactIsOverUptoSaid : Prop := fnExactIsOverUptoRow.holds Try.pinned (OpenSpec.upto fnExactIsOverSpec)

/-- 'laws.FnExactCountOver', WHERE WHAT IT READS IS OF BULK AT MOST 1048576: true; the input reads as it did. -/
def fnExactCountOverUptoRow : OpenClaim := { program := "ytildklpahfbnpaa", sum := "a2f2cdadf8a6fadb5f46ee7eeb2946c0c59797dc23dc0b2be44b58ca1f5eb56a", func := "loop.example/g01633/laws.FnExactCountOver", spec := "fnExactCountOver", unfollowed := true, recurses := true, apart := false, narrowed := true }
def FnExactCountOverUptoSaid : Prop := fnExactCountOverUptoRow.holds Try.pinned (OpenSpec.upto fnExactCountOverSpec)

/-- 'laws.FnExactPutStream', WHERE WHAT IT READS IS OF BULK AT MOST 1048576: true; the input reads as it did. -/
def fnExactPutStreamUptoRow : OpenClaim := { program := "ytildklpahfbnpaa", sum := "a2f2cdadf8a6fadb5f46ee7eeb2946c0c59797dc23dc0b2be44b58ca1f5eb56a", func := "loop.example/g01633/laws.FnExactPutStream", spec := "fnExactPutStream", inPlace := ["slices.overlaps[loop.example/g01633/impl.Stream]"], unfollowed := true, recurses := true, apart := false, narrowed := true }
def FnExactPutStreamUptoSaid : Prop := fnExactPutStreamUptoRow.holds Try.pinned (OpenSpec.upto fnExactPutStreamSpec)

/-- 'laws.FnExactStreamOf', WHERE WHAT IT READS IS OF BULK AT MOST 1048576: true; the input reads as it did. -/
def fnExactStreamOfUptoRow : OpenClaim := { program := "ytildklpahfbnpaa", sum := "a2f2cdadf8a6fadb5f46ee7eeb2946c0c59797dc23dc0b2be44b58ca1f5eb56a", func := "loop.example/g01633/laws.FnExactStreamOf", spec := "fnExactStreamOf", unfollowed := true, recurses := true, apart := false, narrowed := true }
def FnExactStreamOfUptoSaid : Prop := fnExactStreamOfUptoRow.holds Try.pinned (OpenSpec.upto fnExactStreamOfSpec)

/-- 'laws.FnExactCloseConn', WHERE WHAT IT READS IS OF BULK AT MOST 1048576: true; the input reads as it did. -/
def fnExactCloseConnUptoRow : OpenClaim := { program := "ytildklpahfbnpaa", sum := "a2f2cdadf8a6fadb5f46ee7eeb2946c0c59797dc23dc0b2be44b58ca1f5eb56a", func := "loop.example/g01633/laws.FnExactCloseConn", spec := "fnExactCloseConn", apart := false, narrowed := true }
def FnExactCloseConnUptoSaid : Prop := fnExactCloseConnUptoRow.holds Try.pinned (OpenSpec.upto fnExactCloseConnSpec)

/-- 'laws.FnDrained', WHERE WHAT IT READS IS OF BULK AT MOST 1048576: true; the input reads as it did. -/
def fnDrainedUptoRow : OpenClaim := { program := "ytildklpahfbnpaa", sum := "a2f2cdadf8a6fadb5f46ee7eeb2946c0c59797dc23dc0b2be44b58ca1f5eb56a", func := "loop.example/g01633/laws.FnDrained", spec := "fnDrained", unfollowed := true, recurses := true, apart := false, narrowed := true }
def FnDrainedUptoSaid : Prop := fnDrainedUptoRow.holds Try.pinned (OpenSpec.upto fnDrainedSpec)

end Rows
end Go.Proofs.Ytildklpahfbnpaa
