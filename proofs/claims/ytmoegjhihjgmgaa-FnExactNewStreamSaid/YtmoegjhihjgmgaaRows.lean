/-
  No cell of these rows narrows 'for every input' (looked for: loops, veiled, ifaces, maps, wideKeys, modest, calm, conditions, laid).
  DERIVED. THE GIVEN ROWS OF THIS SEAT. 12 by the template 'for every input the law returns true; each argument reads behind the call as it read before'; 0 by the template 'total and deterministic' (their statements: YtmoegjhihjgmgaaTotals.lean).
  GIVEN WITH THE SEED: the statements are not yours to turn. If you find one false, say at which input.
  Laid BY PROGRAM, IN A SANDBOX (cutbox-rows.mjs): the forced cells as the released guide's own fill.sh prints them over the translation cc12561ae79b68e1… (all of the seat's roots in one cut). By AI agents, Wed Nov 11 2026. No macro, syntax, notation, axiom, sorry.
-/
import Derived.Test.YtmoegjhihjgmgaaChecked
import GoSem.Claim
import GoSem.ClaimJoined
import GoSem.ClaimMapViews
import Derived.JoinedTies
import Derived.KernelRfl
namespace Go.Proofs.Ytmoegjhihjgmgaa
/- THE CELL 'sum', in the pinned program and in every row, IS THE sha256 OF THE DUMP (.gsa) THAT YtmoegjhihjgmgaaProg.lean LOADS. Nothing in Lean hashes anything: it is a label: what it is worth is what the hold of that sum in a sandbox is worth. -/
noncomputable def Try.pinned : Pinned := { name := "ytmoegjhihjgmgaa", sum := "cc12561ae79b68e11baa69648c086d3982f1c0b86a012399f18b1813760d5d34", checked := Try.checked }
namespace Rows
def none {H : Type} : Left H := { results := [], args := [] }

/-- 'laws.FnExactIsSendOver': WHATEVER THE INPUT: true; the input reads as it did. -/
def fnExactIsSendOverSpec : ChangeSpec := { name := "fnExactIsSendOver", fn := fun _ => fun
  | [d] => { results := [.lit (.bool true)], args := [d] }
  | _ => none }
def fnExactIsSendOverRow : OpenClaim := { program := "ytmoegjhihjgmgaa", sum := "cc12561ae79b68e11baa69648c086d3982f1c0b86a012399f18b1813760d5d34", func := "loop.example/g01633/laws.FnExactIsSendOver", spec := "fnExactIsSendOver", apart := false }
def FnExactIsSendOverSaid : Prop := fnExactIsSendOverRow.holds Try.pinned (OpenSpec.ofChange fnExactIsSendOverSpec)

/-- ITS FALSE NEIGHBOUR: 'it returns false'. Refute it at one input. -/
def fnExactIsSendOverWrong : ChangeSpec := { name := "fnExactIsSendOver", fn := fun _ => fun
  | [d] => { results := [.lit (.bool false)], args := [d] }
  | _ => none }
def FnExactIsSendOverWrongFalsely : Prop := fnExactIsSendOverRow.holds Try.pinned (OpenSpec.ofChange fnExactIsSendOverWrong)

/-- 'laws.FnExactFindStream': WHATEVER THE INPUT: true; the input reads as it did. -/
def fnExactFindStreamSpec : ChangeSpec := { name := "fnExactFindStream", fn := fun _ => fun
  | [d1, d2] => { results := [.lit (.bool true)], args := [d1, d2] }
  | _ => none }
def fnExactFindStreamRow : OpenClaim := { program := "ytmoegjhihjgmgaa", sum := "cc12561ae79b68e11baa69648c086d3982f1c0b86a012399f18b1813760d5d34", func := "loop.example/g01633/laws.FnExactFindStream", spec := "fnExactFindStream", unfollowed := true, recurses := true, apart := false }
def FnExactFindStreamSaid : Prop := fnExactFindStreamRow.holds Try.pinned (OpenSpec.ofChange fnExactFindStreamSpec)

/-- ITS FALSE NEIGHBOUR: 'it returns false'. Refute it at one input. -/
def fnExactFindStreamWrong : ChangeSpec := { name := "fnExactFindStream", fn := fun _ => fun
  | [d1, d2] => { results := [.lit (.bool false)], args := [d1, d2] }
  | _ => none }
def FnExactFindStreamWrongFalsely : Prop := fnExactFindStreamRow.holds Try.pinned (OpenSpec.ofChange fnExactFindStreamWrong)

/-- 'laws.FnExactNewStream': WHATEVER THE INPUT: true; the input reads as it did. -/
def fnExactNewStreamSpec : ChangeSpec := { name := "fnExactNewStream", fn := fun _ => fun
  | [d1, d2, d3, d4] => { results := [.lit (.bool true)], args := [d1, d2, d3, d4] }
  | _ => none }
def fnExactNewStreamRow : OpenClaim := { program := "ytmoegjhihjgmgaa", sum := "cc12561ae79b68e11baa69648c086d3982f1c0b86a012399f18b1813760d5d34", func := "loop.example/g01633/laws.FnExactNewStream", spec := "fnExactNewStream", apart := false }
def FnExactNewStreamSaid : Prop := fnExactNewStreamRow.holds Try.pinned (OpenSpec.ofChange fnExactNewStreamSpec)

/-- ITS FALSE NEIGHBOUR: 'it returns false'. Refute it at one input. -/
def fnExactNewStreamWrong : ChangeSpec := { name := "fnExactNewStream", fn := fun _ => fun
  | [d1, d2, d3, d4] => { results := [.lit (.bool false)], args := [d1, d2, d3, d4] }
  | _ => none }
def FnExactNewStreamWrongFalsely : Prop := fnExactNewStreamRow.holds Try.pinned (OpenSpec.ofChange fnExactNewStreamWrong)

/-- 'laws.FnExactEqualStreams': WHATEVER THE INPUT: true; the input reads as it did. -/
def fnExactEqualStreamsSpec : ChangeSpec := { name := "fnExactEqualStreams", fn := fun _ => fun
  | [d1, d2] => { results := [.lit (.bool true)], args := [d1, d2] }
  | _ => none }
def fnExactEqualStreamsRow : OpenClaim := { program := "ytmoegjhihjgmgaa", sum := "cc12561ae79b68e11baa69648c086d3982f1c0b86a012399f18b1813760d5d34", func := "loop.example/g01633/laws.FnExactEqualStreams", spec := "fnExactEqualStreams", apart := false }
def FnExactEqualStreamsSaid : Prop := fnExactEqualStreamsRow.holds Try.pinned (OpenSpec.ofChange fnExactEqualStreamsSpec)

/-- ITS FALSE NEIGHBOUR: 'it returns false'. Refute it at one input. -/
def fnExactEqualStreamsWrong : ChangeSpec := { name := "fnExactEqualStreams", fn := fun _ => fun
  | [d1, d2] => { results := [.lit (.bool false)], args := [d1, d2] }
  | _ => none }
def FnExactEqualStreamsWrongFalsely : Prop := fnExactEqualStreamsRow.holds Try.pinned (OpenSpec.ofChange fnExactEqualStreamsWrong)

/-- 'laws.FnExactIsRecvOver': WHATEVER THE INPUT: true; the input reads as it did. -/
def fnExactIsRecvOverSpec : ChangeSpec := { name := "fnExactIsRecvOver", fn := fun _ => fun
  | [d] => { results := [.lit (.bool true)], args := [d] }
  | _ => none }
def fnExactIsRecvOverRow : OpenClaim := { program := "ytmoegjhihjgmgaa", sum := "cc12561ae79b68e11baa69648c086d3982f1c0b86a012399f18b1813760d5d34", func := "loop.example/g01633/laws.FnExactIsRecvOver", spec := "fnExactIsRecvOver", apart := false }
def FnExactIsRecvOverSaid : Prop := fnExactIsRecvOverRow.holds Try.pinned (OpenSpec.ofChange fnExactIsRecvOverSpec)

/-- ITS FALSE NEIGHBOUR: 'it returns false'. Refute it at one input. -/
def fnExactIsRecvOverWrong : ChangeSpec := { name := "fnExactIsRecvOver", fn := fun _ => fun
  | [d] => { results := [.lit (.bool false)], args := [d] }
  | _ => none }
def FnExactIsRecvOverWrongFalsely : Prop := fnExactIsRecvOverRow.holds Try.pinned (OpenSpec.ofChange fnExactIsRecvOverWrong)

/-- 'laws.FnExactEqualTables': WHATEVER THE INPUT: true; the input reads as it did. -/
def fnExactEqualTablesSpec : ChangeSpec := { name := "fnExactEqualTables", fn := fun _ => fun
  | [d1, d2] => { results := [.lit (.bool true)], args := [d1, d2] }
  | _ => none }
def fnExactEqualTablesRow : OpenClaim := { program := "ytmoegjhihjgmgaa", sum := "cc12561ae79b68e11baa69648c086d3982f1c0b86a012399f18b1813760d5d34", func := "loop.example/g01633/laws.FnExactEqualTables", spec := "fnExactEqualTables", unfollowed := true, recurses := true, apart := false }
def FnExactEqualTablesSaid : Prop := fnExactEqualTablesRow.holds Try.pinned (OpenSpec.ofChange fnExactEqualTablesSpec)

/-- ITS FALSE NEIGHBOUR: 'it returns false'. Refute it at one input. -/
def fnExactEqualTablesWrong : ChangeSpec := { name := "fnExactEqualTables", fn := fun _ => fun
  | [d1, d2] => { results := [.lit (.bool false)], args := [d1, d2] }
  | _ => none }
def FnExactEqualTablesWrongFalsely : Prop := fnExactEqualTablesRow.holds Try.pinned (OpenSpec.ofChange fnExactEqualTablesWrong)

/-- 'laws.FnExactIsClosed': WHATEVER THE INPUT: true; the input reads as it did. -/
def fnExactIsClosedSpec : ChangeSpec := { name := "fnExactIsClosed", fn := fun _ => fun
  | [d] => { results := [.lit (.bool true)], args := [d] }
  | _ => none }
def fnExactIsClosedRow : OpenClaim := { program := "ytmoegjhihjgmgaa", sum := "cc12561ae79b68e11baa69648c086d3982f1c0b86a012399f18b1813760d5d34", func := "loop.example/g01633/laws.FnExactIsClosed", spec := "fnExactIsClosed", apart := false }
def FnExactIsClosedSaid : Prop := fnExactIsClosedRow.holds Try.pinned (OpenSpec.ofChange fnExactIsClosedSpec)

/-- ITS FALSE NEIGHBOUR: 'it returns false'. Refute it at one input. -/
def fnExactIsClosedWrong : ChangeSpec := { name := "fnExactIsClosed", fn := fun _ => fun
  | [d] => { results := [.lit (.bool false)], args := [d] }
  | _ => none }
def FnExactIsClosedWrongFalsely : Prop := fnExactIsClosedRow.holds Try.pinned (OpenSpec.ofChange fnExactIsClosedWrong)

/-- 'laws.FnExactIsOver': WHATEVER THE INPUT: true; the input reads as it did. -/
def fnExactIsOverSpec : ChangeSpec := { name := "fnExactIsOver", fn := fun _ => fun
  | [d] => { results := [.lit (.bool true)], args := [d] }
  | _ => none }
def fnExactIsOverRow : OpenClaim := { program := "ytmoegjhihjgmgaa", sum := "cc12561ae79b68e11baa69648c086d3982f1c0b86a012399f18b1813760d5d34", func := "loop.example/g01633/laws.FnExactIsOver", spec := "fnExactIsOver", unfollowed := true, recurses := true, apart := false }
def FnExactIsOverSaid : Prop := fnExactIsOverRow.holds Try.pinned (OpenSpec.ofChange fnExactIsOverSpec)

/-- ITS FALSE NEIGHBOUR: 'it returns false'. Refute it at one input. -/
def fnExactIsOverWrong : ChangeSpec := { name := "fnExactIsOver", fn := fun _ => fun
  | [d] => { results := [.lit (.bool false)], args := [d] }
  | _ => none }
def FnExactIsOverWrongFalsely : Prop := fnExactIsOverRow.holds Try.pinned (OpenSpec.ofChange fnExactIsOverWrong)

/-- 'laws.FnExactCountOver': WHATEVER THE INPUT: true; the input reads as it did. -/
def fnExactCountOverSpec : ChangeSpec := { name := "fnExactCountOver", fn := fun _ => fun
  | [d] => { results := [.lit (.bool true)], args := [d] }
  | _ => none }
def fnExactCountOverRow : OpenClaim := { program := "ytmoegjhihjgmgaa", sum := "cc12561ae79b68e11baa69648c086d3982f1c0b86a012399f18b1813760d5d34", func := "loop.example/g01633/laws.FnExactCountOver", spec := "fnExactCountOver", unfollowed := true, recurses := true, apart := false }
def FnExactCountOverSaid : Prop := fnExactCountOverRow.holds Try.pinned (OpenSpec.ofChange fnExactCountOverSpec)

/-- ITS FALSE NEIGHBOUR: 'it returns false'. Refute it at one input. -/
def fnExactCountOverWrong : ChangeSpec := { name := "fnExactCountOver", fn := fun _ => fun
  | [d] => { results := [.lit (.bool false)], args := [d] }
  | _ => none }
def FnExactCountOverWrongFalsely : Prop := fnExactCountOverRow.holds Try.pinned (OpenSpec.ofChange fnExactCountOverWrong)

/-- 'laws.FnExactEqualConns': WHATEVER THE INPUT: true; the input reads as it did. -/
def fnExactEqualConnsSpec : ChangeSpec := { name := "fnExactEqualConns", fn := fun _ => fun
  | [d1, d2] => { results := [.lit (.bool true)], args := [d1, d2] }
  | _ => none }
def fnExactEqualConnsRow : OpenClaim := { program := "ytmoegjhihjgmgaa", sum := "cc12561ae79b68e11baa69648c086d3982f1c0b86a012399f18b1813760d5d34", func := "loop.example/g01633/laws.FnExactEqualConns", spec := "fnExactEqualConns", unfollowed := true, recurses := true, apart := false }
def FnExactEqualConnsSaid : Prop := fnExactEqualConnsRow.holds Try.pinned (OpenSpec.ofChange fnExactEqualConnsSpec)

/-- ITS FALSE NEIGHBOUR: 'it returns false'. Refute it at one input. -/
def fnExactEqualConnsWrong : ChangeSpec := { name := "fnExactEqualConns", fn := fun _ => fun
  | [d1, d2] => { results := [.lit (.bool false)], args := [d1, d2] }
  | _ => none }
def FnExactEqualConnsWrongFalsely : Prop := fnExactEqualConnsRow.holds Try.pinned (OpenSpec.ofChange fnExactEqualConnsWrong)

/-- 'laws.FnExactNewConn': WHATEVER THE INPUT: true; the input reads as it did. -/
def fnExactNewConnSpec : ChangeSpec := { name := "fnExactNewConn", fn := fun _ => fun
  | [d1, d2, d3] => { results := [.lit (.bool true)], args := [d1, d2, d3] }
  | _ => none }
def fnExactNewConnRow : OpenClaim := { program := "ytmoegjhihjgmgaa", sum := "cc12561ae79b68e11baa69648c086d3982f1c0b86a012399f18b1813760d5d34", func := "loop.example/g01633/laws.FnExactNewConn", spec := "fnExactNewConn", apart := false }
def FnExactNewConnSaid : Prop := fnExactNewConnRow.holds Try.pinned (OpenSpec.ofChange fnExactNewConnSpec)

/-- ITS FALSE NEIGHBOUR: 'it returns false'. Refute it at one input. -/
def fnExactNewConnWrong : ChangeSpec := { name := "fnExactNewConn", fn := fun _ => fun
  | [d1, d2, d3] => { results := [.lit (.bool false)], args := [d1, d2, d3] }
  | _ => none }
def FnExactNewConnWrongFalsely : Prop := fnExactNewConnRow.holds Try.pinned (OpenSpec.ofChange fnExactNewConnWrong)

/-- 'laws.FnExactPutStream': WHATEVER THE INPUT: true; the input reads as it did. -/
def fnExactPutStreamSpec : ChangeSpec := { name := "fnExactPutStream", fn := fun _ => fun
  | [d1, d2] => { results := [.lit (.bool true)], args := [d1, d2] }
  | _ => none }
def fnExactPutStreamRow : OpenClaim := { program := "ytmoegjhihjgmgaa", sum := "cc12561ae79b68e11baa69648c086d3982f1c0b86a012399f18b1813760d5d34", func := "loop.example/g01633/laws.FnExactPutStream", spec := "fnExactPutStream", inPlace := ["slices.overlaps[loop.example/g01633/impl.Stream]"], unfollowed := true, recurses := true, apart := false }
def FnExactPutStreamSaid : Prop := fnExactPutStreamRow.holds Try.pinned (OpenSpec.ofChange fnExactPutStreamSpec)

/-- ITS FALSE NEIGHBOUR: 'it returns false'. Refute it at one input. -/
def fnExactPutStreamWrong : ChangeSpec := { name := "fnExactPutStream", fn := fun _ => fun
  | [d1, d2] => { results := [.lit (.bool false)], args := [d1, d2] }
  | _ => none }
def FnExactPutStreamWrongFalsely : Prop := fnExactPutStreamRow.holds Try.pinned (OpenSpec.ofChange fnExactPutStreamWrong)

/- THE SECOND FORM. 'bulk': how many values and letters a reading holds, each counted each time it is reached (what is shared counts as often as it is met; a slice's spare places count too). A statement '..UptoSaid' is the law's where the arguments, and the package variables that the reading takes, are together of bulk at most 1048576: NARROWER than '..Said'. Prove '..Said' where nothing that the law and all that it calls make is longer than what came in: it says more and counts as full. Else prove '..UptoSaid'. A law counts once. -/
mutual
def uptoBulk {H : Type} : DataW H → Nat
  | .lit (.string bytes) => bytes.length + 1
  | .lit _ => 1
  | .nil => 1
  | .ptr d => uptoBulk d + 1
  | .slice elems spare => uptoBulkAll elems + uptoBulkAll spare + 1
  | .agg parts => uptoBulkAll parts + 1
  | .iface _ d => uptoBulk d + 1
  | .map entries => uptoBulkEntries entries + 1
  | .held _ => 1
def uptoBulkAll {H : Type} : List (DataW H) → Nat
  | [] => 0
  | d :: r => uptoBulk d + uptoBulkAll r
def uptoBulkEntries {H : Type} : List (Lit × DataW H) → Nat
  | [] => 0
  | x :: r => uptoBulkEntry x + uptoBulkEntries r
def uptoBulkEntry {H : Type} : Lit × DataW H → Nat
  | (.string bytes, d) => bytes.length + uptoBulk d + 1
  | (_, d) => uptoBulk d + 1
 end
def uptoSmall : (H : Type) → List (DataW H) → Bool := fun _ ds => decide (uptoBulkAll ds ≤ 1048576)
def OpenSpec.upto (s : _root_.Go.ChangeSpec) : _root_.Go.OpenSpec := { _root_.Go.OpenSpec.ofChange s with cond := some uptoSmall }

/-- 'laws.FnExactIsSendOver', WHERE WHAT IT READS IS OF BULK AT MOST 1048576: true; the input reads as it did. -/
def fnExactIsSendOverUptoRow : OpenClaim := { program := "ytmoegjhihjgmgaa", sum := "cc12561ae79b68e11baa69648c086d3982f1c0b86a012399f18b1813760d5d34", func := "loop.example/g01633/laws.FnExactIsSendOver", spec := "fnExactIsSendOver", apart := false, narrowed := true }
def FnExactIsSendOverUptoSaid : Prop := fnExactIsSendOverUptoRow.holds Try.pinned (OpenSpec.upto fnExactIsSendOverSpec)

/-- 'laws.FnExactFindStream', WHERE WHAT IT READS IS OF BULK AT MOST 1048576: true; the input reads as it did. -/
def fnExactFindStreamUptoRow : OpenClaim := { program := "ytmoegjhihjgmgaa", sum := "cc12561ae79b68e11baa69648c086d3982f1c0b86a012399f18b1813760d5d34", func := "loop.example/g01633/laws.FnExactFindStream", spec := "fnExactFindStream", unfollowed := true, recurses := true, apart := false, narrowed := true }
def FnExactFindStreamUptoSaid : Prop := fnExactFindStreamUptoRow.holds Try.pinned (OpenSpec.upto fnExactFindStreamSpec)

/-- 'laws.FnExactNewStream', WHERE WHAT IT READS IS OF BULK AT MOST 1048576: true; the input reads as it did. -/
def fnExactNewStreamUptoRow : OpenClaim := { program := "ytmoegjhihjgmgaa", sum := "cc12561ae79b68e11baa69648c086d3982f1c0b86a012399f18b1813760d5d34", func := "loop.example/g01633/laws.FnExactNewStream", spec := "fnExactNewStream", apart := false, narrowed := true }
def FnExactNewStreamUptoSaid : Prop := fnExactNewStreamUptoRow.holds Try.pinned (OpenSpec.upto fnExactNewStreamSpec)

/-- 'laws.FnExactEqualStreams', WHERE WHAT IT READS IS OF BULK AT MOST 1048576: true; the input reads as it did. -/
def fnExactEqualStreamsUptoRow : OpenClaim := { program := "ytmoegjhihjgmgaa", sum := "cc12561ae79b68e11baa69648c086d3982f1c0b86a012399f18b1813760d5d34", func := "loop.example/g01633/laws.FnExactEqualStreams", spec := "fnExactEqualStreams", apart := false, narrowed := true }
def FnExactEqualStreamsUptoSaid : Prop := fnExactEqualStreamsUptoRow.holds Try.pinned (OpenSpec.upto fnExactEqualStreamsSpec)

/-- 'laws.FnExactIsRecvOver', WHERE WHAT IT READS IS OF BULK AT MOST 1048576: true; the input reads as it did. -/
def fnExactIsRecvOverUptoRow : OpenClaim := { program := "ytmoegjhihjgmgaa", sum := "cc12561ae79b68e11baa69648c086d3982f1c0b86a012399f18b1813760d5d34", func := "loop.example/g01633/laws.FnExactIsRecvOver", spec := "fnExactIsRecvOver", apart := false, narrowed := true }
def FnExactIsRecvOverUptoSaid : Prop := fnExactIsRecvOverUptoRow.holds Try.pinned (OpenSpec.upto fnExactIsRecvOverSpec)

/-- 'laws.FnExactEqualTables', WHERE WHAT IT READS IS OF BULK AT MOST 1048576: true; the input reads as it did. -/
def fnExactEqualTablesUptoRow : OpenClaim := { program := "ytmoegjhihjgmgaa", sum := "cc12561ae79b68e11baa69648c086d3982f1c0b86a012399f18b1813760d5d34", func := "loop.example/g01633/laws.FnExactEqualTables", spec := "fnExactEqualTables", unfollowed := true, recurses := true, apart := false, narrowed := true }
def FnExactEqualTablesUptoSaid : Prop := fnExactEqualTablesUptoRow.holds Try.pinned (OpenSpec.upto fnExactEqualTablesSpec)

/-- 'laws.FnExactIsClosed', WHERE WHAT IT READS IS OF BULK AT MOST 1048576: true; the input reads as it did. -/
def fnExactIsClosedUptoRow : OpenClaim := { program := "ytmoegjhihjgmgaa", sum := "cc12561ae79b68e11baa69648c086d3982f1c0b86a012399f18b1813760d5d34", func := "loop.example/g01633/laws.FnExactIsClosed", spec := "fnExactIsClosed", apart := false, narrowed := true }
def FnExactIsClosedUptoSaid : Prop := fnExactIsClosedUptoRow.holds Try.pinned (OpenSpec.upto fnExactIsClosedSpec)

/-- 'laws.FnExactIsOver', WHERE WHAT IT READS IS OF BULK AT MOST 1048576: true; the input reads as it did. -/
def fnExactIsOverUptoRow : OpenClaim := { program := "ytmoegjhihjgmgaa", sum := "cc12561ae79b68e11baa69648c086d3982f1c0b86a012399f18b1813760d5d34", func := "loop.example/g01633/laws.FnExactIsOver", spec := "fnExactIsOver", unfollowed := true, recurses := true, apart := false, narrowed := true }
def FnExactIsOverUptoSaid : Prop := fnExactIsOverUptoRow.holds Try.pinned (OpenSpec.upto fnExactIsOverSpec)

/-- 'laws.FnExactCountOver', WHERE WHAT IT READS IS OF BULK AT MOST 1048576: true; the input reads as it did. -/
def fnExactCountOverUptoRow : OpenClaim := { program := "ytmoegjhihjgmgaa", sum := "cc12561ae79b68e11baa69648c086d3982f1c0b86a012399f18b1813760d5d34", func := "loop.example/g01633/laws.FnExactCountOver", spec := "fnExactCountOver", unfollowed := true, recurses := true, apart := false, narrowed := true }
def FnExactCountOverUptoSaid : Prop := fnExactCountOverUptoRow.holds Try.pinned (OpenSpec.upto fnExactCountOverSpec)

/-- 'laws.FnExactEqualConns', WHERE WHAT IT READS IS OF BULK AT MOST 1048576: true; the input reads as it did. -/
def fnExactEqualConnsUptoRow : OpenClaim := { program := "ytmoegjhihjgmgaa", sum := "cc12561ae79b68e11baa69648c086d3982f1c0b86a012399f18b1813760d5d34", func := "loop.example/g01633/laws.FnExactEqualConns", spec := "fnExactEqualConns", unfollowed := true, recurses := true, apart := false, narrowed := true }
def FnExactEqualConnsUptoSaid : Prop := fnExactEqualConnsUptoRow.holds Try.pinned (OpenSpec.upto fnExactEqualConnsSpec)

/-- 'laws.FnExactNewConn', WHERE WHAT IT READS IS OF BULK AT MOST 1048576: true; the input reads as it did. -/
def fnExactNewConnUptoRow : OpenClaim := { program := "ytmoegjhihjgmgaa", sum := "cc12561ae79b68e11baa69648c086d3982f1c0b86a012399f18b1813760d5d34", func := "loop.example/g01633/laws.FnExactNewConn", spec := "fnExactNewConn", apart := false, narrowed := true }
def FnExactNewConnUptoSaid : Prop := fnExactNewConnUptoRow.holds Try.pinned (OpenSpec.upto fnExactNewConnSpec)

/-- 'laws.FnExactPutStream', WHERE WHAT IT READS IS OF BULK AT MOST 1048576: true; the input reads as it did. -/
def fnExactPutStreamUptoRow : OpenClaim := { program := "ytmoegjhihjgmgaa", sum := "cc12561ae79b68e11baa69648c086d3982f1c0b86a012399f18b1813760d5d34", func := "loop.example/g01633/laws.FnExactPutStream", spec := "fnExactPutStream", inPlace := ["slices.overlaps[loop.example/g01633/impl.Stream]"], unfollowed := true, recurses := true, apart := false, narrowed := true }
def FnExactPutStreamUptoSaid : Prop := fnExactPutStreamUptoRow.holds Try.pinned (OpenSpec.upto fnExactPutStreamSpec)

end Rows
end Go.Proofs.Ytmoegjhihjgmgaa
