/-
  No cell of these rows narrows 'for every input' (looked for: loops, veiled, ifaces, maps, wideKeys, modest, calm, conditions, laid).
  DERIVED. THE GIVEN ROWS OF THIS SEAT. 12 by the template 'for every input the law returns true; each argument reads behind the call as it read before'; 0 by the template 'total and deterministic' (their statements: YtcdabfkankcodaaTotals.lean).
  GIVEN WITH THE SEED: the statements are not yours to turn. If you find one false, say at which input.
  Laid BY PROGRAM, IN A SANDBOX (cutbox-rows.mjs): the forced cells as the released guide's own fill.sh prints them over the translation 2254cf0123aab7ff… (all of the seat's roots in one cut). By AI agents, Wed Nov 11 2026. No macro, syntax, notation, axiom, sorry.
-/
import Derived.Test.YtcdabfkankcodaaChecked
import GoSem.Claim
import GoSem.ClaimJoined
import GoSem.ClaimMapViews
import Derived.JoinedTies
import Derived.KernelRfl
namespace Go.Proofs.Ytcdabfkankcodaa
/- THE CELL 'sum', in the pinned program and in every row, IS THE sha256 OF THE DUMP (.gsa) THAT YtcdabfkankcodaaProg.lean LOADS. Nothing in Lean hashes anything: it is a label: what it is worth is what the hold of that sum in a sandbox is worth. -/
noncomputable def Try.pinned : Pinned := { name := "ytcdabfkankcodaa", sum := "2254cf0123aab7ff9ba96b4417417a330ce62afd62fb23f65d53b1b1a24e2957", checked := Try.checked }
namespace Rows
def none {H : Type} : Left H := { results := [], args := [] }

/-- 'laws.FnExactIsPriority': WHATEVER THE INPUT: true; the input reads as it did. -/
def fnExactIsPrioritySpec : ChangeSpec := { name := "fnExactIsPriority", fn := fun _ => fun
  | [d] => { results := [.lit (.bool true)], args := [d] }
  | _ => none }
def fnExactIsPriorityRow : OpenClaim := { program := "ytcdabfkankcodaa", sum := "2254cf0123aab7ff9ba96b4417417a330ce62afd62fb23f65d53b1b1a24e2957", func := "loop.example/g01633/laws.FnExactIsPriority", spec := "fnExactIsPriority", apart := false }
def FnExactIsPrioritySaid : Prop := fnExactIsPriorityRow.holds Try.pinned (OpenSpec.ofChange fnExactIsPrioritySpec)

/-- ITS FALSE NEIGHBOUR: 'it returns false'. Refute it at one input. -/
def fnExactIsPriorityWrong : ChangeSpec := { name := "fnExactIsPriority", fn := fun _ => fun
  | [d] => { results := [.lit (.bool false)], args := [d] }
  | _ => none }
def FnExactIsPriorityWrongFalsely : Prop := fnExactIsPriorityRow.holds Try.pinned (OpenSpec.ofChange fnExactIsPriorityWrong)

/-- 'laws.FnExactDefaultPriority': WHATEVER THE INPUT: true; the input reads as it did. -/
def fnExactDefaultPrioritySpec : ChangeSpec := { name := "fnExactDefaultPriority", fn := fun _ => fun
  | [] => { results := [.lit (.bool true)], args := [] }
  | _ => none }
def fnExactDefaultPriorityRow : OpenClaim := { program := "ytcdabfkankcodaa", sum := "2254cf0123aab7ff9ba96b4417417a330ce62afd62fb23f65d53b1b1a24e2957", func := "loop.example/g01633/laws.FnExactDefaultPriority", spec := "fnExactDefaultPriority", apart := false }
def FnExactDefaultPrioritySaid : Prop := fnExactDefaultPriorityRow.holds Try.pinned (OpenSpec.ofChange fnExactDefaultPrioritySpec)

/-- ITS FALSE NEIGHBOUR: 'it returns false'. Refute it at one input. -/
def fnExactDefaultPriorityWrong : ChangeSpec := { name := "fnExactDefaultPriority", fn := fun _ => fun
  | [] => { results := [.lit (.bool false)], args := [] }
  | _ => none }
def FnExactDefaultPriorityWrongFalsely : Prop := fnExactDefaultPriorityRow.holds Try.pinned (OpenSpec.ofChange fnExactDefaultPriorityWrong)

/-- 'laws.FnExactIsConf': WHATEVER THE INPUT: true; the input reads as it did. -/
def fnExactIsConfSpec : ChangeSpec := { name := "fnExactIsConf", fn := fun _ => fun
  | [d] => { results := [.lit (.bool true)], args := [d] }
  | _ => none }
def fnExactIsConfRow : OpenClaim := { program := "ytcdabfkankcodaa", sum := "2254cf0123aab7ff9ba96b4417417a330ce62afd62fb23f65d53b1b1a24e2957", func := "loop.example/g01633/laws.FnExactIsConf", spec := "fnExactIsConf", apart := false }
def FnExactIsConfSaid : Prop := fnExactIsConfRow.holds Try.pinned (OpenSpec.ofChange fnExactIsConfSpec)

/-- ITS FALSE NEIGHBOUR: 'it returns false'. Refute it at one input. -/
def fnExactIsConfWrong : ChangeSpec := { name := "fnExactIsConf", fn := fun _ => fun
  | [d] => { results := [.lit (.bool false)], args := [d] }
  | _ => none }
def FnExactIsConfWrongFalsely : Prop := fnExactIsConfRow.holds Try.pinned (OpenSpec.ofChange fnExactIsConfWrong)

/-- 'laws.FnExactDefaultConf': WHATEVER THE INPUT: true; the input reads as it did. -/
def fnExactDefaultConfSpec : ChangeSpec := { name := "fnExactDefaultConf", fn := fun _ => fun
  | [] => { results := [.lit (.bool true)], args := [] }
  | _ => none }
def fnExactDefaultConfRow : OpenClaim := { program := "ytcdabfkankcodaa", sum := "2254cf0123aab7ff9ba96b4417417a330ce62afd62fb23f65d53b1b1a24e2957", func := "loop.example/g01633/laws.FnExactDefaultConf", spec := "fnExactDefaultConf", apart := false }
def FnExactDefaultConfSaid : Prop := fnExactDefaultConfRow.holds Try.pinned (OpenSpec.ofChange fnExactDefaultConfSpec)

/-- ITS FALSE NEIGHBOUR: 'it returns false'. Refute it at one input. -/
def fnExactDefaultConfWrong : ChangeSpec := { name := "fnExactDefaultConf", fn := fun _ => fun
  | [] => { results := [.lit (.bool false)], args := [] }
  | _ => none }
def FnExactDefaultConfWrongFalsely : Prop := fnExactDefaultConfRow.holds Try.pinned (OpenSpec.ofChange fnExactDefaultConfWrong)

/-- 'laws.FnExactTurnsOf': WHATEVER THE INPUT: true; the input reads as it did. -/
def fnExactTurnsOfSpec : ChangeSpec := { name := "fnExactTurnsOf", fn := fun _ => fun
  | [d1, d2] => { results := [.lit (.bool true)], args := [d1, d2] }
  | _ => none }
def fnExactTurnsOfRow : OpenClaim := { program := "ytcdabfkankcodaa", sum := "2254cf0123aab7ff9ba96b4417417a330ce62afd62fb23f65d53b1b1a24e2957", func := "loop.example/g01633/laws.FnExactTurnsOf", spec := "fnExactTurnsOf", apart := false }
def FnExactTurnsOfSaid : Prop := fnExactTurnsOfRow.holds Try.pinned (OpenSpec.ofChange fnExactTurnsOfSpec)

/-- ITS FALSE NEIGHBOUR: 'it returns false'. Refute it at one input. -/
def fnExactTurnsOfWrong : ChangeSpec := { name := "fnExactTurnsOf", fn := fun _ => fun
  | [d1, d2] => { results := [.lit (.bool false)], args := [d1, d2] }
  | _ => none }
def FnExactTurnsOfWrongFalsely : Prop := fnExactTurnsOfRow.holds Try.pinned (OpenSpec.ofChange fnExactTurnsOfWrong)

/-- 'laws.FnExactCloseOne': WHATEVER THE INPUT: true; the input reads as it did. -/
def fnExactCloseOneSpec : ChangeSpec := { name := "fnExactCloseOne", fn := fun _ => fun
  | [d] => { results := [.lit (.bool true)], args := [d] }
  | _ => none }
def fnExactCloseOneRow : OpenClaim := { program := "ytcdabfkankcodaa", sum := "2254cf0123aab7ff9ba96b4417417a330ce62afd62fb23f65d53b1b1a24e2957", func := "loop.example/g01633/laws.FnExactCloseOne", spec := "fnExactCloseOne", apart := false }
def FnExactCloseOneSaid : Prop := fnExactCloseOneRow.holds Try.pinned (OpenSpec.ofChange fnExactCloseOneSpec)

/-- ITS FALSE NEIGHBOUR: 'it returns false'. Refute it at one input. -/
def fnExactCloseOneWrong : ChangeSpec := { name := "fnExactCloseOne", fn := fun _ => fun
  | [d] => { results := [.lit (.bool false)], args := [d] }
  | _ => none }
def FnExactCloseOneWrongFalsely : Prop := fnExactCloseOneRow.holds Try.pinned (OpenSpec.ofChange fnExactCloseOneWrong)

/-- 'laws.FnExactSeeIndex': WHATEVER THE INPUT: true; the input reads as it did. -/
def fnExactSeeIndexSpec : ChangeSpec := { name := "fnExactSeeIndex", fn := fun _ => fun
  | [d1, d2] => { results := [.lit (.bool true)], args := [d1, d2] }
  | _ => none }
def fnExactSeeIndexRow : OpenClaim := { program := "ytcdabfkankcodaa", sum := "2254cf0123aab7ff9ba96b4417417a330ce62afd62fb23f65d53b1b1a24e2957", func := "loop.example/g01633/laws.FnExactSeeIndex", spec := "fnExactSeeIndex", apart := false }
def FnExactSeeIndexSaid : Prop := fnExactSeeIndexRow.holds Try.pinned (OpenSpec.ofChange fnExactSeeIndexSpec)

/-- ITS FALSE NEIGHBOUR: 'it returns false'. Refute it at one input. -/
def fnExactSeeIndexWrong : ChangeSpec := { name := "fnExactSeeIndex", fn := fun _ => fun
  | [d1, d2] => { results := [.lit (.bool false)], args := [d1, d2] }
  | _ => none }
def FnExactSeeIndexWrongFalsely : Prop := fnExactSeeIndexRow.holds Try.pinned (OpenSpec.ofChange fnExactSeeIndexWrong)

/-- 'laws.FnExactPieceFrame': WHATEVER THE INPUT: true; the input reads as it did. -/
def fnExactPieceFrameSpec : ChangeSpec := { name := "fnExactPieceFrame", fn := fun _ => fun
  | [d1, d2] => { results := [.lit (.bool true)], args := [d1, d2] }
  | _ => none }
def fnExactPieceFrameRow : OpenClaim := { program := "ytcdabfkankcodaa", sum := "2254cf0123aab7ff9ba96b4417417a330ce62afd62fb23f65d53b1b1a24e2957", func := "loop.example/g01633/laws.FnExactPieceFrame", spec := "fnExactPieceFrame", apart := false }
def FnExactPieceFrameSaid : Prop := fnExactPieceFrameRow.holds Try.pinned (OpenSpec.ofChange fnExactPieceFrameSpec)

/-- ITS FALSE NEIGHBOUR: 'it returns false'. Refute it at one input. -/
def fnExactPieceFrameWrong : ChangeSpec := { name := "fnExactPieceFrame", fn := fun _ => fun
  | [d1, d2] => { results := [.lit (.bool false)], args := [d1, d2] }
  | _ => none }
def FnExactPieceFrameWrongFalsely : Prop := fnExactPieceFrameRow.holds Try.pinned (OpenSpec.ofChange fnExactPieceFrameWrong)

/-- 'laws.FnExactOpenNext': WHATEVER THE INPUT: true; the input reads as it did. -/
def fnExactOpenNextSpec : ChangeSpec := { name := "fnExactOpenNext", fn := fun _ => fun
  | [d] => { results := [.lit (.bool true)], args := [d] }
  | _ => none }
def fnExactOpenNextRow : OpenClaim := { program := "ytcdabfkankcodaa", sum := "2254cf0123aab7ff9ba96b4417417a330ce62afd62fb23f65d53b1b1a24e2957", func := "loop.example/g01633/laws.FnExactOpenNext", spec := "fnExactOpenNext", apart := false }
def FnExactOpenNextSaid : Prop := fnExactOpenNextRow.holds Try.pinned (OpenSpec.ofChange fnExactOpenNextSpec)

/-- ITS FALSE NEIGHBOUR: 'it returns false'. Refute it at one input. -/
def fnExactOpenNextWrong : ChangeSpec := { name := "fnExactOpenNext", fn := fun _ => fun
  | [d] => { results := [.lit (.bool false)], args := [d] }
  | _ => none }
def FnExactOpenNextWrongFalsely : Prop := fnExactOpenNextRow.holds Try.pinned (OpenSpec.ofChange fnExactOpenNextWrong)

/-- 'laws.FnExactRaiseAllow': WHATEVER THE INPUT: true; the input reads as it did. -/
def fnExactRaiseAllowSpec : ChangeSpec := { name := "fnExactRaiseAllow", fn := fun _ => fun
  | [d] => { results := [.lit (.bool true)], args := [d] }
  | _ => none }
def fnExactRaiseAllowRow : OpenClaim := { program := "ytcdabfkankcodaa", sum := "2254cf0123aab7ff9ba96b4417417a330ce62afd62fb23f65d53b1b1a24e2957", func := "loop.example/g01633/laws.FnExactRaiseAllow", spec := "fnExactRaiseAllow", apart := false }
def FnExactRaiseAllowSaid : Prop := fnExactRaiseAllowRow.holds Try.pinned (OpenSpec.ofChange fnExactRaiseAllowSpec)

/-- ITS FALSE NEIGHBOUR: 'it returns false'. Refute it at one input. -/
def fnExactRaiseAllowWrong : ChangeSpec := { name := "fnExactRaiseAllow", fn := fun _ => fun
  | [d] => { results := [.lit (.bool false)], args := [d] }
  | _ => none }
def FnExactRaiseAllowWrongFalsely : Prop := fnExactRaiseAllowRow.holds Try.pinned (OpenSpec.ofChange fnExactRaiseAllowWrong)

/-- 'laws.FnExactAreCandidates': WHATEVER THE INPUT: true; the input reads as it did. -/
def fnExactAreCandidatesSpec : ChangeSpec := { name := "fnExactAreCandidates", fn := fun _ => fun
  | [d] => { results := [.lit (.bool true)], args := [d] }
  | _ => none }
def fnExactAreCandidatesRow : OpenClaim := { program := "ytcdabfkankcodaa", sum := "2254cf0123aab7ff9ba96b4417417a330ce62afd62fb23f65d53b1b1a24e2957", func := "loop.example/g01633/laws.FnExactAreCandidates", spec := "fnExactAreCandidates", apart := false }
def FnExactAreCandidatesSaid : Prop := fnExactAreCandidatesRow.holds Try.pinned (OpenSpec.ofChange fnExactAreCandidatesSpec)

/-- ITS FALSE NEIGHBOUR: 'it returns false'. Refute it at one input. -/
def fnExactAreCandidatesWrong : ChangeSpec := { name := "fnExactAreCandidates", fn := fun _ => fun
  | [d] => { results := [.lit (.bool false)], args := [d] }
  | _ => none }
def FnExactAreCandidatesWrongFalsely : Prop := fnExactAreCandidatesRow.holds Try.pinned (OpenSpec.ofChange fnExactAreCandidatesWrong)

/-- 'laws.FnExactPlainNext': WHATEVER THE INPUT: true; the input reads as it did. -/
def fnExactPlainNextSpec : ChangeSpec := { name := "fnExactPlainNext", fn := fun _ => fun
  | [d1, d2] => { results := [.lit (.bool true)], args := [d1, d2] }
  | _ => none }
def fnExactPlainNextRow : OpenClaim := { program := "ytcdabfkankcodaa", sum := "2254cf0123aab7ff9ba96b4417417a330ce62afd62fb23f65d53b1b1a24e2957", func := "loop.example/g01633/laws.FnExactPlainNext", spec := "fnExactPlainNext", apart := false }
def FnExactPlainNextSaid : Prop := fnExactPlainNextRow.holds Try.pinned (OpenSpec.ofChange fnExactPlainNextSpec)

/-- ITS FALSE NEIGHBOUR: 'it returns false'. Refute it at one input. -/
def fnExactPlainNextWrong : ChangeSpec := { name := "fnExactPlainNext", fn := fun _ => fun
  | [d1, d2] => { results := [.lit (.bool false)], args := [d1, d2] }
  | _ => none }
def FnExactPlainNextWrongFalsely : Prop := fnExactPlainNextRow.holds Try.pinned (OpenSpec.ofChange fnExactPlainNextWrong)

/- THE SECOND FORM. 'bulk': how many values and letters a reading holds, each counted each time it is reached (what is shared counts as often as it is met; a slice's spare places count too). A statement '..UptoSaid' is the law's where the arguments, and the package variables that the reading takes, are together of bulk at most 1048576: NARROWER than '..Said'. Prove '..Said' where nothing that the law and all that it calls make is longer than what came in: it says more and counts as full. Else prove '..UptoSaid'. A law counts once. -/
mutual
def uptoBulk {H : Type} : DataW H → Nat
  | .lit (.string bytes) => bytes.length + 1
  | .lit _ => 1
  | .nil => 1
  | .ptr d => uptoBulk d + 1
  | .slice elems spare => uptoBulkAll elems + uptoBulkAll spare + 1
  | .agg parts => uptoBulkAll parts + 1
  | .iface _ d => uptoBulk d + 1
  | .map entries => uptoBulkEntries entries + 1
  | .held _ => 1
def uptoBulkAll {H : Type} : List (DataW H) → Nat
  | [] => 0
  | d :: r => uptoBulk d + uptoBulkAll r
def uptoBulkEntries {H : Type} : List (Lit × DataW H) → Nat
  | [] => 0
  | x :: r => uptoBulkEntry x + uptoBulkEntries r
def uptoBulkEntry {H : Type} : Lit × DataW H → Nat
  | (.string bytes, d) => bytes.length + uptoBulk d + 1
  | (_, d) => uptoBulk d + 1
 end
def uptoSmall : (H : Type) → List (DataW H) → Bool := fun _ ds => decide (uptoBulkAll ds ≤ 1048576)
def OpenSpec.upto (s : _root_.Go.ChangeSpec) : _root_.Go.OpenSpec := { _root_.Go.OpenSpec.ofChange s with cond := some uptoSmall }

/-- 'laws.FnExactIsPriority', WHERE WHAT IT READS IS OF BULK AT MOST 1048576: true; the input reads as it did. -/
def fnExactIsPriorityUptoRow : OpenClaim := { program := "ytcdabfkankcodaa", sum := "2254cf0123aab7ff9ba96b4417417a330ce62afd62fb23f65d53b1b1a24e2957", func := "loop.example/g01633/laws.FnExactIsPriority", spec := "fnExactIsPriority", apart := false, narrowed := true }
def FnExactIsPriorityUptoSaid : Prop := fnExactIsPriorityUptoRow.holds Try.pinned (OpenSpec.upto fnExactIsPrioritySpec)

/-- 'laws.FnExactDefaultPriority', WHERE WHAT IT READS IS OF BULK AT MOST 1048576: true; the input reads as it did. -/
def fnExactDefaultPriorityUptoRow : OpenClaim := { program := "ytcdabfkankcodaa", sum := "2254cf0123aab7ff9ba96b4417417a330ce62afd62fb23f65d53b1b1a24e2957", func := "loop.example/g01633/laws.FnExactDefaultPriority", spec := "fnExactDefaultPriority", apart := false, narrowed := true }
def FnExactDefaultPriorityUptoSaid : Prop := fnExactDefaultPriorityUptoRow.holds Try.pinned (OpenSpec.upto fnExactDefaultPrioritySpec)

/-- 'laws.FnExactIsConf', WHERE WHAT IT READS IS OF BULK AT MOST 1048576: true; the input reads as it did. -/
def fnExactIsConfUptoRow : OpenClaim := { program := "ytcdabfkankcodaa", sum := "2254cf0123aab7ff9ba96b4417417a330ce62afd62fb23f65d53b1b1a24e2957", func := "loop.example/g01633/laws.FnExactIsConf", spec := "fnExactIsConf", apart := false, narrowed := true }
def FnExactIsConfUptoSaid : Prop := fnExactIsConfUptoRow.holds Try.pinned (OpenSpec.upto fnExactIsConfSpec)

/-- 'laws.FnExactDefaultConf', WHERE WHAT IT READS IS OF BULK AT MOST 1048576: true; the input reads as it did. -/
def fnExactDefaultConfUptoRow : OpenClaim := { program := "ytcdabfkankcodaa", sum := "2254cf0123aab7ff9ba96b4417417a330ce62afd62fb23f65d53b1b1a24e2957", func := "loop.example/g01633/laws.FnExactDefaultConf", spec := "fnExactDefaultConf", apart := false, narrowed := true }
def FnExactDefaultConfUptoSaid : Prop := fnExactDefaultConfUptoRow.holds Try.pinned (OpenSpec.upto fnExactDefaultConfSpec)

/-- 'laws.FnExactTurnsOf', WHERE WHAT IT READS IS OF BULK AT MOST 1048576: true; the input reads as it did. -/
def fnExactTurnsOfUptoRow : OpenClaim := { program := "ytcdabfkankcodaa", sum := "2254cf0123aab7ff9ba96b4417417a330ce62afd62fb23f65d53b1b1a24e2957", func := "loop.example/g01633/laws.FnExactTurnsOf", spec := "fnExactTurnsOf", apart := false, narrowed := true }
def FnExactTurnsOfUptoSaid : Prop := fnExactTurnsOfUptoRow.holds Try.pinned (OpenSpec.upto fnExactTurnsOfSpec)

/-- 'laws.FnExactCloseOne', WHERE WHAT IT READS IS OF BULK AT MOST 1048576: true; the input reads as it did. -/
def fnExactCloseOneUptoRow : OpenClaim := { program := "ytcdabfkankcodaa", sum := "2254cf0123aab7ff9ba96b4417417a330ce62afd62fb23f65d53b1b1a24e2957", func := "loop.example/g01633/laws.FnExactCloseOne", spec := "fnExactCloseOne", apart := false, narrowed := true }
def FnExactCloseOneUptoSaid : Prop := fnExactCloseOneUptoRow.holds Try.pinned (OpenSpec.upto fnExactCloseOneSpec)

/-- 'laws.FnExactSeeIndex', WHERE WHAT IT READS IS OF BULK AT MOST 1048576: true; the input reads as it did. -/
def fnExactSeeIndexUptoRow : OpenClaim := { program := "ytcdabfkankcodaa", sum := "2254cf0123aab7ff9ba96b4417417a330ce62afd62fb23f65d53b1b1a24e2957", func := "loop.example/g01633/laws.FnExactSeeIndex", spec := "fnExactSeeIndex", apart := false, narrowed := true }
def FnExactSeeIndexUptoSaid : Prop := fnExactSeeIndexUptoRow.holds Try.pinned (OpenSpec.upto fnExactSeeIndexSpec)

/-- 'laws.FnExactPieceFrame', WHERE WHAT IT READS IS OF BULK AT MOST 1048576: true; the input reads as it did. -/
def fnExactPieceFrameUptoRow : OpenClaim := { program := "ytcdabfkankcodaa", sum := "2254cf0123aab7ff9ba96b4417417a330ce62afd62fb23f65d53b1b1a24e2957", func := "loop.example/g01633/laws.FnExactPieceFrame", spec := "fnExactPieceFrame", apart := false, narrowed := true }
def FnExactPieceFrameUptoSaid : Prop := fnExactPieceFrameUptoRow.holds Try.pinned (OpenSpec.upto fnExactPieceFrameSpec)

/-- 'laws.FnExactOpenNext', WHERE WHAT IT READS IS OF BULK AT MOST 1048576: true; the input reads as it did. -/
def fnExactOpenNextUptoRow : OpenClaim := { program := "ytcdabfkankcodaa", sum := "2254cf0123aab7ff9ba96b4417417a330ce62afd62fb23f65d53b1b1a24e2957", func := "loop.example/g01633/laws.FnExactOpenNext", spec := "fnExactOpenNext", apart := false, narrowed := true }
def FnExactOpenNextUptoSaid : Prop := fnExactOpenNextUptoRow.holds Try.pinned (OpenSpec.upto fnExactOpenNextSpec)

/-- 'laws.FnExactRaiseAllow', WHERE WHAT IT READS IS OF BULK AT MOST 1048576: true; the input reads as it did. -/
def fnExactRaiseAllowUptoRow : OpenClaim := { program := "ytcdabfkankcodaa", sum := "2254cf0123aab7ff9ba96b4417417a330ce62afd62fb23f65d53b1b1a24e2957", func := "loop.example/g01633/laws.FnExactRaiseAllow", spec := "fnExactRaiseAllow", apart := false, narrowed := true }
def FnExactRaiseAllowUptoSaid : Prop := fnExactRaiseAllowUptoRow.holds Try.pinned (OpenSpec.upto fnExactRaiseAllowSpec)

/-- 'laws.FnExactAreCandidates', WHERE WHAT IT READS IS OF BULK AT MOST 1048576: true; the input reads as it did. -/
def fnExactAreCandidatesUptoRow : OpenClaim := { program := "ytcdabfkankcodaa", sum := "2254cf0123aab7ff9ba96b4417417a330ce62afd62fb23f65d53b1b1a24e2957", func := "loop.example/g01633/laws.FnExactAreCandidates", spec := "fnExactAreCandidates", apart := false, narrowed := true }
def FnExactAreCandidatesUptoSaid : Prop := fnExactAreCandidatesUptoRow.holds Try.pinned (OpenSpec.upto fnExactAreCandidatesSpec)

/-- 'laws.FnExactPlainNext', WHERE WHAT IT READS IS OF BULK AT MOST 1048576: true; the input reads as it did. -/
def fnExactPlainNextUptoRow : OpenClaim := { program := "ytcdabfkankcodaa", sum := "2254cf0123aab7ff9ba96b4417417a330ce62afd62fb23f65d53b1b1a24e2957", func := "loop.example/g01633/laws.FnExactPlainNext", spec := "fnExactPlainNext", apart := false, narrowed := true }
def FnExactPlainNextUptoSaid : Prop := fnExactPlainNextUptoRow.holds Try.pinned (OpenSpec.upto fnExactPlainNextSpec)

end Rows
end Go.Proofs.Ytcdabfkankcodaa
