/- The data of the program as plain Lean, and what its small functions compute. No program in sight. -/
import Derived.Test.YtbhnekiclbfmgaaGreatSl
namespace Go.Proofs.YtbhnekiclbfmgaaGreat
open SL

abbrev w64 (n : Int) : Int := IntKind.i64.wrap n

structure Priority where
  urgency : Int
  incremental : Bool
def Priority.cells (p : Priority) : List Value := [.int .i64 p.urgency, .bool p.incremental]
structure Conf where
  ring : Int
  window : Int
  windowMost : Int
  total : Int
  totalMost : Int
  bidi : Int
  uni : Int
  trip : Int
def Conf.cells (c : Conf) : List Value := [.int .i64 c.ring, .int .i64 c.window, .int .i64 c.windowMost, .int .i64 c.total, .int .i64 c.totalMost, .int .i64 c.bidi, .int .i64 c.uni, .int .i64 c.trip]
structure Allow where
  most : Int
  limit : Int
  seen : Int
  closed : Int
def Allow.cells (a : Allow) : List Value := [.int .i64 a.most, .int .i64 a.limit, .int .i64 a.seen, .int .i64 a.closed]
structure Count where
  limit : Int
  opened : Int
  blocked : Int
def Count.cells (a : Count) : List Value := [.int .i64 a.limit, .int .i64 a.opened, .int .i64 a.blocked]
structure Piece where
  offset : Int
  data : ByteArray
  fin : Bool
def Piece.cells (p : Piece) : List Value := [.int .i64 p.offset, .string p.data, .bool p.fin]
structure Frame' where
  kind : Int
  stream : Int
  offset : Int
  data : ByteArray
  fin : Bool
  code : Int
  limit : Int
  final : Int
  uni : Bool
def Frame'.cells (f : Frame') : List Value := [.int .i64 f.kind, .int .i64 f.stream, .int .i64 f.offset, .string f.data, .bool f.fin, .int .i64 f.code, .int .i64 f.limit, .int .i64 f.final, .bool f.uni]

def within (n low high : Int) : Bool := decide (low ≤ n) && decide (n ≤ high)
def isPriority (p : Priority) : Bool := within p.urgency 0 7
def isRingSize (n : Int) : Bool := within n 1 64 && (bits .and .i64 n (w64 (n - 1)) == 0)
def isConf (c : Conf) : Bool :=
  isRingSize c.ring && within c.windowMost 1 4096 && within c.totalMost 1 4096 && within c.window 1 c.windowMost && within c.total 1 c.totalMost && within c.bidi 0 1000 && within c.uni 0 1000 && within c.trip 1 1000
def defaultPriority : Priority := ⟨3, false⟩
def defaultConf : Conf := ⟨16, 8, 32, 16, 64, 2, 2, 4⟩
structure Candidate where
  id : Int
  priority : Priority
def Candidate.cells (c : Candidate) : List Value := [.int .i64 c.id, .int .i64 c.priority.urgency, .bool c.priority.incremental]
def intC (n : Int) : List Value := [.int .i64 n]
def strC (s : ByteArray) : List Value := [.string s]

def isQuic (n : Int) : Bool := within n 0 4611686018427387903
def one (b : Bool) : Int := bif b then 1 else 0
/-- What lies before place i. -/
def prevOf {α : Type} (l : List α) (i : Nat) : Option α := if i = 0 then none else l[i - 1]?
theorem prevOf_z {α : Type} {l : List α} {i : Nat} (h : i = 0) : prevOf l i = none := by subst h; rfl
theorem prevOf_succ {α : Type} (l : List α) (i : Nat) : prevOf l (i + 1) = l[i]? := rfl
theorem prevOf_pos {α : Type} {l : List α} {i : Nat} {x : α} (hi : 0 < i) (h : l[i - 1]? = some x) : prevOf l i = some x := by
  unfold prevOf; rw [if_neg (by omega)]; exact h
def after (last : Int) : List Int → Option Int
  | [] => none
  | x :: l => bif decide (last < x) then some x else after last l
end Go.Proofs.YtbhnekiclbfmgaaGreat
