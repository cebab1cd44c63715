/- The data of the program as plain Lean, and what its small functions compute. No program in sight. -/
import Derived.Test.YtbhnekiclbfmgaaSl
namespace Go.Proofs.Ytbhnekiclbfmgaa
open SL

abbrev w64 (n : Int) : Int := IntKind.i64.wrap n

structure Priority where
  urgency : Int
  incremental : Bool
def Priority.cells (p : Priority) : List Value := [.int .i64 p.urgency, .bool p.incremental]
structure Conf where
  ring : Int
  window : Int
  windowMost : Int
  total : Int
  totalMost : Int
  bidi : Int
  uni : Int
  trip : Int
def Conf.cells (c : Conf) : List Value := [.int .i64 c.ring, .int .i64 c.window, .int .i64 c.windowMost, .int .i64 c.total, .int .i64 c.totalMost, .int .i64 c.bidi, .int .i64 c.uni, .int .i64 c.trip]
structure Allow where
  most : Int
  limit : Int
  seen : Int
  closed : Int
def Allow.cells (a : Allow) : List Value := [.int .i64 a.most, .int .i64 a.limit, .int .i64 a.seen, .int .i64 a.closed]
structure Count where
  limit : Int
  opened : Int
  blocked : Int
def Count.cells (a : Count) : List Value := [.int .i64 a.limit, .int .i64 a.opened, .int .i64 a.blocked]
structure Piece where
  offset : Int
  data : ByteArray
  fin : Bool
def Piece.cells (p : Piece) : List Value := [.int .i64 p.offset, .string p.data, .bool p.fin]
structure Frame' where
  kind : Int
  stream : Int
  offset : Int
  data : ByteArray
  fin : Bool
  code : Int
  limit : Int
  final : Int
  uni : Bool
def Frame'.cells (f : Frame') : List Value := [.int .i64 f.kind, .int .i64 f.stream, .int .i64 f.offset, .string f.data, .bool f.fin, .int .i64 f.code, .int .i64 f.limit, .int .i64 f.final, .bool f.uni]

def within (n low high : Int) : Bool := decide (low ≤ n) && decide (n ≤ high)
def isPriority (p : Priority) : Bool := within p.urgency 0 7
def isRingSize (n : Int) : Bool := within n 1 64 && (bits .and .i64 n (w64 (n - 1)) == 0)
def isConf (c : Conf) : Bool :=
  isRingSize c.ring && within c.windowMost 1 4096 && within c.totalMost 1 4096 && within c.window 1 c.windowMost && within c.total 1 c.totalMost && within c.bidi 0 1000 && within c.uni 0 1000 && within c.trip 1 1000
def defaultPriority : Priority := ⟨3, false⟩
def defaultConf : Conf := ⟨16, 8, 32, 16, 64, 2, 2, 4⟩
def isAllow (a : Allow) : Bool :=
  within a.most 0 1000 && within a.limit a.most 1152921504606846976 && within a.seen 0 a.limit && within a.closed 0 a.seen && decide (a.limit ≤ w64 (a.closed + a.most))
def isCount (c : Count) : Bool := within c.limit 0 1152921504606846976 && within c.opened 0 c.limit && within c.blocked (-1) c.limit
def closeOne (a : Allow) : Allow × Bool := bif isAllow a && !(a.closed == a.seen) then ({ a with closed := w64 (a.closed + 1) }, true) else (a, false)
structure Candidate where
  id : Int
  priority : Priority
def Candidate.cells (c : Candidate) : List Value := [.int .i64 c.id, .int .i64 c.priority.urgency, .bool c.priority.incremental]
def intC (n : Int) : List Value := [.int .i64 n]
def strC (s : ByteArray) : List Value := [.string s]

def isQuic (n : Int) : Bool := within n 0 4611686018427387903
def one (b : Bool) : Int := bif b then 1 else 0
def seeIndex (a : Allow) (i : Int) : Allow × Int × Bool :=
  bif isAllow a && within i 0 (w64 (a.limit - 1)) then ({ a with seen := w64 (a.seen + max (w64 (w64 (i + 1) - a.seen)) 0) }, max (w64 (w64 (i + 1) - a.seen)) 0, true) else (a, 0, false)
def seeIndexS (a : Allow) (i : Int) : Allow × Int × Bool :=
  bif isAllow a && (!decide (i < 0) && !decide (a.limit ≤ i)) then ({ a with seen := w64 (a.seen + max 0 (w64 (w64 (i + 1) - a.seen))) }, max 0 (w64 (w64 (i + 1) - a.seen)), true) else (a, 0, false)
def pieceFrame (id : Int) (p : Piece) : Frame' := ⟨8, id, p.offset, p.data, p.fin, 0, 0, 0, false⟩
def openNext (c : Count) : Int × Count × Bool :=
  bif isCount c then (bif c.opened == c.limit then (-1, { c with blocked := c.limit }, false) else (w64 (w64 (c.opened + 1) - 1), { c with opened := w64 (c.opened + 1) }, true)) else (-1, c, false)
def openNextS (c : Count) : Int × Count × Bool :=
  bif isCount c then (bif c.opened == c.limit then (-1, { c with blocked := c.limit }, false) else (c.opened, { c with opened := w64 (c.opened + 1) }, true)) else (-1, c, false)
def mustAllow (a : Allow) : Bool := isAllow a && decide (0 < a.most) && decide (w64 (Int.tdiv (w64 (a.most + 1)) 2) ≤ w64 (w64 (a.closed + a.most) - a.limit))
def raiseAllow (a : Allow) : Allow × Bool := bif mustAllow a && !decide (1152921504606846976 < w64 (a.closed + a.most)) then ({ a with limit := w64 (a.closed + a.most) }, true) else (a, false)
def szStr (s : ByteArray) (left : Int) : Int := bif decide (w64 (left - s.size) < 0) then -1 else w64 (left - s.size)

def szLen {α : Type} (l : List α) (left : Int) : Int := bif decide (w64 (left - l.length) < 0) then -1 else w64 (left - l.length)

def turnsFrom (id : Int) : Int → List Int → Int
  | n, [] => n
  | n, x :: l => turnsFrom id (bif x == id then w64 (n + 1) else n) l
def turnsOf (l : List Int) (id : Int) : Int := turnsFrom id 0 l
def areFrom : Option Int → List Candidate → Bool
  | _, [] => true
  | p, c :: l => isQuic c.id && isPriority c.priority && (match p with | none => true | some q => !decide (c.id ≤ q)) && areFrom (some c.id) l
def areCandidates (l : List Candidate) : Bool := areFrom none l
/-- What lies before place i. -/
def prevOf {α : Type} (l : List α) (i : Nat) : Option α := if i = 0 then none else l[i - 1]?
theorem prevOf_zero {α : Type} (l : List α) : prevOf l 0 = none := rfl
theorem prevOf_z {α : Type} {l : List α} {i : Nat} (h : i = 0) : prevOf l i = none := by subst h; rfl
theorem prevOf_succ {α : Type} (l : List α) (i : Nat) : prevOf l (i + 1) = l[i]? := rfl
theorem prevOf_pos {α : Type} {l : List α} {i : Nat} {x : α} (hi : 0 < i) (h : l[i - 1]? = some x) : prevOf l i = some x := by
  unfold prevOf; rw [if_neg (by omega)]; exact h
def after (last : Int) : List Int → Option Int
  | [] => none
  | x :: l => bif decide (last < x) then some x else after last l
def nextId (ids : List Int) (last : Int) : Int := match after last ids with | some x => x | none => ids.head?.getD (-1)
def plainNext (l : List Candidate) (last : Int) : Int := bif areCandidates l then nextId (l.map (·.id)) last else -1
end Go.Proofs.Ytbhnekiclbfmgaa
