/- The data of the program as plain Lean, and what its small functions compute. No program in sight. -/
import Derived.Test.YtcdabfkankcodaaSl
namespace Go.Proofs.Ytcdabfkankcodaa
open SL

abbrev w64 (n : Int) : Int := IntKind.i64.wrap n

structure Priority where
  urgency : Int
  incremental : Bool
def Priority.cells (p : Priority) : List Value := [.int .i64 p.urgency, .bool p.incremental]
structure Conf where
  ring : Int
  window : Int
  windowMost : Int
  total : Int
  totalMost : Int
  bidi : Int
  uni : Int
  trip : Int
def Conf.cells (c : Conf) : List Value := [.int .i64 c.ring, .int .i64 c.window, .int .i64 c.windowMost, .int .i64 c.total, .int .i64 c.totalMost, .int .i64 c.bidi, .int .i64 c.uni, .int .i64 c.trip]
structure Allow where
  most : Int
  limit : Int
  seen : Int
  closed : Int
def Allow.cells (a : Allow) : List Value := [.int .i64 a.most, .int .i64 a.limit, .int .i64 a.seen, .int .i64 a.closed]
structure Count where
  limit : Int
  opened : Int
  blocked : Int
def Count.cells (a : Count) : List Value := [.int .i64 a.limit, .int .i64 a.opened, .int .i64 a.blocked]
structure Piece where
  offset : Int
  data : ByteArray
  fin : Bool
def Piece.cells (p : Piece) : List Value := [.int .i64 p.offset, .string p.data, .bool p.fin]
structure Frame' where
  kind : Int
  stream : Int
  offset : Int
  data : ByteArray
  fin : Bool
  code : Int
  limit : Int
  final : Int
  uni : Bool
def Frame'.cells (f : Frame') : List Value := [.int .i64 f.kind, .int .i64 f.stream, .int .i64 f.offset, .string f.data, .bool f.fin, .int .i64 f.code, .int .i64 f.limit, .int .i64 f.final, .bool f.uni]

def within (n low high : Int) : Bool := decide (low ≤ n) && decide (n ≤ high)
def isPriority (p : Priority) : Bool := within p.urgency 0 7
def isRingSize (n : Int) : Bool := within n 1 64 && (bits .and .i64 n (w64 (n - 1)) == 0)
def isConf (c : Conf) : Bool :=
  isRingSize c.ring && within c.windowMost 1 4096 && within c.totalMost 1 4096 && within c.window 1 c.windowMost && within c.total 1 c.totalMost && within c.bidi 0 1000 && within c.uni 0 1000 && within c.trip 1 1000
def defaultPriority : Priority := ⟨3, false⟩
def defaultConf : Conf := ⟨16, 8, 32, 16, 64, 2, 2, 4⟩
def isAllow (a : Allow) : Bool :=
  within a.most 0 1000 && within a.limit a.most 1152921504606846976 && within a.seen 0 a.limit && within a.closed 0 a.seen && decide (a.limit ≤ w64 (a.closed + a.most))
def isCount (c : Count) : Bool := within c.limit 0 1152921504606846976 && within c.opened 0 c.limit && within c.blocked (-1) c.limit
def closeOne (a : Allow) : Allow × Bool := bif isAllow a && !(a.closed == a.seen) then ({ a with closed := w64 (a.closed + 1) }, true) else (a, false)
end Go.Proofs.Ytcdabfkankcodaa
