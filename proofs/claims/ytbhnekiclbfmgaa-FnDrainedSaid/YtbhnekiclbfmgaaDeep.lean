/- The data with slices: how its cells read, how it is owned. -/
import Derived.Test.YtbhnekiclbfmgaaElems
namespace Go.Proofs.Ytbhnekiclbfmgaa
open SL Go.RowKit
structure Range where
  low : Int
  high : Int
def Range.cells (x : Range) : List Value := [.int .i64 x.low, .int .i64 x.high]
structure Chunk where
  offset : Int
  data : ByteArray
def Chunk.cells (x : Chunk) : List Value := [.int .i64 x.offset, .string x.data]
structure Credit where
  limit : Int
  used : Int
  blocked : Int
  told : Int
def Credit.cells (x : Credit) : List Value := [.int .i64 x.limit, .int .i64 x.used, .int .i64 x.blocked, .int .i64 x.told]
structure Window where
  size : Int
  most : Int
  limit : Int
  seen : Int
  read : Int
  since : Int
def Window.cells (x : Window) : List Value := [.int .i64 x.size, .int .i64 x.most, .int .i64 x.limit, .int .i64 x.seen, .int .i64 x.read, .int .i64 x.since]
theorem eRange : Elem 2 (PlO Range.cells) (Pl Range.cells) := .plain (fun _ => rfl) (fun x u hu => List.all_eq_true.1 (show (Range.cells x).all (·.oneCell') = true from rfl) u hu)
theorem eChunk : Elem 2 (PlO Chunk.cells) (Pl Chunk.cells) := .plain (fun _ => rfl) (fun x u hu => List.all_eq_true.1 (show (Chunk.cells x).all (·.oneCell') = true from rfl) u hu)
theorem eFrame : Elem 9 (PlO Frame'.cells) (Pl Frame'.cells) := .plain (fun _ => rfl) (fun x u hu => List.all_eq_true.1 (show (Frame'.cells x).all (·.oneCell') = true from rfl) u hu)
structure Ring where
  size : Int
  base : Int
  fin : Int
  cells : List Int
def Ring.row (x : Ring) (v0 : Value) : List Value := [.int .i64 x.size, .int .i64 x.base, .int .i64 x.fin, v0]
def Ring.le (n : Nat) (x : Ring) : Prop := x.cells.length ≤ n
def RdRing (w : World) (cs : List Value) (x : Ring) : Prop := ∃ v0, cs = [.int .i64 x.size, .int .i64 x.base, .int .i64 x.fin, v0] ∧ RdS w 1 (Pl intC) v0 x.cells
theorem RdRing.keeps : Keeps RdRing := fun _ _ _ _ hb ⟨v0, e, h0⟩ => ⟨v0, e, h0.below Pl.keeps hb⟩
def OwRing (cs : List Value) (x : Ring) (ch : List Ck) : Prop := ∃ v0 c0, cs = [.int .i64 x.size, .int .i64 x.base, .int .i64 x.fin, v0] ∧ OwS 3 1 (PlO intC) v0 x.cells c0 ∧ ch = c0
theorem eRing : Elem 4 OwRing RdRing := by
  refine ⟨?_, ?_, ?_, RdRing.keeps⟩
  · rintro cs x ch ⟨v0, c0, rfl, h0, rfl⟩; rfl
  · rintro cs x ch ⟨v0, c0, rfl, h0, rfl⟩
    obtain ⟨_, _, rfl, _⟩ := h0.shape eInt
    exact fun u hu => List.all_eq_true.1 (by rfl) u hu
  · rintro w cs x ch ⟨v0, c0, rfl, h0, rfl⟩ hin
    exact ⟨v0, rfl, h0.rd eInt fun c hc => hin c (by simp [hc])⟩
structure Sender where
  state : Int
  ring : Ring
  pending : List Range
  flight : List Range
  acked : List Range
  final : Int
  fin : Int
  sent : Int
  code : Int
def Sender.row (x : Sender) (v0 v1 v2 v3 : Value) : List Value := [.int .i64 x.state, .int .i64 x.ring.size, .int .i64 x.ring.base, .int .i64 x.ring.fin, v0, v1, v2, v3, .int .i64 x.final, .int .i64 x.fin, .int .i64 x.sent, .int .i64 x.code]
def Sender.le (n : Nat) (x : Sender) : Prop := x.ring.cells.length ≤ n ∧ x.pending.length ≤ n ∧ x.flight.length ≤ n ∧ x.acked.length ≤ n
def RdSender (w : World) (cs : List Value) (x : Sender) : Prop := ∃ v0 v1 v2 v3, cs = [.int .i64 x.state, .int .i64 x.ring.size, .int .i64 x.ring.base, .int .i64 x.ring.fin, v0, v1, v2, v3, .int .i64 x.final, .int .i64 x.fin, .int .i64 x.sent, .int .i64 x.code] ∧ RdS w 1 (Pl intC) v0 x.ring.cells ∧ RdS w 2 (Pl Range.cells) v1 x.pending ∧ RdS w 2 (Pl Range.cells) v2 x.flight ∧ RdS w 2 (Pl Range.cells) v3 x.acked
theorem RdSender.keeps : Keeps RdSender := fun _ _ _ _ hb ⟨v0, v1, v2, v3, e, h0, h1, h2, h3⟩ => ⟨v0, v1, v2, v3, e, h0.below Pl.keeps hb, h1.below Pl.keeps hb, h2.below Pl.keeps hb, h3.below Pl.keeps hb⟩
def OwSender (cs : List Value) (x : Sender) (ch : List Ck) : Prop := ∃ v0 v1 v2 v3 c0 c1 c2 c3, cs = [.int .i64 x.state, .int .i64 x.ring.size, .int .i64 x.ring.base, .int .i64 x.ring.fin, v0, v1, v2, v3, .int .i64 x.final, .int .i64 x.fin, .int .i64 x.sent, .int .i64 x.code] ∧ OwS 3 1 (PlO intC) v0 x.ring.cells c0 ∧ OwS 61 2 (PlO Range.cells) v1 x.pending c1 ∧ OwS 61 2 (PlO Range.cells) v2 x.flight c2 ∧ OwS 61 2 (PlO Range.cells) v3 x.acked c3 ∧ ch = c0 ++ (c1 ++ (c2 ++ (c3)))
theorem eSender : Elem 12 OwSender RdSender := by
  refine ⟨?_, ?_, ?_, RdSender.keeps⟩
  · rintro cs x ch ⟨v0, v1, v2, v3, c0, c1, c2, c3, rfl, h0, h1, h2, h3, rfl⟩; rfl
  · rintro cs x ch ⟨v0, v1, v2, v3, c0, c1, c2, c3, rfl, h0, h1, h2, h3, rfl⟩
    obtain ⟨_, _, rfl, _⟩ := h0.shape eInt
    obtain ⟨_, _, rfl, _⟩ := h1.shape eRange
    obtain ⟨_, _, rfl, _⟩ := h2.shape eRange
    obtain ⟨_, _, rfl, _⟩ := h3.shape eRange
    exact fun u hu => List.all_eq_true.1 (by rfl) u hu
  · rintro w cs x ch ⟨v0, v1, v2, v3, c0, c1, c2, c3, rfl, h0, h1, h2, h3, rfl⟩ hin
    exact ⟨v0, v1, v2, v3, rfl, h0.rd eInt fun c hc => hin c (by simp [hc]), h1.rd eRange fun c hc => hin c (by simp [hc]), h2.rd eRange fun c hc => hin c (by simp [hc]), h3.rd eRange fun c hc => hin c (by simp [hc])⟩
structure Buffer where
  next : Int
  chunks : List Chunk
def Buffer.row (x : Buffer) (v0 : Value) : List Value := [.int .i64 x.next, v0]
def Buffer.le (n : Nat) (x : Buffer) : Prop := x.chunks.length ≤ n ∧ (∀ y ∈ x.chunks, y.data.size ≤ n)
def RdBuffer (w : World) (cs : List Value) (x : Buffer) : Prop := ∃ v0, cs = [.int .i64 x.next, v0] ∧ RdS w 2 (Pl Chunk.cells) v0 x.chunks
theorem RdBuffer.keeps : Keeps RdBuffer := fun _ _ _ _ hb ⟨v0, e, h0⟩ => ⟨v0, e, h0.below Pl.keeps hb⟩
def OwBuffer (cs : List Value) (x : Buffer) (ch : List Ck) : Prop := ∃ v0 c0, cs = [.int .i64 x.next, v0] ∧ OwS 92 2 (PlO Chunk.cells) v0 x.chunks c0 ∧ ch = c0
theorem eBuffer : Elem 2 OwBuffer RdBuffer := by
  refine ⟨?_, ?_, ?_, RdBuffer.keeps⟩
  · rintro cs x ch ⟨v0, c0, rfl, h0, rfl⟩; rfl
  · rintro cs x ch ⟨v0, c0, rfl, h0, rfl⟩
    obtain ⟨_, _, rfl, _⟩ := h0.shape eChunk
    exact fun u hu => List.all_eq_true.1 (by rfl) u hu
  · rintro w cs x ch ⟨v0, c0, rfl, h0, rfl⟩ hin
    exact ⟨v0, rfl, h0.rd eChunk fun c hc => hin c (by simp [hc])⟩
structure Receiver where
  state : Int
  buffer : Buffer
  final : Int
  highest : Int
  code : Int
def Receiver.row (x : Receiver) (v0 : Value) : List Value := [.int .i64 x.state, .int .i64 x.buffer.next, v0, .int .i64 x.final, .int .i64 x.highest, .int .i64 x.code]
def Receiver.le (n : Nat) (x : Receiver) : Prop := x.buffer.chunks.length ≤ n ∧ (∀ y ∈ x.buffer.chunks, y.data.size ≤ n)
def RdReceiver (w : World) (cs : List Value) (x : Receiver) : Prop := ∃ v0, cs = [.int .i64 x.state, .int .i64 x.buffer.next, v0, .int .i64 x.final, .int .i64 x.highest, .int .i64 x.code] ∧ RdS w 2 (Pl Chunk.cells) v0 x.buffer.chunks
theorem RdReceiver.keeps : Keeps RdReceiver := fun _ _ _ _ hb ⟨v0, e, h0⟩ => ⟨v0, e, h0.below Pl.keeps hb⟩
def OwReceiver (cs : List Value) (x : Receiver) (ch : List Ck) : Prop := ∃ v0 c0, cs = [.int .i64 x.state, .int .i64 x.buffer.next, v0, .int .i64 x.final, .int .i64 x.highest, .int .i64 x.code] ∧ OwS 92 2 (PlO Chunk.cells) v0 x.buffer.chunks c0 ∧ ch = c0
theorem eReceiver : Elem 6 OwReceiver RdReceiver := by
  refine ⟨?_, ?_, ?_, RdReceiver.keeps⟩
  · rintro cs x ch ⟨v0, c0, rfl, h0, rfl⟩; rfl
  · rintro cs x ch ⟨v0, c0, rfl, h0, rfl⟩
    obtain ⟨_, _, rfl, _⟩ := h0.shape eChunk
    exact fun u hu => List.all_eq_true.1 (by rfl) u hu
  · rintro w cs x ch ⟨v0, c0, rfl, h0, rfl⟩ hin
    exact ⟨v0, rfl, h0.rd eChunk fun c hc => hin c (by simp [hc])⟩
structure Stream where
  id : Int
  send : Sender
  credit : Credit
  recv : Receiver
  window : Window
  priority : Priority
  canSend : Bool
  canRecv : Bool
  tellReset : Bool
  tellStop : Bool
  tellMost : Bool
  stopped : Bool
  stopCode : Int
  counted : Bool
def Stream.row (x : Stream) (v0 v1 v2 v3 v4 : Value) : List Value := [.int .i64 x.id, .int .i64 x.send.state, .int .i64 x.send.ring.size, .int .i64 x.send.ring.base, .int .i64 x.send.ring.fin, v0, v1, v2, v3, .int .i64 x.send.final, .int .i64 x.send.fin, .int .i64 x.send.sent, .int .i64 x.send.code, .int .i64 x.credit.limit, .int .i64 x.credit.used, .int .i64 x.credit.blocked, .int .i64 x.credit.told, .int .i64 x.recv.state, .int .i64 x.recv.buffer.next, v4, .int .i64 x.recv.final, .int .i64 x.recv.highest, .int .i64 x.recv.code, .int .i64 x.window.size, .int .i64 x.window.most, .int .i64 x.window.limit, .int .i64 x.window.seen, .int .i64 x.window.read, .int .i64 x.window.since, .int .i64 x.priority.urgency, .bool x.priority.incremental, .bool x.canSend, .bool x.canRecv, .bool x.tellReset, .bool x.tellStop, .bool x.tellMost, .bool x.stopped, .int .i64 x.stopCode, .bool x.counted]
def Stream.le (n : Nat) (x : Stream) : Prop := x.send.ring.cells.length ≤ n ∧ x.send.pending.length ≤ n ∧ x.send.flight.length ≤ n ∧ x.send.acked.length ≤ n ∧ x.recv.buffer.chunks.length ≤ n ∧ (∀ y ∈ x.recv.buffer.chunks, y.data.size ≤ n)
def RdStream (w : World) (cs : List Value) (x : Stream) : Prop := ∃ v0 v1 v2 v3 v4, cs = [.int .i64 x.id, .int .i64 x.send.state, .int .i64 x.send.ring.size, .int .i64 x.send.ring.base, .int .i64 x.send.ring.fin, v0, v1, v2, v3, .int .i64 x.send.final, .int .i64 x.send.fin, .int .i64 x.send.sent, .int .i64 x.send.code, .int .i64 x.credit.limit, .int .i64 x.credit.used, .int .i64 x.credit.blocked, .int .i64 x.credit.told, .int .i64 x.recv.state, .int .i64 x.recv.buffer.next, v4, .int .i64 x.recv.final, .int .i64 x.recv.highest, .int .i64 x.recv.code, .int .i64 x.window.size, .int .i64 x.window.most, .int .i64 x.window.limit, .int .i64 x.window.seen, .int .i64 x.window.read, .int .i64 x.window.since, .int .i64 x.priority.urgency, .bool x.priority.incremental, .bool x.canSend, .bool x.canRecv, .bool x.tellReset, .bool x.tellStop, .bool x.tellMost, .bool x.stopped, .int .i64 x.stopCode, .bool x.counted] ∧ RdS w 1 (Pl intC) v0 x.send.ring.cells ∧ RdS w 2 (Pl Range.cells) v1 x.send.pending ∧ RdS w 2 (Pl Range.cells) v2 x.send.flight ∧ RdS w 2 (Pl Range.cells) v3 x.send.acked ∧ RdS w 2 (Pl Chunk.cells) v4 x.recv.buffer.chunks
theorem RdStream.keeps : Keeps RdStream := fun _ _ _ _ hb ⟨v0, v1, v2, v3, v4, e, h0, h1, h2, h3, h4⟩ => ⟨v0, v1, v2, v3, v4, e, h0.below Pl.keeps hb, h1.below Pl.keeps hb, h2.below Pl.keeps hb, h3.below Pl.keeps hb, h4.below Pl.keeps hb⟩
def OwStream (cs : List Value) (x : Stream) (ch : List Ck) : Prop := ∃ v0 v1 v2 v3 v4 c0 c1 c2 c3 c4, cs = [.int .i64 x.id, .int .i64 x.send.state, .int .i64 x.send.ring.size, .int .i64 x.send.ring.base, .int .i64 x.send.ring.fin, v0, v1, v2, v3, .int .i64 x.send.final, .int .i64 x.send.fin, .int .i64 x.send.sent, .int .i64 x.send.code, .int .i64 x.credit.limit, .int .i64 x.credit.used, .int .i64 x.credit.blocked, .int .i64 x.credit.told, .int .i64 x.recv.state, .int .i64 x.recv.buffer.next, v4, .int .i64 x.recv.final, .int .i64 x.recv.highest, .int .i64 x.recv.code, .int .i64 x.window.size, .int .i64 x.window.most, .int .i64 x.window.limit, .int .i64 x.window.seen, .int .i64 x.window.read, .int .i64 x.window.since, .int .i64 x.priority.urgency, .bool x.priority.incremental, .bool x.canSend, .bool x.canRecv, .bool x.tellReset, .bool x.tellStop, .bool x.tellMost, .bool x.stopped, .int .i64 x.stopCode, .bool x.counted] ∧ OwS 3 1 (PlO intC) v0 x.send.ring.cells c0 ∧ OwS 61 2 (PlO Range.cells) v1 x.send.pending c1 ∧ OwS 61 2 (PlO Range.cells) v2 x.send.flight c2 ∧ OwS 61 2 (PlO Range.cells) v3 x.send.acked c3 ∧ OwS 92 2 (PlO Chunk.cells) v4 x.recv.buffer.chunks c4 ∧ ch = c0 ++ (c1 ++ (c2 ++ (c3 ++ (c4))))
theorem eStream : Elem 39 OwStream RdStream := by
  refine ⟨?_, ?_, ?_, RdStream.keeps⟩
  · rintro cs x ch ⟨v0, v1, v2, v3, v4, c0, c1, c2, c3, c4, rfl, h0, h1, h2, h3, h4, rfl⟩; rfl
  · rintro cs x ch ⟨v0, v1, v2, v3, v4, c0, c1, c2, c3, c4, rfl, h0, h1, h2, h3, h4, rfl⟩
    obtain ⟨_, _, rfl, _⟩ := h0.shape eInt
    obtain ⟨_, _, rfl, _⟩ := h1.shape eRange
    obtain ⟨_, _, rfl, _⟩ := h2.shape eRange
    obtain ⟨_, _, rfl, _⟩ := h3.shape eRange
    obtain ⟨_, _, rfl, _⟩ := h4.shape eChunk
    exact fun u hu => List.all_eq_true.1 (by rfl) u hu
  · rintro w cs x ch ⟨v0, v1, v2, v3, v4, c0, c1, c2, c3, c4, rfl, h0, h1, h2, h3, h4, rfl⟩ hin
    exact ⟨v0, v1, v2, v3, v4, rfl, h0.rd eInt fun c hc => hin c (by simp [hc]), h1.rd eRange fun c hc => hin c (by simp [hc]), h2.rd eRange fun c hc => hin c (by simp [hc]), h3.rd eRange fun c hc => hin c (by simp [hc]), h4.rd eChunk fun c hc => hin c (by simp [hc])⟩
structure Packet where
  number : Int
  frames : List Frame'
def Packet.row (x : Packet) (v0 : Value) : List Value := [.int .i64 x.number, v0]
def Packet.le (n : Nat) (x : Packet) : Prop := x.frames.length ≤ n ∧ (∀ y ∈ x.frames, y.data.size ≤ n)
def RdPacket (w : World) (cs : List Value) (x : Packet) : Prop := ∃ v0, cs = [.int .i64 x.number, v0] ∧ RdS w 9 (Pl Frame'.cells) v0 x.frames
theorem RdPacket.keeps : Keeps RdPacket := fun _ _ _ _ hb ⟨v0, e, h0⟩ => ⟨v0, e, h0.below Pl.keeps hb⟩
structure Conn where
  server : Bool
  own : Conf
  peer : Conf
  streams : List Stream
  total : Credit
  inflow : Window
  openBidi : Count
  openUni : Count
  allowBidi : Allow
  allowUni : Allow
  tellTotal : Bool
  tellBidi : Bool
  tellUni : Bool
  last : Int
  number : Int
  packets : List Packet
  now : Int
  closed : Int
def Conn.row (x : Conn) (v0 v1 : Value) : List Value := [.bool x.server, .int .i64 x.own.ring, .int .i64 x.own.window, .int .i64 x.own.windowMost, .int .i64 x.own.total, .int .i64 x.own.totalMost, .int .i64 x.own.bidi, .int .i64 x.own.uni, .int .i64 x.own.trip, .int .i64 x.peer.ring, .int .i64 x.peer.window, .int .i64 x.peer.windowMost, .int .i64 x.peer.total, .int .i64 x.peer.totalMost, .int .i64 x.peer.bidi, .int .i64 x.peer.uni, .int .i64 x.peer.trip, v0, .int .i64 x.total.limit, .int .i64 x.total.used, .int .i64 x.total.blocked, .int .i64 x.total.told, .int .i64 x.inflow.size, .int .i64 x.inflow.most, .int .i64 x.inflow.limit, .int .i64 x.inflow.seen, .int .i64 x.inflow.read, .int .i64 x.inflow.since, .int .i64 x.openBidi.limit, .int .i64 x.openBidi.opened, .int .i64 x.openBidi.blocked, .int .i64 x.openUni.limit, .int .i64 x.openUni.opened, .int .i64 x.openUni.blocked, .int .i64 x.allowBidi.most, .int .i64 x.allowBidi.limit, .int .i64 x.allowBidi.seen, .int .i64 x.allowBidi.closed, .int .i64 x.allowUni.most, .int .i64 x.allowUni.limit, .int .i64 x.allowUni.seen, .int .i64 x.allowUni.closed, .bool x.tellTotal, .bool x.tellBidi, .bool x.tellUni, .int .i64 x.last, .int .i64 x.number, v1, .int .i64 x.now, .int .i64 x.closed]
def Conn.le (n : Nat) (x : Conn) : Prop := x.streams.length ≤ n ∧ (∀ y ∈ x.streams, y.le n) ∧ x.packets.length ≤ n ∧ (∀ y ∈ x.packets, y.le n)
def RdConn (w : World) (cs : List Value) (x : Conn) : Prop := ∃ v0 v1, cs = [.bool x.server, .int .i64 x.own.ring, .int .i64 x.own.window, .int .i64 x.own.windowMost, .int .i64 x.own.total, .int .i64 x.own.totalMost, .int .i64 x.own.bidi, .int .i64 x.own.uni, .int .i64 x.own.trip, .int .i64 x.peer.ring, .int .i64 x.peer.window, .int .i64 x.peer.windowMost, .int .i64 x.peer.total, .int .i64 x.peer.totalMost, .int .i64 x.peer.bidi, .int .i64 x.peer.uni, .int .i64 x.peer.trip, v0, .int .i64 x.total.limit, .int .i64 x.total.used, .int .i64 x.total.blocked, .int .i64 x.total.told, .int .i64 x.inflow.size, .int .i64 x.inflow.most, .int .i64 x.inflow.limit, .int .i64 x.inflow.seen, .int .i64 x.inflow.read, .int .i64 x.inflow.since, .int .i64 x.openBidi.limit, .int .i64 x.openBidi.opened, .int .i64 x.openBidi.blocked, .int .i64 x.openUni.limit, .int .i64 x.openUni.opened, .int .i64 x.openUni.blocked, .int .i64 x.allowBidi.most, .int .i64 x.allowBidi.limit, .int .i64 x.allowBidi.seen, .int .i64 x.allowBidi.closed, .int .i64 x.allowUni.most, .int .i64 x.allowUni.limit, .int .i64 x.allowUni.seen, .int .i64 x.allowUni.closed, .bool x.tellTotal, .bool x.tellBidi, .bool x.tellUni, .int .i64 x.last, .int .i64 x.number, v1, .int .i64 x.now, .int .i64 x.closed] ∧ RdS w 39 RdStream v0 x.streams ∧ RdS w 2 RdPacket v1 x.packets
theorem RdConn.keeps : Keeps RdConn := fun _ _ _ _ hb ⟨v0, v1, e, h0, h1⟩ => ⟨v0, v1, e, h0.below RdStream.keeps hb, h1.below RdPacket.keeps hb⟩
end Go.Proofs.Ytbhnekiclbfmgaa
