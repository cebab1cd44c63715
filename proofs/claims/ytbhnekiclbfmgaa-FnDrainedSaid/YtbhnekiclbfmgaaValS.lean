/- Ranges, buffers, receivers, rings, senders, streams: what the checks and the set functions of the program compute. No program in sight. -/
import Derived.Test.YtbhnekiclbfmgaaDmodS
import Derived.Test.YtbhnekiclbfmgaaSlf
import Derived.Laws.Strings
namespace Go.Proofs.Ytbhnekiclbfmgaa
open SL Go.RowKit
abbrev maxQuic : Int := 4611686018427387903

/-! ### ranges -/
def isRange (r : Range) : Bool := decide (0 ≤ r.low) && decide (r.low < r.high) && decide (r.high ≤ maxQuic)
def rangesFrom : Option Range → List Range → Bool
  | _, [] => true
  | p, r :: l => isRange r && (match p with | none => true | some q => !decide (r.low ≤ q.high)) && rangesFrom (some r) l
def isRanges (l : List Range) : Bool := rangesFrom none l
def countFrom : Int → List Range → Int
  | n, [] => n
  | n, r :: l => countFrom (w64 (n + w64 (r.high - r.low))) l
def countNumbers (l : List Range) : Int := bif isRanges l then countFrom 0 l else -1
def gapFrom : Int → List Range → Int
  | n, [] => n
  | n, r :: l => gapFrom (bif decide (r.low ≤ n) && decide (n < r.high) then r.high else n) l
def firstGap (l : List Range) (n : Int) : Int := bif isRanges l && !decide (n < 0) then gapFrom n l else -1
def addGo : Range → Bool → List Range → List Range
  | r, pl, [] => bif pl then [] else [r]
  | r, pl, x :: l =>
    bif decide (x.high < r.low) then x :: addGo r pl l
    else bif decide (r.high < x.low) then (bif pl then x :: addGo r true l else r :: x :: addGo r true l)
    else addGo ⟨min r.low x.low, max r.high x.high⟩ pl l
def addRange (l : List Range) (r : Range) : List Range := bif isRanges l && isRange r then addGo r false l else l

/-! ### equality -/
def eqL {α : Type} (f : α → List Value) : List α → List α → Bool
  | [], [] => true
  | x :: l, y :: l' => eqC (f x) (f y) && eqL f l l'
  | _, _ => false
theorem eqL_len {α : Type} (f : α → List Value) : ∀ (l l' : List α), l.length ≠ l'.length → eqL f l l' = false
  | [], [], h => absurd rfl h
  | [], _ :: _, _ => rfl
  | _ :: _, [], _ => rfl
  | x :: l, y :: l', h => by
    simp only [eqL, eqL_len f l l' (by simpa using h), Bool.and_false]
def eqRings (a b : Ring) : Bool := a.size == b.size && a.base == b.base && a.fin == b.fin && eqL intC a.cells b.cells
def eqSenders (a b : Sender) : Bool := a.state == b.state && eqRings a.ring b.ring && eqL Range.cells a.pending b.pending && eqL Range.cells a.flight b.flight && eqL Range.cells a.acked b.acked &&
  a.final == b.final && a.fin == b.fin && a.sent == b.sent && a.code == b.code
def eqBuffers (a b : Buffer) : Bool := a.next == b.next && eqL Chunk.cells a.chunks b.chunks
def eqReceivers (a b : Receiver) : Bool := a.state == b.state && eqBuffers a.buffer b.buffer && a.final == b.final && a.highest == b.highest && a.code == b.code
def eqStreams (a b : Stream) : Bool := a.id == b.id && eqSenders a.send b.send && eqC a.credit.cells b.credit.cells && eqReceivers a.recv b.recv && eqC a.window.cells b.window.cells && eqC a.priority.cells b.priority.cells &&
  a.canSend == b.canSend && a.canRecv == b.canRecv && a.tellReset == b.tellReset && a.tellStop == b.tellStop && a.tellMost == b.tellMost && a.stopped == b.stopped && a.stopCode == b.stopCode && a.counted == b.counted
def eqTables : List Stream → List Stream → Bool
  | [], [] => true
  | a :: l, b :: l' => eqStreams a b && eqTables l l'
  | _, _ => false
theorem eqTables_len : ∀ (l l' : List Stream), l.length ≠ l'.length → eqTables l l' = false
  | [], [], h => absurd rfl h
  | [], _ :: _, _ => rfl
  | _ :: _, [], _ => rfl
  | x :: l, y :: l', h => by
    simp only [eqTables, eqTables_len l l' (by simpa using h), Bool.and_false]
def eqPackets (a b : Packet) : Bool := a.number == b.number && eqL Frame'.cells a.frames b.frames
def eqPacketLs : List Packet → List Packet → Bool
  | [], [] => true
  | a :: l, b :: l' => eqPackets a b && eqPacketLs l l'
  | _, _ => false
def eqConns (a b : Conn) : Bool := a.server == b.server && eqC a.own.cells b.own.cells && eqC a.peer.cells b.peer.cells && eqTables a.streams b.streams && eqC a.total.cells b.total.cells && eqC a.inflow.cells b.inflow.cells &&
  eqC a.openBidi.cells b.openBidi.cells && eqC a.openUni.cells b.openUni.cells && eqC a.allowBidi.cells b.allowBidi.cells && eqC a.allowUni.cells b.allowUni.cells && a.tellTotal == b.tellTotal && a.tellBidi == b.tellBidi && a.tellUni == b.tellUni &&
  a.last == b.last && a.number == b.number && eqPacketLs a.packets b.packets && a.now == b.now && a.closed == b.closed

/-! ### buffers and receivers -/
def chunkEnd (c : Chunk) : Int := w64 (c.offset + c.data.size)
def bufFrom : Int → List Chunk → Bool
  | _, [] => true
  | least, c :: l => !(((c.data.size : Int) == 0)) && !decide (c.offset < least) && !decide (w64 (maxQuic - c.data.size) < c.offset) && bufFrom (w64 (chunkEnd c + 1)) l
def isBuffer (b : Buffer) : Bool := isQuic b.next && bufFrom b.next b.chunks
def readyBytes (b : Buffer) : Int := bif isBuffer b then (match b.chunks[0]? with | none => 0 | some c => bif c.offset == b.next then (c.data.size : Int) else 0) else 0
def endOf (b : Buffer) : Int := bif isBuffer b then (match b.chunks[b.chunks.length - 1]? with | none => b.next | some c => chunkEnd c) else b.next
def isReceiver (r : Receiver) : Bool :=
  isBuffer r.buffer && !decide (r.highest < endOf r.buffer) && isQuic r.highest && isQuic r.code && (r.final == -1 || within r.final r.highest maxQuic) &&
  (let whole := !(r.final == -1) && w64 (r.buffer.next + readyBytes r.buffer) == r.final
   bif r.state == 0 then r.final == -1 && r.code == 0
   else bif r.state == 1 then !(r.final == -1) && !whole && r.code == 0
   else bif r.state == 2 then whole && r.code == 0
   else bif r.state == 3 then whole && r.code == 0 && (r.buffer.chunks.length : Int) == 0
   else bif r.state == 4 || r.state == 5 then r.final == r.highest && (r.buffer.chunks.length : Int) == 0
   else false)
def isReceived (r : Receiver) : Bool := isReceiver r && (r.state == 3 || r.state == 5)
def isSendOver (s : Stream) : Bool := !s.canSend || s.send.state == 3 || s.send.state == 5
def isRecvOver (s : Stream) : Bool := !s.canRecv || isReceived s.recv
def findFrom (id : Int) : Nat → List Stream → Int
  | _, [] => -1
  | i, s :: l => bif s.id == id then (i : Int) else findFrom id (i + 1) l
def findStream (l : List Stream) (id : Int) : Int := findFrom id 0 l
/-! ### the same in other words -/
theorem drop_nil_of {α β : Type} {l : List α} {l1 : List β} {i : Nat} (hl : l.length = l1.length) (h : l.drop i = []) : l1.drop i = [] := by
  apply List.drop_eq_nil_of_le
  have := congrArg List.length h
  simp at this
  omega
theorem eqPacketLs_len : ∀ (l l' : List Packet), l.length ≠ l'.length → eqPacketLs l l' = false
  | [], [], h => absurd rfl h
  | [], _ :: _, _ => rfl
  | _ :: _, [], _ => rfl
  | x :: l, y :: l', h => by
    simp only [eqPacketLs, eqPacketLs_len l l' (by simpa using h), Bool.and_false]
theorem str_empty {s : ByteArray} {b : Bool} (h : (s.toList == (⟨#[]⟩ : ByteArray).toList) = b) : ((s.size : Int) == 0) = b := by
  rw [ByteArray.toList_eq, ByteArray.toList_eq] at h
  rw [← h]
  have h1 : s.size = s.data.toList.length := rfl
  rw [h1]
  cases s.data.toList with
  | nil => rfl
  | cons a l =>
    have h2 : (((a :: l).length : Int) == 0) = false := by simp; omega
    rw [h2]; rfl
theorem eqC_int (a b : Int) : eqC (intC a) (intC b) = (a == b) := by simp [eqC, veq, intC]
def flagsC (x : Stream) : List Value := [.bool x.canSend, .bool x.canRecv, .bool x.tellReset, .bool x.tellStop, .bool x.tellMost, .bool x.stopped, .bool x.counted]
def eqStreamsI (a b : Stream) : Bool := a.id == b.id && a.stopCode == b.stopCode && eqC a.credit.cells b.credit.cells && eqC a.window.cells b.window.cells && eqC a.priority.cells b.priority.cells &&
  eqC (flagsC a) (flagsC b) && eqSenders a.send b.send && eqReceivers a.recv b.recv
theorem eqStreams_i (a b : Stream) : eqStreams a b = eqStreamsI a b := by
  have h : eqC (flagsC a) (flagsC b) = (a.canSend == b.canSend && a.canRecv == b.canRecv && a.tellReset == b.tellReset && a.tellStop == b.tellStop && a.tellMost == b.tellMost && a.stopped == b.stopped && a.counted == b.counted) := by
    simp only [flagsC, eqC, veq, Bool.and_true, Bool.and_assoc]
  unfold eqStreams eqStreamsI
  rw [h]
  ac_rfl
def bufS : Int → List Chunk → Bool
  | _, [] => true
  | e, c :: l => !decide (c.offset ≤ e) && !((c.data.size : Int) == 0) && !decide (w64 (maxQuic - c.data.size) < c.offset) && bufS (chunkEnd c) l
def isBufferS (b : Buffer) : Bool := bufS (w64 (b.next - 1)) b.chunks && isQuic b.next
theorem bufS_from : ∀ (l : List Chunk) (e : Int), -1 ≤ e → e ≤ 4611686018427387903 → (∀ y ∈ l, y.data.size ≤ 1048576) → bufS e l = bufFrom (w64 (e + 1)) l
  | [], _, _, _, _ => rfl
  | c :: l, e, h1, h2, h => by
    unfold bufS bufFrom
    rw [w64_id (n := e + 1) (by omega) (by omega)]
    have h3 : decide (c.offset < e + 1) = decide (c.offset ≤ e) := by rw [decide_eq_decide]; omega
    rw [h3]
    have hc := h c (by simp)
    cases ha : decide (c.offset ≤ e) with
    | true => simp
    | false =>
      cases hb : ((c.data.size : Int) == 0) with
      | true => simp
      | false =>
        cases hd : decide (w64 (maxQuic - c.data.size) < c.offset) with
        | true => simp
        | false =>
          have ha' : ¬ c.offset ≤ e := by simpa using ha
          have hd' : ¬ w64 (maxQuic - c.data.size) < c.offset := by simpa using hd
          rw [w64_id (by simp only [maxQuic]; omega) (by simp only [maxQuic]; omega)] at hd'
          simp only [maxQuic] at hd'
          have he : chunkEnd c = c.offset + c.data.size := w64_id (by omega) (by omega)
          rw [bufS_from l (chunkEnd c) (by omega) (by omega) fun y hy => h y (by simp [hy])]
theorem isBuffer_s (b : Buffer) (h : ∀ y ∈ b.chunks, y.data.size ≤ 1048576) : isBuffer b = isBufferS b := by
  unfold isBuffer isBufferS
  cases hq : isQuic b.next with
  | false => simp
  | true =>
    have h0 : 0 ≤ b.next ∧ b.next ≤ 4611686018427387903 := by simpa [isQuic, within] using hq
    rw [w64_id (n := b.next - 1) (by omega) (by omega), bufS_from _ _ (by omega) (by omega) h, w64_id (by omega) (by omega), Int.sub_add_cancel]
    simp
def isReceiverS (r : Receiver) : Bool :=
  isBuffer r.buffer && isQuic r.highest && !decide (r.highest < endOf r.buffer) && isQuic r.code && !(!(r.final == -1) && decide (r.final < r.highest)) && !decide (maxQuic < r.final) && !decide (r.final < -1) &&
  (let full := !(r.final == -1) && w64 (r.buffer.next + readyBytes r.buffer) == r.final
   bif r.state == 0 then r.final == -1 && r.code == 0
   else bif r.state == 1 then !(r.final == -1) && !full && r.code == 0
   else bif r.state == 2 then full && r.code == 0
   else bif r.state == 3 then full && (r.buffer.chunks.length : Int) == 0 && r.code == 0
   else bif r.state == 4 || r.state == 5 then !(r.final == -1) && r.highest == r.final && (r.buffer.chunks.length : Int) == 0
   else false)
theorem isReceiver_s (r : Receiver) : isReceiver r = isReceiverS r := by
  unfold isReceiver isReceiverS
  cases hq : isQuic r.highest with
  | false => simp
  | true =>
    have h0 : 0 ≤ r.highest ∧ r.highest ≤ 4611686018427387903 := by simpa [isQuic, within] using hq
    by_cases hf : r.final = -1
    · have h1 : ((-1 : Int) == r.highest) = false := by simp; omega
      simp [hf, h1, maxQuic, Bool.and_assoc, Bool.and_comm]
    · have h1 : (r.final == -1) = false := by simpa using hf
      have h2 : within r.final r.highest maxQuic = (!decide (r.final < r.highest) && !decide (maxQuic < r.final) && !decide (r.final < -1)) := by
        unfold within
        rw [Bool.eq_iff_iff]
        simp only [Bool.and_eq_true, decide_eq_true_eq, Bool.not_eq_true', decide_eq_false_iff_not, maxQuic]
        omega
      have h3 : (r.highest == r.final) = (r.final == r.highest) := Bool.beq_comm
      simp only [h1, h2, h3, Bool.not_false, Bool.true_and, Bool.false_or, Bool.and_true]
      ac_rfl
end Go.Proofs.Ytbhnekiclbfmgaa
