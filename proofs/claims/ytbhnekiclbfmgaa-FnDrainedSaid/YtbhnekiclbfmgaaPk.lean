/- Bytes of a ring, taken out one by one; bytes made a string. No program in sight. -/
import Derived.Test.YtbhnekiclbfmgaaSlv
import Derived.Laws.BytesArg
namespace Go.Proofs.Ytbhnekiclbfmgaa
namespace SL
open Go.RowKit
section
variable {C : Cx} {env : Env} {B F : List Ck} {ops : Array Oper} {rest : List Oper}
variable {K : Env → List Ck → Act → World → Prop} {d : Nat} {ty T : TypeId} {pos : String} {af : Array Edge} {x y : Operand}
theorem rw_convO {src dst e n c : Nat} {A : Option Addr} {l : List UInt8} {ch : List Ck} (hd : Nat.blt d C.n = true) (hT : TyCB C.P src dst e) (hx : ev env x = some (.slice A n c)) (hn : n = l.length)
    (hrd : ∀ w : World, (∀ c ∈ ch, c.In w) → RdL w 1 (Pl byC) A l) (hsub : ∀ c ∈ ch, c ∈ F) (h : RW C ops rest K ((d, .string ⟨l.toArray⟩) :: env) B F) :
    RW C ops (⟨some d, .convert src dst x, ty, pos, af, none⟩ :: rest) K env B F := by
  subst hn
  refine rw_step hd (fun ρ hρ E w hs => ⟨w, ?_, hs⟩) h
  have hr := hrd w fun c hc => hs.at_ c (List.mem_append_right _ (List.mem_append_left _ (hsub c hc)))
  cases A with
  | none =>
    have hl : l = [] := by
      cases l with
      | nil => rfl
      | cons a l => obtain ⟨a, ha⟩ := hr.1 (by simp); cases ha
    subst hl
    have := run_convert_bytes_nil (P := C.P) (w := w) src e hT.s hT.e 0 c dst hT.d
    have e0 : (⟨([] : List UInt8).toArray⟩ : ByteArray) = ByteArray.empty := rfl
    simp [execOp, hρ x _ hx, this, e0]
  | some a =>
    have := run_convert_bytes_back (P := C.P) w src dst e a c l hT.s hT.e hT.d (fun j hj => by
      have h1 := (hr.plain (List.getElem?_eq_getElem hj)).2 0 _ rfl
      rw [add_zero] at h1
      simpa [adr] using h1)
    simp [execOp, hρ x _ hx, this]
end
end SL
open SL Go.RowKit
def u8of (n : Int) : UInt8 := UInt8.ofNat (IntKind.u8.wrap n).toNat
theorem u8of_val (n : Int) : IntKind.u8.wrap n = ((u8of n).toNat : Int) := by
  have e : IntKind.u8.wrap n = n % 256 := rfl
  unfold u8of
  rw [e, UInt8.toNat_ofNat']
  omega
def peekBytes (r : Ring) (o : Int) (m : Nat) : List UInt8 := (List.range m).map fun (i : Nat) => u8of (r.cells.getD ((w64 (o + (i : Int))).tmod r.size).toNat 0)
theorem peekBytes_len (r : Ring) (o : Int) (m : Nat) : (peekBytes r o m).length = m := by simp [peekBytes]
theorem peek_snoc {r : Ring} {o : Int} {i k : Nat} {x : Int} (hk : (w64 (o + (i : Int))).tmod r.size = (k : Int)) (hx : r.cells[k]? = some x) : peekBytes r o (i + 1) = peekBytes r o i ++ [u8of x] := by
  unfold peekBytes
  rw [List.range_succ, List.map_append]
  simp [hk, hx]
def peekOk (r : Ring) (o m : Int) : Bool := isRing r && !decide (m < 0) && within o r.base r.fin && !decide (w64 (r.fin - o) < m)
theorem peekI_ok {r : Ring} {o m : Int} (h1 : isRing r = true) (h2 : decide (m < 0) = false) (h3 : within o r.base r.fin = true) (h4 : decide (w64 (r.fin - o) < m) = false) :
    0 ≤ o ∧ 0 ≤ m ∧ m ≤ 64 ∧ o + m ≤ r.fin ∧ r.fin ≤ 4611686018427387903 := by
  simp only [within, Bool.and_eq_true, decide_eq_true_eq] at h3
  exact peek_ok h1 (by simp only [decide_eq_false_iff_not]; omega) h2 (by simp only [decide_eq_false_iff_not]; omega) h4
def peekI (r : Ring) (o m : Int) : List UInt8 := bif peekOk r o m then peekBytes r o m.toNat else []
/-! ### the next piece, as the program finds it -/
def nextN (r : Range) (m lim : Int) : Int := bif decide (lim < w64 (r.low + min (w64 (r.high - r.low)) m)) then w64 (lim - r.low) else min (w64 (r.high - r.low)) m
def isActive (s : Sender) : Bool := isSender s && within s.state 0 2
def nextI (s : Sender) (m lim : Int) : Piece × Bool :=
  bif !isActive s then (⟨0, ByteArray.empty, false⟩, false) else
  match s.pending with
  | [] => (⟨w64 (max s.final 0 * one (s.fin == 1)), ByteArray.empty, s.fin == 1⟩, s.fin == 1)
  | r :: _ => bif decide (lim ≤ r.low) || decide (nextN r m lim ≤ 0) then (⟨0, ByteArray.empty, false⟩, false)
    else (⟨r.low, mkS (peekI s.ring r.low (nextN r m lim)), s.fin == 1 && w64 (r.low + nextN r m lim) == s.final⟩, true)
theorem nextI_cons {s : Sender} {m lim : Int} {r : Range} (h0 : isActive s = true) (h : s.pending[0]? = some r) : nextI s m lim = bif decide (lim ≤ r.low) || decide (nextN r m lim ≤ 0) then (⟨0, ByteArray.empty, false⟩, false)
    else (⟨r.low, mkS (peekI s.ring r.low (nextN r m lim)), s.fin == 1 && w64 (r.low + nextN r m lim) == s.final⟩, true) := by
  unfold nextI
  rw [h0]
  cases hp : s.pending with
  | nil => rw [hp] at h; cases h
  | cons y l => rw [hp] at h; simp at h; subst h; rfl
theorem nextI_nil {s : Sender} {m lim : Int} (h0 : isActive s = true) (h : s.pending = []) : nextI s m lim = (⟨w64 (max s.final 0 * one (s.fin == 1)), ByteArray.empty, s.fin == 1⟩, s.fin == 1) := by
  unfold nextI
  rw [h0, h]; rfl
theorem nextI_not {s : Sender} {m lim : Int} (h0 : isActive s = false) : nextI s m lim = (⟨0, ByteArray.empty, false⟩, false) := by
  unfold nextI
  rw [h0]; rfl
end Go.Proofs.Ytbhnekiclbfmgaa
