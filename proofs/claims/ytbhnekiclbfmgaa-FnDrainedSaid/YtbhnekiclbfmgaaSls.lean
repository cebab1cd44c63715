/- Strings: joined, cut, made of bytes; digits. -/
import Derived.Test.YtbhnekiclbfmgaaSlf
import Derived.Test.YtbhnekiclbfmgaaData
import Derived.Test.YtbhnekiclbfmgaaSh
import Derived.Laws.Concat
import Derived.Laws.Strings2
import Derived.Laws.IdiomStrings
import Derived.Laws.Entries
import Derived.Laws.Strings
import Derived.Laws.Slices
namespace Go.Proofs.Ytbhnekiclbfmgaa
namespace SL
open Go.RowKit
theorem gw_loop1 {C : Cx} {k : List Item} {env : Env} {B F : List Ck} {c : Code} (h : GW C (.code c :: .inLoop c :: k) env B F) : GW C (.code (.loop c) :: k) env B F :=
  fun E a w hd hf hs => Good.step (fun _ _ => step_loop) (h E a w hd hf hs)
theorem gw_again {C : Cx} {k : List Item} {env : Env} {B F : List Ck} {c : Code} (h : GW C (.code c :: .inLoop c :: k) env B F) : GW C (.inLoop c :: k) env B F :=
  fun E a w hd hf hs => Good.step (fun _ _ => step_inLoop) (h E a w hd hf hs)
structure TyCI (P : Program) (src dst : Nat) (k : IntKind) : Prop where
  s : (P.underlying src).isSome = true
  d : P.underlying dst = some (.int k)
structure TyCB (P : Program) (src dst e : Nat) : Prop where
  s : P.underlying src = some (.slice e)
  e : P.underlying e = some (.int .u8)
  d : P.underlying dst = some .string
section
variable {C : Cx} {k : List Item} {env : Env} {B F : List Ck} {ops : Array Oper} {rest : List Oper}
variable {K : Env → List Ck → Act → World → Prop} {d : Nat} {ty : TypeId} {pos : String} {af : Array Edge} {x y z : Operand} {T yt : TypeId}
theorem rw_catS {a b : List UInt8} (hd : Nat.blt d C.n = true) (hx : ev env x = some (.string ⟨a.toArray⟩)) (hy : ev env y = some (.string ⟨b.toArray⟩)) (ha : (a.length : Int) ≤ 8388608) (hb : (b.length : Int) ≤ 8388608)
    (h : RW C ops rest K ((d, .string ⟨(a ++ b).toArray⟩) :: env) B F) : RW C ops (⟨some d, .binOp .add T x y yt, ty, pos, af, none⟩ :: rest) K env B F := by
  refine rw_bin hd hx hy (fun w => ?_) h
  have h1 := run_string_add_lists (P := C.P) w a b ha hb
  have h2 : (binOp .add T (.string ⟨a.toArray⟩) (.string ⟨b.toArray⟩)) = Op.stringOp .add ⟨a.toArray⟩ ⟨b.toArray⟩ := by simp only [binOp]
  rw [h2]
  simp only [Sem.run_bind]
  have h3 : (eqGuard .add T x y (.string ⟨a.toArray⟩) (.string ⟨b.toArray⟩)).run C.P w = .ok () w := by simp [eqGuard]
  rw [h3, Result.andThen_ok, h1]
theorem rw_convI {src dst : Nat} {IK k' : IntKind} {n : Int} (hd : Nat.blt d C.n = true) (hT : TyCI C.P src dst k') (hx : ev env x = some (.int IK n)) (h : RW C ops rest K ((d, .int k' (k'.wrap n)) :: env) B F) :
    RW C ops (⟨some d, .convert src dst x, ty, pos, af, none⟩ :: rest) K env B F := by
  refine rw_step hd (fun ρ hρ E w hs => ⟨w, ?_, hs⟩) h
  have hk : C.P.intKind dst = k' := by simp [Program.intKind, hT.d]
  have := run_convert_int (P := C.P) w src dst IK n hT.s (by rw [hk]; exact hT.d)
  rw [hk] at this
  simp [execOp, hρ x _ hx, this]
theorem rw_convB {src dst e b n c T' i : Nat} {cs : List Value} (l : List UInt8) (hd : Nat.blt d C.n = true) (hT : TyCB C.P src dst e) (hx : ev env x = some (.slice (some ⟨b, 0, none⟩) n c)) (hB : B[i]? = some ⟨b, T', cs⟩) (hn : n = l.length)
    (hcs : cs = l.map fun u => Value.int .u8 (u.toNat : Int)) (h : RW C ops rest K ((d, .string ⟨l.toArray⟩) :: env) B F) :
    RW C ops (⟨some d, .convert src dst x, ty, pos, af, none⟩ :: rest) K env B F := by
  subst hn hcs
  refine rw_step hd (fun ρ hρ E w hs => ⟨w, ?_, hs⟩) h
  have hin := hs.at_ _ (List.mem_append_left (F ++ E) (List.mem_of_getElem? hB))
  have hat := Ck.In.at0 hin
  have := run_convert_bytes_back (P := C.P) w src dst e ⟨b, 0, none⟩ c l hT.s hT.e hT.d (fun j hj => hat.2 j _ (by simp [hj]))
  simp [execOp, hρ x _ hx, this]
theorem rw_sliceS {l : List UInt8} {lo hi : Operand} {IK IK' : IntKind} {i j : Int} (a b : Nat) (hd : Nat.blt d C.n = true) (hT : C.P.underlying T = some .string) (hx : ev env x = some (.string ⟨l.toArray⟩)) (hlo : ev env lo = some (.int IK i)) (hhi : ev env hi = some (.int IK' j))
    (hi' : i = (a : Int)) (hj' : j = (b : Int)) (h1 : Nat.ble a b = true) (h2 : Nat.ble b l.length = true) (h : RW C ops rest K ((d, .string ⟨((l.drop a).take (b - a)).toArray⟩) :: env) B F) :
    RW C ops (⟨some d, .slice T x (some lo) (some hi) none, ty, pos, af, none⟩ :: rest) K env B F := by
  subst hi' hj'
  refine rw_step hd (fun ρ hρ E w hs => ⟨w, ?_, hs⟩) h
  have h1 : a ≤ b := by simpa using h1
  have h2 : b ≤ l.length := by simpa using h2
  have h3 := run_slice_string (P := C.P) w T ⟨l.toArray⟩ IK IK' (a : Int) (b : Int) hT (by omega) (by omega) (by simp [ByteArray.size]; omega)
  rw [show ((a : Int).toNat) = a by omega, show ((b : Int).toNat) = b by omega, ByteArray.extract_mk] at h3
  simp [execOp, hρ x _ hx, hρ lo _ hlo, hρ hi _ hhi, Instr.sliceAt, run_underlying hT, h3]
theorem rw_lenL {l : List UInt8} (hd : Nat.blt d C.n = true) (hT : C.P.underlying T = some .string) (hx : ev env x = some (.string ⟨l.toArray⟩)) (h : RW C ops rest K ((d, .int .i64 (l.length : Int)) :: env) B F) :
    RW C ops (⟨some d, .call ⟨.builtin .len, #[x], #[T]⟩, ty, pos, af, none⟩ :: rest) K env B F := rw_lenS hd hT hx h
theorem rw_idxL {l : List UInt8} {IK : IntKind} {p : Int} {u : UInt8} (i : Nat) (hd : Nat.blt d C.n = true) (hT : C.P.underlying T = some .string) (hx : ev env x = some (.string ⟨l.toArray⟩)) (hy : ev env y = some (.int IK p)) (hp : p = (i : Int)) (hu : l[i]? = some u)
    (h : RW C ops rest K ((d, .int .u8 (u.toNat : Int)) :: env) B F) : RW C ops (⟨some d, .index T x y, ty, pos, af, none⟩ :: rest) K env B F := by
  subst hp
  refine rw_step hd (fun ρ hρ E w hs => ⟨w, ?_, hs⟩) h
  obtain ⟨hi, hu'⟩ := List.getElem?_eq_some_iff.1 hu
  have h1 := run_index_string (P := C.P) w T ⟨l.toArray⟩ IK (i : Int) hT
  rw [dif_pos ⟨by omega, by simp [ByteArray.size]; omega⟩] at h1
  have h2 : (⟨l.toArray⟩ : ByteArray)[((i : Int)).toNat]'(by simp [ByteArray.size]; omega) = u := by
    rw [← hu']; rfl
  rw [h2] at h1
  simp [execOp, hρ x _ hx, hρ y _ hy, h1]
theorem rw_sliceL {l : List UInt8} {lo hi : Operand} {IK IK' : IntKind} {i j : Int} (a b : Nat) (out : List UInt8) (hd : Nat.blt d C.n = true) (hT : C.P.underlying T = some .string) (hx : ev env x = some (.string ⟨l.toArray⟩)) (hlo : ev env lo = some (.int IK i)) (hhi : ev env hi = some (.int IK' j))
    (hi' : i = (a : Int)) (hj' : j = (b : Int)) (h1 : a ≤ b) (h2 : b ≤ l.length) (ho : (l.drop a).take (b - a) = out) (h : RW C ops rest K ((d, .string ⟨out.toArray⟩) :: env) B F) :
    RW C ops (⟨some d, .slice T x (some lo) (some hi) none, ty, pos, af, none⟩ :: rest) K env B F := by
  subst ho
  exact rw_sliceS a b hd hT hx hlo hhi hi' hj' (by simpa using h1) (by simpa using h2) h
theorem rw_sliceH {l : List UInt8} {hi : Operand} {IK' : IntKind} {j : Int} (b : Nat) (out : List UInt8) (hd : Nat.blt d C.n = true) (hT : C.P.underlying T = some .string) (hx : ev env x = some (.string ⟨l.toArray⟩)) (hhi : ev env hi = some (.int IK' j))
    (hj' : j = (b : Int)) (h2 : b ≤ l.length) (ho : l.take b = out) (h : RW C ops rest K ((d, .string ⟨out.toArray⟩) :: env) B F) :
    RW C ops (⟨some d, .slice T x none (some hi) none, ty, pos, af, none⟩ :: rest) K env B F := by
  subst ho hj'
  refine rw_step hd (fun ρ hρ E w hs => ⟨w, ?_, hs⟩) h
  have h3 := run_slice_string_h (P := C.P) w T ⟨l.toArray⟩ hT IK' (b : Int) (by omega) (by simp [ByteArray.size]; omega)
  rw [show ((b : Int).toNat) = b by omega, ByteArray.extract_mk] at h3
  simp [execOp, hρ x _ hx, hρ hi _ hhi, Instr.sliceAt, run_underlying hT, h3]
theorem rw_sliceW {l : List UInt8} {lo : Operand} {IK : IntKind} {i : Int} (a : Nat) (hd : Nat.blt d C.n = true) (hT : C.P.underlying T = some .string) (hx : ev env x = some (.string ⟨l.toArray⟩)) (hlo : ev env lo = some (.int IK i))
    (hi' : i = (a : Int)) (h2 : a ≤ l.length) (h : RW C ops rest K ((d, .string ⟨(l.drop a).toArray⟩) :: env) B F) :
    RW C ops (⟨some d, .slice T x (some lo) none none, ty, pos, af, none⟩ :: rest) K env B F := by
  subst hi'
  refine rw_step hd (fun ρ hρ E w hs => ⟨w, ?_, hs⟩) h
  have h3 := run_slice_string_l (P := C.P) w T ⟨l.toArray⟩ hT IK (a : Int) (by omega) (by simp [ByteArray.size]; omega)
  have h4 : (⟨l.toArray⟩ : ByteArray).size = l.length := by simp [ByteArray.size]
  rw [show ((a : Int).toNat) = a by omega, h4, ByteArray.extract_mk, List.take_of_length_le (by simp)] at h3
  simp [execOp, hρ x _ hx, hρ lo _ hlo, Instr.sliceAt, run_underlying hT, h3]
theorem rw_eqlL {a b : List UInt8} (hd : Nat.blt d C.n = true) (hx : ev env x = some (.string ⟨a.toArray⟩)) (hy : ev env y = some (.string ⟨b.toArray⟩)) (h : RW C ops rest K ((d, .bool (a == b)) :: env) B F) :
    RW C ops (⟨some d, .binOp .eql T x y yt, ty, pos, af, none⟩ :: rest) K env B F := by
  refine rw_eqlS hd hx hy ?_
  rw [ByteArray.toList_eq, ByteArray.toList_eq]
  exact h
end
theorem byte_eq {x c : UInt8} {b : Bool} (h : ((x.toNat : Int) == (c.toNat : Int)) = b) : (x == c) = b := by
  rw [← h, Bool.eq_iff_iff]
  simp only [beq_iff_eq]
  exact ⟨fun e => by rw [e], fun e => UInt8.toNat_inj.1 (by exact_mod_cast e)⟩
theorem succ_of {i : Nat} (h : i ≤ 134217728) : IntKind.i64.wrap ((i : Int) + 1) = ((i + 1 : Nat) : Int) := w64_succ (by omega)
theorem lenpredS {n : Nat} (h0 : 0 < n) (hn : n ≤ 134217728) : IntKind.i64.wrap ((n : Int) - 1) = ((n - 1 : Nat) : Int) := lenpred_of h0 hn
theorem slice_one {l : List UInt8} {i : Nat} {x : UInt8} (h : l[i]? = some x) : (l.drop i).take (i + 1 - i) = [x] := by
  rw [drop_cons h, show i + 1 - i = 1 by omega]; rfl
theorem three_of {l : List UInt8} (h : ((l.length : Int) == 3) = true) : ∃ a b c, l = [a, b, c] := by
  have h1 : (l.length : Int) = 3 := by simpa using h
  match l, h1 with
  | [a, b, c], _ => exact ⟨a, b, c, rfl⟩
  | [], h1 => simp at h1
  | [_], h1 => simp at h1
  | [_, _], h1 => simp at h1
  | _ :: _ :: _ :: _ :: l, h1 => simp at h1; omega
end SL
open SL
def digit (n : Int) : UInt8 := UInt8.ofNat (48 + n.toNat)
def formatPriority (p : Priority) : List UInt8 := bif isPriority p then (bif p.incremental then ([117, 61] ++ [digit p.urgency]) ++ [44, 32, 105] else [117, 61] ++ [digit p.urgency]) else []
theorem pri_ok {p : Priority} (h : isPriority p = true) : 0 ≤ p.urgency ∧ p.urgency ≤ 7 := by simpa [isPriority, within] using h
theorem upto7 {n : Int} (h : 0 ≤ n ∧ n ≤ 7) : n = 0 ∨ n = 1 ∨ n = 2 ∨ n = 3 ∨ n = 4 ∨ n = 5 ∨ n = 6 ∨ n = 7 := by omega
end Go.Proofs.Ytbhnekiclbfmgaa
