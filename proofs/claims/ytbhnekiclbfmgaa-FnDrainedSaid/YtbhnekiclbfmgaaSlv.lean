/- A slice without its first element; a store of a whole element; what is taken off a buffer. -/
import Derived.Test.YtbhnekiclbfmgaaRcv
import Derived.Test.YtbhnekiclbfmgaaIns
namespace Go.Proofs.Ytbhnekiclbfmgaa
namespace SL
open Go.RowKit
section
variable {C : Cx} {env : Env} {B F : List Ck} {ops : Array Oper} {rest : List Oper}
variable {K : Env → List Ck → Act → World → Prop} {d : Nat} {ty T : TypeId} {pos : String} {af : Array Edge} {x y : Operand} {E kk bytes : Nat} {zs : List Value}
theorem rd_tail {α : Type} {k c : Nat} {R : World → List Value → α → Prop} {A : Option Addr} {l : List α} (hl : l.length ≤ c) (hA : 0 < l.length → A = some (adr A)) :
    ∃ A', sliced A 1 l.length c k = .slice A' (l.drop 1).length (c - 1) ∧ (0 < (l.drop 1).length → A' = some (adr A')) ∧ ∀ w, RdL w k R A l → RdL w k R A' (l.drop 1) := by
  refine ⟨if c = 1 then A else A.map (·.add (1 * k)), by simp [sliced], fun h0 => ?_, fun w h => ?_⟩
  · rw [List.length_drop] at h0
    have hc : ¬ c = 1 := by omega
    rw [if_neg hc, hA (by omega)]; rfl
  · by_cases h1 : (l.drop 1).length = 0
    · rw [List.eq_nil_of_length_eq_zero h1]; exact RdL.nil _ _ _ _
    · rw [List.length_drop] at h1
      have hc : ¬ c = 1 := by omega
      rw [if_neg hc]
      have hA' := hA (by omega)
      refine ⟨fun _ => by rw [hA']; exact ⟨_, rfl⟩, fun i z hz => ?_⟩
      obtain ⟨cs, g1, g2⟩ := h.2 (1 + i) z (by rw [List.getElem?_drop] at hz; exact hz)
      refine ⟨cs, g1, ?_⟩
      rw [hA']
      show At w (((adr A).add (1 * k)).add (i * k)) cs
      rw [add_add, ← Nat.add_mul]; exact g2
theorem rw_sliceTl {α : Type} {f : α → List Value} {n c : Nat} {A : Option Addr} {l : List α} {ch : List Ck} {IK : IntKind} {p : Int} (hd : Nat.blt d C.n = true) (hT : TyM C.P T E kk bytes zs) (e : Elem kk (PlO f) (Pl f)) (hO : OwS E kk (PlO f) (.slice A n c) l ch) (hl : 0 < l.length)
    (hx : ev env x = some (.slice A n c)) (hy : ev env y = some (.int IK p)) (hp : p = 1)
    (h : ∀ A' c', (0 < (l.drop 1).length → A' = some (adr A')) → (∀ w : World, (∀ c ∈ ch, c.In w) → RdL w kk (Pl f) A' (l.drop 1)) → RW C ops rest K ((d, .slice A' (l.drop 1).length c') :: env) B F) :
    RW C ops (⟨some d, .slice T x (some y) none none, ty, pos, af, none⟩ :: rest) K env B F := by
  subst hp
  obtain ⟨hn, _, hA, hrd⟩ := hO.reshape e
  have hlc : l.length ≤ c := by
    rcases hO.open with ⟨_, _, h1, _⟩ | ⟨_, _, _, _, _, _, h1, _, _⟩
    · rw [h1] at hl; simp at hl
    · exact h1
  obtain ⟨A', g1, g2, g3⟩ := rd_tail (k := kk) (R := Pl f) hlc (fun h0 => hA (by omega))
  have hstep := h A' (c - 1) g2 fun w hw => g3 w (hrd w hw)
  rw [← g1] at hstep
  subst hn
  refine rw_step hd (fun ρ hρ E' w hs => ⟨w, ?_, hs⟩) hstep
  have h1 := run_slice_l (P := C.P) (w := w) T A l.length c (und_elem hT.und) IK (1 : Int) (by omega) (by omega)
  obtain ⟨ti, z, hi', hz, hsz, hby, hzs⟩ := hT.spec
  have h2 : (sizeOf (C.P.elem T)).run C.P w = .ok kk w := by rw [elem_of hT.und]; exact run_sizeOf_of (by simp [hi', hsz]) w
  have h3 : (Instr.sliceAt T (.slice A l.length c) (some (.int IK 1)) none none).run C.P w = .ok (sliced A 1 l.length c kk) w := by
    rw [run_sliceAt_slice w T _ _ _ _ (und_elem hT.und), h1, h2]; simp [Result.andThen]
  simp [execOp, hρ x _ hx, hρ y _ hy, h3]
/-- A store of a whole element of an owned slice. -/
theorem rw_storeOwE {α : Type} {f : α → List Value} {n c : Nat} {A : Option Addr} {L : List α} {ch F' : List Ck} {i : Nat} {v : Value} {a : α} (vs : List Value) (e : Elem kk (PlO f) (Pl f)) (hT : (C.P.info? T).map (·.size) = some kk) (hO : OwS E kk (PlO f) (.slice A n c) L ch) (hi : i < L.length)
    (hx : ev env x = some (.pointer (some ((adr A).add (i * kk))))) (hy : ev env y = some v) (hvs : v.cells.toList = vs) (hv : vs = f a) (hp : F.Perm (ch ++ F'))
    (h : ∀ ch', OwS E kk (PlO f) (.slice A n c) (L.set i a) ch' → RW C ops rest K env B (ch' ++ F')) :
    RW C ops (⟨none, .store T x y, ty, pos, af, none⟩ :: rest) K env B F := by
  obtain ⟨z, hz⟩ := get_of_lt hi
  obtain ⟨g, pre, rs, c1, mm, c2, h1, cy, h2, rfl, hn, hO1, ⟨rfl, rfl⟩, hO2, rfl, g1, g2, g3⟩ := hO.openAt hz
  have hk : ∀ b, (f b).length = kk := fun b => e.len (ch := []) ⟨rfl, rfl⟩
  have hl1 : c1.length = i * kk := by rw [hO1.length e, List.length_take]; congr 1; omega
  have hx' : ev env x = some (.pointer (some ⟨g, pre.length + c1.length, none⟩)) := by rw [hx]; simp [adr, addr_add, hl1]
  refine rw_perm (B' := ⟨g, E, pre ++ ((c1 ++ (f z ++ c2)) ++ rs)⟩ :: B) (F' := (h1 ++ ([] ++ h2)) ++ F') ((List.Perm.append_left B hp).trans take_blk) ?_
  refine rw_storeX (i := 0) (f a) (pre ++ ((c1 ++ (f a ++ c2)) ++ rs)) hT hx' hy rfl (by rw [hvs, hv]) (hk a) (by simp only [List.length_append, hk]; omega) (fun u hu => e.one (ch := []) ⟨rfl, rfl⟩ u hu) (splice_el (mm := f z) (vs := f a) rfl (by rw [hk, hk])) ?_
  refine rw_perm (B' := B) (F' := (⟨g, E, pre ++ ((c1 ++ (f a ++ c2)) ++ rs)⟩ :: (h1 ++ ([] ++ h2))) ++ F') take_blk.symm ?_
  refine h _ ?_
  rw [hn, set_split hz]
  refine OwS.closeG (hO1.append (.cons ⟨rfl, rfl⟩ hO2)) ?_ g1 g2 ?_
  · rw [← set_split hz, List.length_set]
  · rw [← g3]; simp only [List.length_append, hk]
end
end SL
open SL Go.RowKit
theorem take_ok {b : Buffer} {m : Int} (h : (min (readyBytes b) (max m 0) == 0) = false) :
    ∃ c k, b.chunks[0]? = some c ∧ min (readyBytes b) (max m 0) = ((k : Nat) : Int) ∧ 0 < k ∧ k ≤ c.data.data.toList.length ∧ c.offset = b.next ∧ 0 ≤ b.next := by
  have h := beq_eq_false_iff_ne.1 h
  unfold readyBytes at h ⊢
  cases hb : isBuffer b with
  | false => rw [hb] at h; simp only [cond_false] at h; omega
  | true =>
    rw [hb] at h
    simp only [cond_true] at h ⊢
    have hn : 0 ≤ b.next := by simp only [isBuffer, isQuic, within, Bool.and_eq_true, decide_eq_true_eq] at hb; exact hb.1.1
    cases hc : b.chunks[0]? with
    | none => rw [hc] at h; simp only at h; omega
    | some c =>
      rw [hc] at h
      simp only at h ⊢
      cases ho : c.offset == b.next with
      | false => rw [ho] at h; simp only [cond_false] at h; omega
      | true =>
        rw [ho] at h
        simp only [cond_true] at h ⊢
        have hs : c.data.size = c.data.data.toList.length := rfl
        exact ⟨c, (min (c.data.size : Int) (max m 0)).toNat, rfl, by omega, by omega, by omega, by simpa using ho, hn⟩
theorem FineC.drop {l : List Chunk} (h : FineC l) : FineC (l.drop 1) := ⟨by have := h.n; rw [List.length_drop]; omega, fun c hc => h.s c (List.mem_of_mem_drop hc)⟩
theorem FineC.take {b : Buffer} {c : Chunk} {k : Nat} (h : FineC b.chunks) (hc : b.chunks[0]? = some c) (hk : k ≤ c.data.data.toList.length) (ho : c.offset = b.next) (h0 : 0 ≤ b.next) : FineC (b.chunks.set 0 ⟨w64 (b.next + (k : Int)), mkS (c.data.data.toList.drop k)⟩) := by
  have hs : c.data.size = c.data.data.toList.length := rfl
  have h1 := h.s c (List.mem_of_getElem? hc)
  refine ⟨by rw [List.length_set]; exact h.n, fun y hy => ?_⟩
  rcases List.mem_or_eq_of_mem_set hy with hy | rfl
  · exact h.s y hy
  · have h6 : (mkS (c.data.data.toList.drop k)).size = c.data.data.toList.length - k := by
      rw [← List.length_drop]; rfl
    simp only [h6]
    rw [w64_id (by omega) (by omega)]
    omega
/-- A stream as it is drawn. -/
structure FineR (r : Receiver) : Prop where
  c : FineC r.buffer.chunks
  h : r.highest ≤ 100
def FineSt (s : Stream) : Prop := FineS 70 s.send ∧ FineR s.recv
theorem FineSt.le {s : Stream} (h : FineSt s) : s.le 1048576 := by
  obtain ⟨h1, h2, h3, h4⟩ := h.1.le (by omega)
  obtain ⟨h5, h6⟩ := FineC.leR h.2.c
  exact ⟨h1, h2, h3, h4, h5, h6⟩
end Go.Proofs.Ytbhnekiclbfmgaa
