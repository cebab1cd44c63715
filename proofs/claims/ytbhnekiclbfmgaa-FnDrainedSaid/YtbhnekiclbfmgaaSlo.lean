/- The operations of the small logic: one lemma for each kind of operation. -/
import Derived.Test.YtbhnekiclbfmgaaSl
namespace Go.Proofs.Ytbhnekiclbfmgaa
namespace SL
open Go.RowKit

/-! ### type facts -/
def isS : Option TypeDesc → Bool
  | some (.struct _) | some (.array ..) => true
  | _ => false
def isP : Option TypeDesc → Bool
  | some (.struct _) | some (.array ..) | none => false
  | _ => true
def fieldOff (P : Program) (T f : Nat) : Option Nat :=
  match P.underlying T with
  | some (.struct fs) => match fs[f]? with
    | some fd => match P.info? fd.type with
      | some i => if i.size = 0 then none else some fd.offset
      | none => none
    | none => none
  | _ => none
structure TyS (P : Program) (T n : Nat) : Prop where
  und : isS (P.underlying T) = true
  sz : (P.info? T).map (·.size) = some n
structure TyP (P : Program) (T : Nat) : Prop where
  und : isP (P.underlying T) = true
  sz : (P.info? T).map (·.size) = some 1
structure TyZ (P : Program) (T : Nat) (zs : List Value) : Prop where
  z : ((P.info? T).bind (·.zero)).map (·.cells.toList) = some zs
structure TyF (P : Program) (T f off : Nat) : Prop where
  und : fieldOff P T f = some off
structure TyE (P : Program) (T E k : Nat) : Prop where
  und : P.underlying T = some (.slice E)
  sz : (P.info? E).map (·.size) = some k
theorem TyF.spec {P : Program} {T f off : Nat} (h : TyF P T f off) : ∃ fs fd i, P.underlying T = some (.struct fs) ∧ fs[f]? = some fd ∧ fd.offset = off ∧ P.info? fd.type = some i ∧ i.size ≠ 0 := by
  have h1 := h.und
  unfold fieldOff at h1
  split at h1
  · rename_i fs hu
    split at h1
    · rename_i fd hf
      split at h1
      · rename_i i hi
        split at h1
        · cases h1
        · rename_i hz
          injection h1 with h1
          exact ⟨fs, fd, i, hu, hf, h1, hi, hz⟩
      · cases h1
    · cases h1
  · cases h1

theorem run_isAgg_s {P : Program} {T n : Nat} (h : TyS P T n) (w : World) : (isAgg T).run P w = .ok true w := by
  have h1 := h.und
  cases hu : P.underlying T with
  | none => rw [hu] at h1; cases h1
  | some d => rw [hu] at h1; cases d <;> simp [isS] at h1 <;> simp [isAgg, run_underlying hu]
theorem run_isAgg_p {P : Program} {T : Nat} (h : TyP P T) (w : World) : (isAgg T).run P w = .ok false w := by
  have h1 := h.und
  cases hu : P.underlying T with
  | none => rw [hu] at h1; cases h1
  | some d => rw [hu] at h1; cases d <;> simp [isP] at h1 <;> simp [isAgg, run_underlying hu]
theorem run_sizeOf_of {P : Program} {T n : Nat} (h : (P.info? T).map (·.size) = some n) (w : World) : (sizeOf T).run P w = .ok n w := by
  cases hi : P.info? T with
  | none => simp [hi] at h
  | some i => simp [hi] at h; simp [sizeOf, typeInfo, hi, h]
theorem run_zero_of {P : Program} {T : Nat} {zs : List Value} (h : TyZ P T zs) (w : World) : ∃ v, (zeroValue T).run P w = .ok v w ∧ v.cells.toList = zs := by
  have h1 := h.z
  cases hi : P.info? T with
  | none => simp [hi] at h1
  | some i =>
    cases hv : i.zero with
    | none => simp [hi, hv] at h1
    | some v =>
      simp [hi, hv] at h1
      exact ⟨v, by simp [zeroValue, typeInfo, hi, hv], h1⟩

theorem addr_add (b off n : Nat) : (⟨b, off, none⟩ : Addr).add n = ⟨b, off + n, none⟩ := by
  unfold Addr.add; split <;> simp_all

/-- Read n cells out of a block. -/
def cut (cs : List Value) (off n : Nat) : List Value := (cs.drop off).take n
/-- Write cells into a block. -/
def splice (cs : List Value) (off : Nat) (vs : List Value) : List Value := cs.take off ++ vs ++ cs.drop (off + vs.length)
theorem cut_length {cs : List Value} {off n : Nat} (h : off + n ≤ cs.length) : (cut cs off n).length = n := by simp [cut]; omega
theorem splice_length {cs : List Value} {off : Nat} {vs : List Value} (h : off + vs.length ≤ cs.length) : (splice cs off vs).length = cs.length := by simp [splice]; omega

theorem Ck.In.cell {c : Ck} {w : World} (h : c.In w) (j : Nat) : w.cell? ⟨c.b, j, none⟩ = c.cs[j]? := by
  rw [cell_of_row w c.b j _ _ _ h]; simp
theorem Ck.In.frozen {c : Ck} {w : World} (h : c.In w) (j : Nat) : w.frozen? ⟨c.b, j, none⟩ = false := by
  unfold Ck.In at h; simp [World.frozen?, h]

theorem run_loadCells_ck {P : Program} {c : Ck} {w : World} (h : c.In w) {off n : Nat} (hl : off + n ≤ c.cs.length) :
    (loadCells ⟨c.b, off, none⟩ n).run P w = .ok (cut c.cs off n).toArray w := by
  have := run_loadCells_list (P := P) w ⟨c.b, off, none⟩ (cut c.cs off n) (fun j v hv => by
    rw [addr_add, h.cell]
    unfold cut at hv
    rw [List.getElem?_take] at hv
    split at hv
    · simpa using hv
    · cases hv)
  rwa [cut_length hl] at this

theorem run_load_s {P : Program} {T n : Nat} (hT : TyS P T n) {c : Ck} {w : World} (h : c.In w) {off : Nat} (hl : off + n ≤ c.cs.length) :
    (loadVar T ⟨c.b, off, none⟩).run P w = .ok (.agg (cut c.cs off n).toArray) w := by
  simp [loadVar, run_isAgg_s hT, run_sizeOf_of hT.sz, run_loadCells_ck (P := P) h hl]
theorem run_load_p {P : Program} {T : Nat} (hT : TyP P T) {c : Ck} {w : World} (h : c.In w) {off : Nat} {v : Value} (hv : c.cs[off]? = some v) :
    (loadVar T ⟨c.b, off, none⟩).run P w = .ok v w := by
  simp [loadVar, run_isAgg_p hT, h.cell, hv]

theorem Sat.setRow {w0 w : World} {X : List Nat} {c : Ck} {F : List Ck} (h : Sat w0 X w (c :: F)) (cs : List Value) :
    Sat w0 X (w.setRow c.b cs.toArray) (⟨c.b, c.T, cs⟩ :: F) := by
  have hnd := h.nd
  simp only [List.map_cons, List.nodup_cons] at hnd
  refine ⟨h.os, h.tape, h.output, by simpa using h.size, fun b hb hn => ?_, by simpa using h.nd, ?_, ?_⟩
  · rw [setRow_other _ _ _ _ (fun e => ?_)]
    · exact h.keep b hb hn
    · subst e
      rcases h.own c (by simp) with h1 | h1
      · exact hn h1
      · omega
  · intro d hd
    rcases List.mem_cons.1 hd with rfl | hd
    · exact h.own c (by simp)
    · exact h.own d (by simp [hd])
  · intro d hd
    rcases List.mem_cons.1 hd with rfl | hd
    · exact setRow_heap w c.b _ _ _ _ (h.at_ c (by simp))
    · have h1 := h.at_ d (by simp [hd])
      show (w.setRow _ _).heap[d.b]? = _
      rw [setRow_other _ _ _ _ (fun e => hnd.1 (List.mem_map.2 ⟨d, hd, e⟩))]
      exact h1

theorem perm_eraseIdx {c : Ck} : ∀ {B : List Ck} {i : Nat}, B[i]? = some c → B.Perm (c :: B.eraseIdx i)
  | [], i, h => by simp at h
  | x :: B, 0, h => by simp at h; subst h; simp
  | x :: B, i + 1, h => by
    simp only [List.getElem?_cons_succ] at h
    exact ((perm_eraseIdx h).cons x).trans (List.Perm.swap c x _)
theorem perm_get {B F : List Ck} {i : Nat} {c : Ck} (hB : B[i]? = some c) : (B ++ F).Perm (c :: (B.eraseIdx i ++ F)) :=
  (perm_eraseIdx hB).append_right F
theorem perm_set {B F : List Ck} {i : Nat} {c d : Ck} (hB : B[i]? = some c) : (d :: (B.eraseIdx i ++ F)).Perm (B.set i d ++ F) := by
  obtain ⟨hi, hc⟩ := List.getElem?_eq_some_iff.1 hB
  have h1 : (B.set i d)[i]? = some d := by simp [hi]
  have h2 := perm_get (F := F) h1
  rw [List.eraseIdx_set_eq] at h2
  exact h2.symm

/-- A store into a block that is owned. -/
theorem run_storeCells_ck {P : Program} {c : Ck} {w : World} (h : c.In w) {off : Nat} {vs : List Value} (hl : off + vs.length ≤ c.cs.length) (h1 : vs.all (·.oneCell') = true) :
    (storeCells ⟨c.b, off, none⟩ vs).run P w = .ok () (w.setRow c.b (splice c.cs off vs).toArray) := by
  have := run_storeCells_at (P := P) c.b off c.T vs 0 c.cs.toArray w h (by simpa using hl) (fun v hv => List.all_eq_true.1 h1 v hv)
  simpa [splice] using this

section
variable {C : Cx} {k : List Item} {env : Env} {B F : List Ck} {ops : Array Oper} {rest : List Oper}
variable {K : Env → List Ck → Act → World → Prop} {d : Nat} {ty : TypeId} {pos : String} {af : Array Edge} {x y z : Operand}

theorem rw_move {v : Value} (hd : Nat.blt d C.n = true) (hx : ev env x = some v) (h : RW C ops rest K ((d, v) :: env) B F) :
    RW C ops (⟨some d, .move x, ty, pos, af, none⟩ :: rest) K env B F :=
  rw_step hd (fun ρ hρ E w hs => ⟨w, by simp [execOp, hρ x v hx], hs⟩) h
theorem rw_assign {v : Value} (hd : Nat.blt d C.n = true) (hx : ev env x = some v) (h : RW C ops rest K ((d, v) :: env) B F) :
    RW C ops (⟨some d, .assign x, ty, pos, af, none⟩ :: rest) K env B F :=
  rw_step hd (fun ρ hρ E w hs => ⟨w, by simp [execOp, hρ x v hx], hs⟩) h
theorem rw_pickT {v : Value} (hd : Nat.blt d C.n = true) (hx : ev env x = some (.bool true)) (hy : ev env y = some v) (h : RW C ops rest K ((d, v) :: env) B F) :
    RW C ops (⟨some d, .pick x y z, ty, pos, af, none⟩ :: rest) K env B F :=
  rw_step hd (fun ρ hρ E w hs => ⟨w, by simp [execOp, hρ x _ hx, hρ y _ hy, asBool], hs⟩) h
theorem rw_pickF {v : Value} (hd : Nat.blt d C.n = true) (hx : ev env x = some (.bool false)) (hz : ev env z = some v) (h : RW C ops rest K ((d, v) :: env) B F) :
    RW C ops (⟨some d, .pick x y z, ty, pos, af, none⟩ :: rest) K env B F :=
  rw_step hd (fun ρ hρ E w hs => ⟨w, by simp [execOp, hρ x _ hx, hρ z _ hz, asBool], hs⟩) h
theorem rw_extract {vs : Array Value} {v : Value} {i : Nat} (hd : Nat.blt d C.n = true) (hx : ev env x = some (.tuple vs)) (hv : vs[i]? = some v) (h : RW C ops rest K ((d, v) :: env) B F) :
    RW C ops (⟨some d, .extract x i, ty, pos, af, none⟩ :: rest) K env B F :=
  rw_step hd (fun ρ hρ E w hs => ⟨w, by simp [execOp, hρ x _ hx, Instr.extract, hv], hs⟩) h
theorem rw_nilCheck {a : Addr} (hd : Nat.blt d C.n = true) (hx : ev env x = some (.pointer (some a))) (h : RW C ops rest K ((d, .pointer (some a)) :: env) B F) :
    RW C ops (⟨some d, .nilCheck x, ty, pos, af, none⟩ :: rest) K env B F :=
  rw_step hd (fun ρ hρ E w hs => ⟨w, by simp [execOp, hρ x _ hx], hs⟩) h

/-- A new variable, zero. -/
theorem rw_alloc {T : Nat} {zs : List Value} (hd : Nat.blt d C.n = true) (hT : TyZ C.P T zs)
    (h : ∀ b, RW C ops rest K ((d, .pointer (some ⟨b, 0, none⟩)) :: env) (⟨b, T, zs⟩ :: B) F) :
    RW C ops (⟨some d, .alloc T, ty, pos, af, none⟩ :: rest) K env B F := by
  refine rw_stepE (fun v B' F' => ∃ b, v = .pointer (some ⟨b, 0, none⟩) ∧ B' = ⟨b, T, zs⟩ :: B ∧ F' = F) hd (fun ρ hρ E w hs => ?_) (fun v B' F' ⟨b, hv, hB, hF⟩ => by subst hv hB hF; exact h b)
  obtain ⟨v, hz, hzs⟩ := run_zero_of hT w
  refine ⟨_, _, _, w.alloc (.cells zs.toArray T), ?_, hs.alloc T zs, w.heap.size, rfl, rfl, rfl⟩
  subst hzs
  simp [execOp, Instr.alloc, hz, newVar, newRow]
/-- A new variable that holds a value. -/
theorem rw_box {T : Nat} {v : Value} (cs : List Value) (hd : Nat.blt d C.n = true) (hx : ev env x = some v) (hcs : v.cells.toList = cs)
    (h : ∀ b, RW C ops rest K ((d, .pointer (some ⟨b, 0, none⟩)) :: env) (⟨b, T, cs⟩ :: B) F) :
    RW C ops (⟨some d, .box T x, ty, pos, af, none⟩ :: rest) K env B F := by
  subst hcs
  refine rw_stepE (fun v' B' F' => ∃ b, v' = .pointer (some ⟨b, 0, none⟩) ∧ B' = ⟨b, T, v.cells.toList⟩ :: B ∧ F' = F) hd (fun ρ hρ E w hs => ?_) (fun v B' F' ⟨b, hv, hB, hF⟩ => by subst hv hB hF; exact h b)
  refine ⟨_, _, _, w.alloc (.cells v.cells.toList.toArray T), ?_, hs.alloc T v.cells.toList, w.heap.size, rfl, rfl, rfl⟩
  simp [execOp, hρ x _ hx, Instr.box, newVar, newRow]

theorem rw_load_s {T n off i : Nat} {b T' : Nat} {cs : List Value} (vs : List Value) (hd : Nat.blt d C.n = true) (hT : TyS C.P T n) (hx : ev env x = some (.pointer (some ⟨b, off, none⟩)))
    (hB : B[i]? = some ⟨b, T', cs⟩) (hl : Nat.ble (off + n) cs.length = true) (hvs : cut cs off n = vs) (h : RW C ops rest K ((d, .agg vs.toArray) :: env) B F) :
    RW C ops (⟨some d, .load T x, ty, pos, af, none⟩ :: rest) K env B F := by
  subst hvs
  refine rw_step hd (fun ρ hρ E w hs => ⟨w, ?_, hs⟩) h
  have hc := hs.at_ _ (List.mem_append_left (F ++ E) (List.mem_of_getElem? hB))
  have := run_load_s (P := C.P) hT hc (by simpa using hl)
  simp [execOp, hρ x _ hx, Instr.loadAt, Instr.sureAddr, this]
theorem rw_load {T off i : Nat} {b T' : Nat} {cs : List Value} {v : Value} (hd : Nat.blt d C.n = true) (hT : TyP C.P T) (hx : ev env x = some (.pointer (some ⟨b, off, none⟩)))
    (hB : B[i]? = some ⟨b, T', cs⟩) (hv : cs[off]? = some v) (h : RW C ops rest K ((d, v) :: env) B F) :
    RW C ops (⟨some d, .load T x, ty, pos, af, none⟩ :: rest) K env B F := by
  refine rw_step hd (fun ρ hρ E w hs => ⟨w, ?_, hs⟩) h
  have hc := hs.at_ _ (List.mem_append_left (F ++ E) (List.mem_of_getElem? hB))
  have := run_load_p (P := C.P) hT hc hv
  simp [execOp, hρ x _ hx, Instr.loadAt, Instr.sureAddr, this]
theorem rw_store {T off i n : Nat} {b T' : Nat} {cs : List Value} {v : Value} (vs cs' : List Value) (hT : (C.P.info? T).map (·.size) = some n) (hx : ev env x = some (.pointer (some ⟨b, off, none⟩))) (hy : ev env y = some v)
    (hB : B[i]? = some ⟨b, T', cs⟩) (hvs : v.cells.toList = vs) (hn : Nat.beq vs.length n = true) (hl : Nat.ble (off + n) cs.length = true) (h1 : vs.all (·.oneCell') = true) (hcs : splice cs off vs = cs')
    (h : RW C ops rest K env (B.set i ⟨b, T', cs'⟩) F) :
    RW C ops (⟨none, .store T x y, ty, pos, af, none⟩ :: rest) K env B F := by
  subst hvs hcs
  have hn := Nat.eq_of_beq_eq_true hn
  refine rw_step0 (fun ρ hρ E w hs => ⟨w.setRow b (splice cs off v.cells.toList).toArray, ?_, ?_⟩) h
  · have hc := hs.at_ _ (List.mem_append_left (F ++ E) (List.mem_of_getElem? hB))
    have := run_storeCells_ck (P := C.P) hc (off := off) (vs := v.cells.toList) (by rw [hn]; simpa using hl) h1
    have hz := run_sizeOf_of (P := C.P) hT w
    have hn' : v.cells.size = n := by simpa using hn
    simp [execOp, hρ x _ hx, hρ y _ hy, Instr.storeAt, Instr.sureAddr, storeVar, hz, hn', this]
  · exact ((hs.perm (perm_get hB)).setRow _).perm (perm_set hB)

theorem rw_fieldAddr {T f o off b : Nat} (hd : Nat.blt d C.n = true) (hT : TyF C.P T f o) (hx : ev env x = some (.pointer (some ⟨b, off, none⟩)))
    (h : RW C ops rest K ((d, .pointer (some ⟨b, off + o, none⟩)) :: env) B F) :
    RW C ops (⟨some d, .fieldAddr T x f, ty, pos, af, none⟩ :: rest) K env B F := by
  refine rw_step hd (fun ρ hρ E w hs => ⟨w, ?_, hs⟩) h
  obtain ⟨fs, fd, i, hu, hf, ho, hi, hz⟩ := hT.spec
  simp [execOp, hρ x _ hx, Instr.fieldAt, run_underlying hu, hf, Instr.sureAddr, fieldPlace, sizeOf, typeInfo, hi, hz, addr_add, ho]
theorem rw_fieldAddrX {T f o : Nat} {q : Addr} (hd : Nat.blt d C.n = true) (hT : TyF C.P T f o) (hx : ev env x = some (.pointer (some q)))
    (h : RW C ops rest K ((d, .pointer (some (q.add o))) :: env) B F) :
    RW C ops (⟨some d, .fieldAddr T x f, ty, pos, af, none⟩ :: rest) K env B F := by
  refine rw_step hd (fun ρ hρ E w hs => ⟨w, ?_, hs⟩) h
  obtain ⟨fs, fd, i, hu, hf, ho, hi, hz⟩ := hT.spec
  simp [execOp, hρ x _ hx, Instr.fieldAt, run_underlying hu, hf, Instr.sureAddr, fieldPlace, sizeOf, typeInfo, hi, hz, ho]

/-- All operands have values. -/
def evs (env : Env) : List Operand → Option (List Value)
  | [] => some []
  | x :: xs => match ev env x, evs env xs with | some v, some vs => some (v :: vs) | _, _ => none
theorem evs_map {env : Env} {ρ : Operand → Value} (hρ : ∀ x u, ev env x = some u → ρ x = u) : ∀ {xs : List Operand} {vs : List Value}, evs env xs = some vs → xs.map ρ = vs
  | [], vs, h => by simp [evs] at h; simp [← h]
  | x :: xs, vs, h => by
    unfold evs at h
    cases hx : ev env x with
    | none => simp [hx] at h
    | some v =>
      cases hxs : evs env xs with
      | none => simp [hx, hxs] at h
      | some us =>
        simp [hx, hxs] at h
        subst h
        simp [hρ x v hx, evs_map hρ hxs]

/-! ### literals -/
theorem foldl_set (off : Nat) : ∀ (vs : List Value) (k : Nat) (cells : Array Value), off + k + vs.length ≤ cells.size →
    ((vs.zipIdx k).foldl (fun cs (p : Value × Nat) => cs.setIfInBounds (off + p.2) p.1) cells).toList = splice cells.toList (off + k) vs
  | [], k, cells, h => by simp [splice]
  | v :: vs, k, cells, h => by
    simp only [List.zipIdx_cons, List.foldl_cons]
    simp only [List.length_cons] at h
    rw [foldl_set off vs (k + 1) _ (by simp; omega)]
    apply List.ext_getElem?
    intro i
    simp only [splice, Array.toList_setIfInBounds, List.length_cons]
    have hl : off + k < cells.toList.length := by simp; omega
    simp only [List.getElem?_append, List.length_take, List.length_append, List.length_set, List.length_cons, List.getElem?_take, List.getElem?_drop, List.getElem?_set]
    by_cases h1 : i < off + k
    · have : i < off + (k + 1) := by omega
      simp [h1, this, show min (off + k) cells.size = off + k by simp at hl; omega, show min (off + (k + 1)) cells.size = off + (k + 1) by omega, show ¬ off + k = i by omega, show i < off + (k + 1) + vs.length by omega, show i < off + k + (vs.length + 1) by omega]
    · by_cases h2 : i = off + k
      · subst h2
        simp at hl
        simp [show min (off + k) cells.size = off + k by omega, show min (off + (k + 1)) cells.size = off + (k + 1) by omega, show off + k < off + (k + 1) + vs.length by omega, show off + k < off + (k + 1) by omega, hl]
      · by_cases h3 : i < off + k + (vs.length + 1)
        · simp [show min (off + k) cells.size = off + k by simp at hl; omega, show min (off + (k + 1)) cells.size = off + (k + 1) by omega, h1, h3, show ¬ i < off + (k + 1) by omega, show i < off + (k + 1) + vs.length by omega]
          rw [show i - (off + k) = (i - (off + (k + 1))) + 1 by omega]
          simp
        · simp [show min (off + k) cells.size = off + k by simp at hl; omega, show min (off + (k + 1)) cells.size = off + (k + 1) by omega, h3, show ¬ i < off + (k + 1) + vs.length by omega, show ¬ off + k = off + (k + 1) + vs.length + (i - (off + (k + 1) + vs.length)) by omega]
          congr 1
          omega

def fillL (place : Nat → Option (Nat × Nat)) (cells : List Value) : List (Nat × Value) → Option (List Value)
  | [] => some cells
  | (i, v) :: rest => match place i with
    | none => none
    | some (off, size) => bif Nat.beq v.cells.toList.length size && Nat.ble (off + v.cells.toList.length) cells.length then fillL place (splice cells off v.cells.toList) rest else none
theorem fill_of (place : Nat → Option (Nat × Nat)) : ∀ (ps : List (Nat × Value)) (cells : Array Value) (out : List Value), fillL place cells.toList ps = some out → Instr.fill place cells ps = some out.toArray
  | [], cells, out, h => by simp [fillL] at h; subst h; simp [Instr.fill]
  | (i, v) :: ps, cells, out, h => by
    unfold fillL at h
    cases hp : place i with
    | none => simp [hp] at h
    | some q =>
      obtain ⟨off, size⟩ := q
      simp only [hp] at h
      cases hb : (Nat.beq v.cells.toList.length size && Nat.ble (off + v.cells.toList.length) cells.toList.length) with
      | false => rw [hb] at h; cases h
      | true =>
        rw [hb] at h
        simp only [Bool.and_eq_true] at hb
        have h1 : v.cells.size = size := by simpa using Nat.eq_of_beq_eq_true hb.1
        have h2 : off + v.cells.size ≤ cells.size := by simpa using hb.2
        unfold Instr.fill
        simp only [hp]
        rw [if_neg (by rw [h1] at h2 ⊢; simp; omega)]
        refine fill_of place ps _ out ?_
        have h3 := foldl_set off v.cells.toList 0 cells (by simpa using h2)
        have h4 : (v.cells.zipIdx.foldl (fun cs (p : Value × Nat) => cs.setIfInBounds (off + p.2) p.1) cells).toList = splice cells.toList off v.cells.toList := by
          refine Eq.trans ?_ h3
          rw [← Array.foldl_toList, Array.toList_zipIdx]
        exact (congrArg (fun l => fillL place l ps) h4).trans h
def placesOf (P : Program) (T : Nat) : Option (List (Nat × Nat)) :=
  match P.underlying T with
  | some (.struct fs) => fs.toList.mapM fun f => (P.info? f.type).map fun i => (f.offset, i.size)
  | _ => none
structure TyB (P : Program) (T : Nat) (ps : List (Nat × Nat)) : Prop where
  pl : placesOf P T = some ps
theorem run_places {P : Program} : ∀ (fs : List Field) (ps : List (Nat × Nat)) (w : World), (fs.mapM fun f => (P.info? f.type).map fun i => (f.offset, i.size)) = some ps →
    (fs.mapM fun f => do pure (f.offset, ← sizeOf f.type) : Sem (List (Nat × Nat))).run P w = .ok ps w
  | [], ps, w, h => by simp at h; subst h; rfl
  | f :: fs, ps, w, h => by
    simp only [List.mapM_cons] at h ⊢
    cases hi : P.info? f.type with
    | none => simp [hi] at h
    | some i =>
      cases hr : (fs.mapM fun f => (P.info? f.type).map fun i => (f.offset, i.size)) with
      | none => simp [hi, hr] at h
      | some qs =>
        simp [hi, hr] at h
        have := run_places fs qs w hr
        simp [sizeOf, typeInfo, hi] at this ⊢
        simp [this, h]
/-- A struct written out. -/
theorem rw_build {T : Nat} {ps : List (Nat × Nat)} {zs : List Value} {xs : List (Nat × Operand)} {vs : List Value} (out : List Value) (hd : Nat.blt d C.n = true) (hT : TyB C.P T ps) (hZ : TyZ C.P T zs)
    (hx : evs env (xs.map (·.2)) = some vs) (hf : fillL (ps[·]?) zs ((xs.map (·.1)).zip vs) = some out) (h : RW C ops rest K ((d, .agg out.toArray) :: env) B F) :
    RW C ops (⟨some d, .build T xs.toArray, ty, pos, af, none⟩ :: rest) K env B F := by
  refine rw_step hd (fun ρ hρ E w hs => ⟨w, ?_, hs⟩) h
  have hp := hT.pl
  unfold placesOf at hp
  split at hp
  · rename_i fs hu
    obtain ⟨v, hz, hzs⟩ := run_zero_of hZ w
    have hm : (xs.map fun (i, x) => (i, ρ x)) = (xs.map (·.1)).zip vs := by
      rw [← evs_map hρ hx]
      clear hx hf
      induction xs with
      | nil => simp
      | cons i is ih => simpa using ih
    have hpl : (fs.mapM fun f => do pure (f.offset, ← sizeOf f.type) : Sem (Array (Nat × Nat))).run C.P w = .ok ps.toArray w := by
      have h1 := run_places fs.toList ps w hp
      rw [Array.mapM_eq_mapM_toList, ← bind_pure_comp, Sem.run_bind, h1]
      rfl
    have hfl := fill_of (ps.toArray[·]?) ((xs.map (·.1)).zip vs) v.cells out (by rw [hzs]; simpa using hf)
    have hm' : (xs.toArray.map fun (i, x) => (i, ρ x)).toList = (xs.map (·.1)).zip vs := by simpa using hm
    have hb : (Instr.build T (xs.toArray.map fun (i, x) => (i, ρ x))).run C.P w = .ok (.agg out.toArray) w := by
      unfold Instr.build
      simp only [Sem.run_bind, hz, Result.andThen_ok, run_underlying hu, hpl, hm', hfl, Sem.run_pure]
    simp only [execOp, Sem.run_bind, hb, Result.andThen_ok, Sem.run_pure]
  · cases hp

/-! ### numbers -/
theorem run_equalIn_bool {P : Program} {t : Nat} (hu : P.underlying t = some .bool) (n : Nat) (p q : Bool) (w : World) : (Op.equalIn (n + 1) t (.bool p) (.bool q)).run P w = .ok (p == q) w := by
  simp [Op.equalIn, run_underlying hu]
theorem run_eqlB {P : Program} {t : Nat} (hu : P.underlying t = some .bool) (p q : Bool) (w : World) : (binOp .eql t (.bool p) (.bool q)).run P w = .ok (.bool (p == q)) w := by
  simp only [binOp]
  simp [Op.equal, Op.maxDepth, run_equalIn_bool hu 9999]
theorem run_neqB {P : Program} {t : Nat} (hu : P.underlying t = some .bool) (p q : Bool) (w : World) : (binOp .neq t (.bool p) (.bool q)).run P w = .ok (.bool (p != q)) w := by
  simp only [binOp]
  simp [Op.equal, Op.maxDepth, run_equalIn_bool hu 9999, bne]
section
variable {IK : IntKind} {p q : Int} {yt : TypeId}
theorem rw_bin {op : BinOp} {t : TypeId} {u v r : Value} (hd : Nat.blt d C.n = true) (hx : ev env x = some u) (hy : ev env y = some v)
    (hr : ∀ w, (do eqGuard op t x y u v; binOp op t u v : Sem Value).run C.P w = .ok r w) (h : RW C ops rest K ((d, r) :: env) B F) :
    RW C ops (⟨some d, .binOp op t x y yt, ty, pos, af, none⟩ :: rest) K env B F := by
  refine rw_step hd (fun ρ hρ E w hs => ⟨w, ?_, hs⟩) h
  have := hr w
  simp only [execOp, hρ x _ hx, hρ y _ hy, Sem.run_bind] at this ⊢
  rw [this]; rfl
variable {t : TypeId}
theorem rw_add (hd : Nat.blt d C.n = true) (hx : ev env x = some (.int IK p)) (hy : ev env y = some (.int IK q)) (h : RW C ops rest K ((d, .int IK (IK.wrap (p + q))) :: env) B F) :
    RW C ops (⟨some d, .binOp .add t x y yt, ty, pos, af, none⟩ :: rest) K env B F := rw_bin hd hx hy (fun w => by simp [eqGuard, binOp, Op.intArith]) h
theorem rw_sub (hd : Nat.blt d C.n = true) (hx : ev env x = some (.int IK p)) (hy : ev env y = some (.int IK q)) (h : RW C ops rest K ((d, .int IK (IK.wrap (p - q))) :: env) B F) :
    RW C ops (⟨some d, .binOp .sub t x y yt, ty, pos, af, none⟩ :: rest) K env B F := rw_bin hd hx hy (fun w => by simp [eqGuard, binOp, Op.intArith]) h
theorem rw_mul (hd : Nat.blt d C.n = true) (hx : ev env x = some (.int IK p)) (hy : ev env y = some (.int IK q)) (h : RW C ops rest K ((d, .int IK (IK.wrap (p * q))) :: env) B F) :
    RW C ops (⟨some d, .binOp .mul t x y yt, ty, pos, af, none⟩ :: rest) K env B F := rw_bin hd hx hy (fun w => by simp [eqGuard, binOp, Op.intArith]) h
theorem rw_quo (hd : Nat.blt d C.n = true) (hx : ev env x = some (.int IK p)) (hy : ev env y = some (.int IK q)) (hq : q ≠ 0) (h : RW C ops rest K ((d, .int IK (IK.wrap (p.tdiv q))) :: env) B F) :
    RW C ops (⟨some d, .binOp .quo t x y yt, ty, pos, af, none⟩ :: rest) K env B F := rw_bin hd hx hy (fun w => by simp [eqGuard, binOp, Op.intDiv, hq]) h
theorem rw_rem (hd : Nat.blt d C.n = true) (hx : ev env x = some (.int IK p)) (hy : ev env y = some (.int IK q)) (hq : q ≠ 0) (h : RW C ops rest K ((d, .int IK (p.tmod q)) :: env) B F) :
    RW C ops (⟨some d, .binOp .rem t x y yt, ty, pos, af, none⟩ :: rest) K env B F := rw_bin hd hx hy (fun w => by simp [eqGuard, binOp, Op.intDiv, hq]) h
theorem rw_and (hd : Nat.blt d C.n = true) (hx : ev env x = some (.int IK p)) (hy : ev env y = some (.int IK q)) (h : RW C ops rest K ((d, .int IK (bits .and IK p q)) :: env) B F) :
    RW C ops (⟨some d, .binOp .and t x y yt, ty, pos, af, none⟩ :: rest) K env B F := rw_bin hd hx hy (fun w => by simp [eqGuard, binOp, intBits_and]) h
theorem rw_or (hd : Nat.blt d C.n = true) (hx : ev env x = some (.int IK p)) (hy : ev env y = some (.int IK q)) (h : RW C ops rest K ((d, .int IK (bits .or IK p q)) :: env) B F) :
    RW C ops (⟨some d, .binOp .or t x y yt, ty, pos, af, none⟩ :: rest) K env B F := rw_bin hd hx hy (fun w => by simp [eqGuard, binOp, intBits_or]) h
theorem rw_eql (hd : Nat.blt d C.n = true) (hx : ev env x = some (.int IK p)) (hy : ev env y = some (.int IK q)) (h : RW C ops rest K ((d, .bool (p == q)) :: env) B F) :
    RW C ops (⟨some d, .binOp .eql t x y yt, ty, pos, af, none⟩ :: rest) K env B F := rw_bin hd hx hy (fun w => by simp [eqGuard, binOp, Op.intCmp]) h
theorem rw_neq (hd : Nat.blt d C.n = true) (hx : ev env x = some (.int IK p)) (hy : ev env y = some (.int IK q)) (h : RW C ops rest K ((d, .bool (p != q)) :: env) B F) :
    RW C ops (⟨some d, .binOp .neq t x y yt, ty, pos, af, none⟩ :: rest) K env B F := rw_bin hd hx hy (fun w => by simp [eqGuard, binOp, Op.intCmp]) h
theorem rw_lss (hd : Nat.blt d C.n = true) (hx : ev env x = some (.int IK p)) (hy : ev env y = some (.int IK q)) (h : RW C ops rest K ((d, .bool (decide (p < q))) :: env) B F) :
    RW C ops (⟨some d, .binOp .lss t x y yt, ty, pos, af, none⟩ :: rest) K env B F := rw_bin hd hx hy (fun w => by simp [eqGuard, binOp, Op.intCmp]) h
theorem rw_leq (hd : Nat.blt d C.n = true) (hx : ev env x = some (.int IK p)) (hy : ev env y = some (.int IK q)) (h : RW C ops rest K ((d, .bool (decide (p ≤ q))) :: env) B F) :
    RW C ops (⟨some d, .binOp .leq t x y yt, ty, pos, af, none⟩ :: rest) K env B F := rw_bin hd hx hy (fun w => by simp [eqGuard, binOp, Op.intCmp]) h
theorem rw_gtr (hd : Nat.blt d C.n = true) (hx : ev env x = some (.int IK p)) (hy : ev env y = some (.int IK q)) (h : RW C ops rest K ((d, .bool (decide (q < p))) :: env) B F) :
    RW C ops (⟨some d, .binOp .gtr t x y yt, ty, pos, af, none⟩ :: rest) K env B F := rw_bin hd hx hy (fun w => by simp [eqGuard, binOp, Op.intCmp]) h
theorem rw_geq (hd : Nat.blt d C.n = true) (hx : ev env x = some (.int IK p)) (hy : ev env y = some (.int IK q)) (h : RW C ops rest K ((d, .bool (decide (q ≤ p))) :: env) B F) :
    RW C ops (⟨some d, .binOp .geq t x y yt, ty, pos, af, none⟩ :: rest) K env B F := rw_bin hd hx hy (fun w => by simp [eqGuard, binOp, Op.intCmp]) h
theorem rw_eqlB {p q : Bool} (hu : C.P.underlying t = some .bool) (hd : Nat.blt d C.n = true) (hx : ev env x = some (.bool p)) (hy : ev env y = some (.bool q)) (h : RW C ops rest K ((d, .bool (p == q)) :: env) B F) :
    RW C ops (⟨some d, .binOp .eql t x y yt, ty, pos, af, none⟩ :: rest) K env B F := rw_bin hd hx hy (fun w => by rw [eqGuard_at_bool]; simp [run_eqlB hu]) h
theorem rw_neqB {p q : Bool} (hu : C.P.underlying t = some .bool) (hd : Nat.blt d C.n = true) (hx : ev env x = some (.bool p)) (hy : ev env y = some (.bool q)) (h : RW C ops rest K ((d, .bool (p != q)) :: env) B F) :
    RW C ops (⟨some d, .binOp .neq t x y yt, ty, pos, af, none⟩ :: rest) K env B F := rw_bin hd hx hy (fun w => by rw [eqGuard_at_bool]; simp [run_neqB hu]) h
theorem rw_eqlS {p q : ByteArray} (hd : Nat.blt d C.n = true) (hx : ev env x = some (.string p)) (hy : ev env y = some (.string q)) (h : RW C ops rest K ((d, .bool (p.toList == q.toList)) :: env) B F) :
    RW C ops (⟨some d, .binOp .eql t x y yt, ty, pos, af, none⟩ :: rest) K env B F := rw_bin hd hx hy (fun w => by simp [eqGuard, binOp, Op.stringOp]) h
theorem rw_neqS {p q : ByteArray} (hd : Nat.blt d C.n = true) (hx : ev env x = some (.string p)) (hy : ev env y = some (.string q)) (h : RW C ops rest K ((d, .bool (!(p.toList == q.toList))) :: env) B F) :
    RW C ops (⟨some d, .binOp .neq t x y yt, ty, pos, af, none⟩ :: rest) K env B F := rw_bin hd hx hy (fun w => by simp [eqGuard, binOp, Op.stringOp]) h
end
theorem rw_neqSelf {IK : IntKind} {p : Int} {t yt : TypeId} (hd : Nat.blt d C.n = true) (hx : ev env x = some (.int IK p)) (hy : ev env y = some (.int IK p)) (h : RW C ops rest K ((d, .bool false) :: env) B F) :
    RW C ops (⟨some d, .binOp .neq t x y yt, ty, pos, af, none⟩ :: rest) K env B F := rw_bin hd hx hy (fun w => by simp [eqGuard, binOp, Op.intCmp]) h
theorem rw_neqSelfB {p : Bool} {t yt : TypeId} (hu : C.P.underlying t = some .bool) (hd : Nat.blt d C.n = true) (hx : ev env x = some (.bool p)) (hy : ev env y = some (.bool p)) (h : RW C ops rest K ((d, .bool false) :: env) B F) :
    RW C ops (⟨some d, .binOp .neq t x y yt, ty, pos, af, none⟩ :: rest) K env B F := rw_bin hd hx hy (fun w => by rw [eqGuard_at_bool]; simp [run_neqB hu]) h
theorem rw_neqSelfS {p : ByteArray} {t yt : TypeId} (hd : Nat.blt d C.n = true) (hx : ev env x = some (.string p)) (hy : ev env y = some (.string p)) (h : RW C ops rest K ((d, .bool false) :: env) B F) :
    RW C ops (⟨some d, .binOp .neq t x y yt, ty, pos, af, none⟩ :: rest) K env B F := rw_bin hd hx hy (fun w => by simp [eqGuard, binOp, Op.stringOp]) h
theorem rw_not {b : Bool} {t : TypeId} (hd : Nat.blt d C.n = true) (hx : ev env x = some (.bool b)) (h : RW C ops rest K ((d, .bool (!b)) :: env) B F) :
    RW C ops (⟨some d, .unOp .not t x, ty, pos, af, none⟩ :: rest) K env B F :=
  rw_step hd (fun ρ hρ E w hs => ⟨w, by simp [execOp, hρ x _ hx, Op.unary], hs⟩) h

/-! ### calls -/
/-- A function with a body (and none of the model's own). -/
structure Fun (P : Program) (g : FuncId) : Prop where
  is : (P.funcs[g]?).map (fun fn => fn.name == "runtime.NumGoroutine" || fn.body.isNone) = some false
theorem Fun.ok {P : Program} {g : FuncId} (h : Fun P g) : ∃ fn, P.funcs[g]? = some fn ∧ (fn.name == "runtime.NumGoroutine") = false ∧ fn.body.isNone = false := by
  have h1 := h.is
  cases hf : P.funcs[g]? with
  | none => simp [hf] at h1
  | some fn =>
    rw [hf] at h1
    simp only [Option.map_some, Option.some.injEq, Bool.or_eq_false_iff] at h1
    exact ⟨fn, rfl, h1.1, h1.2⟩

theorem run_call {P : Program} {g : FuncId} (hg : Fun P g) {ρ : Operand → Value} {xs : List Operand} {tys : Array TypeId} {vs cap : List Value} {f : Operand}
    (hx : xs.map ρ = vs) (hf : ρ f = .func (.func g) #[] cap.toArray) (w : World) :
    (execOp ρ ⟨some d, .call ⟨.value f, xs.toArray, tys⟩, ty, pos, af, none⟩).run P w = .ok (.enter g (vs ++ cap).toArray) w := by
  obtain ⟨fn, h1, h2, h3⟩ := hg.ok
  have h4 : ¬ fn.body = none := fun h => by simp [h] at h3
  have h5 : ¬ fn.name = "runtime.NumGoroutine" := by simpa using h2
  simp [execOp, resolve, Deferred.ofValue, hf, invoke, callFunc, h1, h4, h5, hx]
theorem run_call0 {P : Program} {g : FuncId} (hg : Fun P g) {ρ : Operand → Value} {xs : List Operand} {tys : Array TypeId} {vs cap : List Value} {f : Operand}
    (hx : xs.map ρ = vs) (hf : ρ f = .func (.func g) #[] cap.toArray) (w : World) :
    (execOp ρ ⟨none, .call ⟨.value f, xs.toArray, tys⟩, ty, pos, af, none⟩).run P w = .ok (.enter g (vs ++ cap).toArray) w := by
  obtain ⟨fn, h1, h2, h3⟩ := hg.ok
  have h4 : ¬ fn.body = none := fun h => by simp [h] at h3
  have h5 : ¬ fn.name = "runtime.NumGoroutine" := by simpa using h2
  simp [execOp, resolve, Deferred.ofValue, hf, invoke, callFunc, h1, h4, h5, hx]

/-- A call of a function that hands back a known value and leaves what was there. -/
theorem rw_callV {g : FuncId} {xs : List Operand} {tys : Array TypeId} {vs : List Value} {v : Value} (hd : Nat.blt d C.n = true) (hg : Fun C.P g) (hx : evs env xs = some vs)
    (hc : ∀ w, Sat C.w0 C.X w (B ++ F) → Calls C.P g vs.toArray w fun e w' => e = .returned v ∧ Below w.heap.size w w')
    (h : RW C ops rest K ((d, v) :: env) B F) : RW C ops (⟨some d, .call ⟨.value (.func g), xs.toArray, tys⟩, ty, pos, af, none⟩ :: rest) K env B F := by
  refine rw_stepC (g := g) (args := vs.toArray) (fun v' B' F' => v' = v ∧ B' = B ∧ F' = F) hd (fun ρ hρ w => ?_) (fun E w hs => ?_) (fun v' B' F' ⟨h1, h2, h3⟩ => by subst h1 h2 h3; exact h)
  · have := run_call (d := d) (ty := ty) (pos := pos) (af := af) (tys := tys) hg (cap := []) (evs_map hρ hx) (f := .func g) (hρ (.func g) _ rfl) w
    simpa using this
  · refine (hc w hs.noE).mono fun e w' ⟨he, hb⟩ => ⟨v, B, F, he, ?_, rfl, rfl, rfl⟩
    have := Sat.call (G := []) (G' := []) (F := B ++ (F ++ E)) (by simpa using hs) (w' := w') ⟨hb.os, hb.tape, hb.output, hb.size, fun b hb' _ => hb.block b hb', by simp, by simp, by simp⟩
    simpa using this
/-- A call of a function whose result lies (in part) in new memory. -/
theorem rw_callN {g : FuncId} {xs : List Operand} {tys : Array TypeId} {vs : List Value} (post : Value → List Ck → Prop) (hd : Nat.blt d C.n = true) (hg : Fun C.P g) (hx : evs env xs = some vs)
    (hc : ∀ w, Sat C.w0 C.X w (B ++ F) → Calls C.P g vs.toArray w fun e w' => ∃ v ch, e = .returned v ∧ post v ch ∧ Sat w [] w' ch)
    (h : ∀ v ch, post v ch → RW C ops rest K ((d, v) :: env) B (ch ++ F)) : RW C ops (⟨some d, .call ⟨.value (.func g), xs.toArray, tys⟩, ty, pos, af, none⟩ :: rest) K env B F := by
  refine rw_stepC (g := g) (args := vs.toArray) (fun v' B' F' => B' = B ∧ ∃ ch, F' = ch ++ F ∧ post v' ch) hd (fun ρ hρ w => ?_) (fun E w hs => ?_) (fun v' B' F' ⟨h1, ch, h2, h3⟩ => by subst h1 h2; exact h v' ch h3)
  · have := run_call (d := d) (ty := ty) (pos := pos) (af := af) (tys := tys) hg (cap := []) (evs_map hρ hx) (f := .func g) (hρ (.func g) _ rfl) w
    simpa using this
  · refine (hc w hs.noE).mono fun e w' ⟨v, ch, he, hp, hs'⟩ => ⟨v, B, ch ++ F, he, ?_, rfl, ch, rfl, hp⟩
    have := Sat.call (G := []) (G' := ch) (F := B ++ (F ++ E)) (by simpa using hs) (w' := w') (by simpa using hs')
    refine this.perm ?_
    have h1 := (List.perm_append_comm (l₁ := ch) (l₂ := B)).append_right (F ++ E)
    simpa [List.append_assoc] using h1

/-! ### results -/
def rvSem (tm : Array Value) (r : ResultVar) : Sem Value := match r with | .tmp t => pure (tm.getD t undef) | .cell a t => do loadVar t (← asAddr (tm.getD a undef))
theorem results_eq (fn : Func) (tm : Array Value) : results fn tm = (do let vs ← fn.results.mapM (rvSem tm); pure (if h : vs.size = 1 then vs[0] else .tuple vs)) := rfl
/-- One result of a function. -/
def RV (C : Cx) (env : Env) (B : List Ck) (r : ResultVar) (v : Value) : Prop :=
  ∀ (F : List Ck) tm w, Fits C.n env tm → Sat C.w0 C.X w (B ++ F) → (rvSem tm r).run C.P w = .ok v w
theorem rv_tmp {t : Nat} {v : Value} (hv : look env t = some v) : RV C env B (.tmp t) v := by
  intro F tm w hf _
  have := hf.2 t v hv
  simp only [rvSem, Sem.run_pure, this]
theorem rv_s {a T n off i b T' : Nat} {cs : List Value} (vs : List Value) (hT : TyS C.P T n) (hx : look env a = some (.pointer (some ⟨b, off, none⟩))) (hB : B[i]? = some ⟨b, T', cs⟩)
    (hl : Nat.ble (off + n) cs.length = true) (hvs : cut cs off n = vs) : RV C env B (.cell a T) (.agg vs.toArray) := by
  subst hvs
  intro F tm w hf hs
  have h1 := hf.2 a _ hx
  have hc := hs.at_ _ (List.mem_append_left F (List.mem_of_getElem? hB))
  have := run_load_s (P := C.P) hT hc (by simpa using hl)
  simp only [rvSem, h1, asAddr]
  simpa using this
theorem rv_p {a T off i b T' : Nat} {cs : List Value} {v : Value} (hT : TyP C.P T) (hx : look env a = some (.pointer (some ⟨b, off, none⟩))) (hB : B[i]? = some ⟨b, T', cs⟩)
    (hv : cs[off]? = some v) : RV C env B (.cell a T) v := by
  intro F tm w hf hs
  have h1 := hf.2 a _ hx
  have hc := hs.at_ _ (List.mem_append_left F (List.mem_of_getElem? hB))
  have := run_load_p (P := C.P) hT hc hv
  simp only [rvSem, h1, asAddr]
  simpa using this
theorem res0 {fn : Func} (hfn : C.P.funcs[C.f]? = some fn) (hr : fn.results = #[]) : Res C env (B ++ F) (.tuple #[]) := by
  intro fn' hfn' tm w hf hs
  rw [hfn] at hfn'; cases hfn'
  simp [results_eq, hr]
theorem res1 {fn : Func} {r : ResultVar} {v : Value} (hfn : C.P.funcs[C.f]? = some fn) (hr : fn.results = #[r]) (h1 : RV C env B r v) : Res C env (B ++ F) v := by
  intro fn' hfn' tm w hf hs
  rw [hfn] at hfn'; cases hfn'
  have h1 := h1 F tm w hf hs
  simp [results_eq, hr, h1]
theorem res2 {fn : Func} {r1 r2 : ResultVar} {v1 v2 : Value} (hfn : C.P.funcs[C.f]? = some fn) (hr : fn.results = #[r1, r2]) (h1 : RV C env B r1 v1) (h2 : RV C env B r2 v2) :
    Res C env (B ++ F) (.tuple #[v1, v2]) := by
  intro fn' hfn' tm w hf hs
  rw [hfn] at hfn'; cases hfn'
  have h1 := h1 F tm w hf hs
  have h2 := h2 F tm w hf hs
  simp [results_eq, hr, h1, h2]
theorem res3 {fn : Func} {r1 r2 r3 : ResultVar} {v1 v2 v3 : Value} (hfn : C.P.funcs[C.f]? = some fn) (hr : fn.results = #[r1, r2, r3]) (h1 : RV C env B r1 v1) (h2 : RV C env B r2 v2) (h3 : RV C env B r3 v3) :
    Res C env (B ++ F) (.tuple #[v1, v2, v3]) := by
  intro fn' hfn' tm w hf hs
  rw [hfn] at hfn'; cases hfn'
  have h1 := h1 F tm w hf hs
  have h2 := h2 F tm w hf hs
  have h3 := h3 F tm w hf hs
  simp [results_eq, hr, h1, h2, h3]

/-! ### tests -/
theorem rw_case {t : Bool} {j : Nat} (_ : look env j = some (.bool t)) (h1 : t = true → RW C ops rest K env B F) (h2 : t = false → RW C ops rest K env B F) : RW C ops rest K env B F := by
  cases t
  · exact h2 rfl
  · exact h1 rfl
theorem gw_condT {c : Operand} {x y : Code} {t : Bool} (hc : ev env c = some (.bool t)) (ht : t = true) (h : GW C (.code x :: k) env B F) : GW C (.code (.cond c x y) :: k) env B F := by
  subst ht; exact gw_true hc h
theorem gw_condF {c : Operand} {x y : Code} {t : Bool} (hc : ev env c = some (.bool t)) (ht : t = false) (h : GW C (.code y :: k) env B F) : GW C (.code (.cond c x y) :: k) env B F := by
  subst ht; exact gw_false hc h
theorem rw_pT {v : Value} {t : Bool} (hd : Nat.blt d C.n = true) (hx : ev env x = some (.bool t)) (ht : t = true) (hy : ev env y = some v) (h : RW C ops rest K ((d, v) :: env) B F) :
    RW C ops (⟨some d, .pick x y z, ty, pos, af, none⟩ :: rest) K env B F := by
  subst ht; exact rw_pickT hd hx hy h
theorem rw_pF {v : Value} {t : Bool} (hd : Nat.blt d C.n = true) (hx : ev env x = some (.bool t)) (ht : t = false) (hz : ev env z = some v) (h : RW C ops rest K ((d, v) :: env) B F) :
    RW C ops (⟨some d, .pick x y z, ty, pos, af, none⟩ :: rest) K env B F := by
  subst ht; exact rw_pickF hd hx hz h
theorem of_not_T {t : Bool} (h : (!t) = true) : t = false := by cases t <;> simp at h ⊢
theorem of_not_F {t : Bool} (h : (!t) = false) : t = true := by cases t <;> simp at h ⊢
theorem not_T {t : Bool} (h : t = true) : (!t) = false := by rw [h]; rfl
theorem not_F {t : Bool} (h : t = false) : (!t) = true := by rw [h]; rfl

/-! ### contracts -/
/-- The call hands back v and changes nothing that was there. -/
def CV (P : Program) (g : FuncId) (vs : List Value) (w : World) (v : Value) : Prop := Calls P g vs.toArray w fun e w' => e = .returned v ∧ Below w.heap.size w w'
/-- The call hands back something in new blocks. -/
def CN (P : Program) (g : FuncId) (vs : List Value) (w : World) (post : Value → List Ck → Prop) : Prop :=
  Calls P g vs.toArray w fun e w' => ∃ v ch, e = .returned v ∧ post v ch ∧ Sat w [] w' ch
theorem rw_cv {g : FuncId} {xs : List Operand} {tys : Array TypeId} {vs : List Value} {v : Value} (hd : Nat.blt d C.n = true) (hg : Fun C.P g) (hx : evs env xs = some vs)
    (hc : ∀ w, Sat C.w0 C.X w (B ++ F) → CV C.P g vs w v)
    (h : RW C ops rest K ((d, v) :: env) B F) : RW C ops (⟨some d, .call ⟨.value (.func g), xs.toArray, tys⟩, ty, pos, af, none⟩ :: rest) K env B F := rw_callV hd hg hx hc h
theorem rw_cn {g : FuncId} {xs : List Operand} {tys : Array TypeId} {vs : List Value} {post : Value → List Ck → Prop} (hd : Nat.blt d C.n = true) (hg : Fun C.P g) (hx : evs env xs = some vs)
    (hc : ∀ w, Sat C.w0 C.X w (B ++ F) → CN C.P g vs w post)
    (h : ∀ v ch, post v ch → RW C ops rest K ((d, v) :: env) B (ch ++ F)) : RW C ops (⟨some d, .call ⟨.value (.func g), xs.toArray, tys⟩, ty, pos, af, none⟩ :: rest) K env B F := rw_callN post hd hg hx hc h
theorem cv_of {P : Program} {f : FuncId} {fn : Func} {c : Code} {vs : List Value} {w : World} {n : Nat} {v : Value}
    (hf : P.funcs[f]? = some fn) (hb : fn.body = some c) (hn : fn.ntmps = n) (hle : Nat.ble vs.length n = true)
    (h : GW ⟨P, f, n, w, [], fun e w' => e = .returned v ∧ Below w.heap.size w w'⟩ [.code c] (argEnv 0 vs) [] []) : CV P f vs w v :=
  calls_of hf hb hn hle (Sat.init w) h
theorem cn_of {P : Program} {f : FuncId} {fn : Func} {c : Code} {vs : List Value} {w : World} {n : Nat} {post : Value → List Ck → Prop}
    (hf : P.funcs[f]? = some fn) (hb : fn.body = some c) (hn : fn.ntmps = n) (hle : Nat.ble vs.length n = true)
    (h : GW ⟨P, f, n, w, [], fun e w' => ∃ v ch, e = .returned v ∧ post v ch ∧ Sat w [] w' ch⟩ [.code c] (argEnv 0 vs) [] []) : CN P f vs w post :=
  calls_of hf hb hn hle (Sat.init w) h
theorem ret_cv {fn : Func} {w : World} {n : Nat} {f : FuncId} {P : Program} {v u : Value} (hfn : P.funcs[f]? = some fn)
    (hv : Res ⟨P, f, n, w, [], fun e w' => e = .returned v ∧ Below w.heap.size w w'⟩ env (B ++ F) u) (he : u = v) :
    GW ⟨P, f, n, w, [], fun e w' => e = .returned v ∧ Below w.heap.size w w'⟩ (.code .ret :: k) env B F :=
  gw_ret fn hfn hv fun w' hs => ⟨by rw [he], hs.below⟩
theorem ret_cn {fn : Func} {w : World} {n : Nat} {f : FuncId} {P : Program} {u : Value} {post : Value → List Ck → Prop} (ch : List Ck) (hfn : P.funcs[f]? = some fn)
    (hv : Res ⟨P, f, n, w, [], fun e w' => ∃ v ch, e = .returned v ∧ post v ch ∧ Sat w [] w' ch⟩ env (B ++ F) u) (hp : post u ch) (hch : ch.Sublist (B ++ F)) :
    GW ⟨P, f, n, w, [], fun e w' => ∃ v ch, e = .returned v ∧ post v ch ∧ Sat w [] w' ch⟩ (.code .ret :: k) env B F :=
  gw_ret fn hfn hv fun _ hs => ⟨u, ch, rfl, hp, hs.weaken hch⟩
end
end SL
end Go.Proofs.Ytbhnekiclbfmgaa
