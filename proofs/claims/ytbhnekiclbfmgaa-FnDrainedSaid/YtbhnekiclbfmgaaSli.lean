/- A byte out of a constant; a store into a field of an owned slice's element; sorted lists. No program in sight. -/
import Derived.Test.YtbhnekiclbfmgaaDrb
import Derived.Test.YtbhnekiclbfmgaaSlk
namespace Go.Proofs.Ytbhnekiclbfmgaa
namespace SL
open Go.RowKit
section
variable {C : Cx} {env : Env} {B F : List Ck} {ops : Array Oper} {rest : List Oper}
variable {K : Env → List Ck → Act → World → Prop} {d E kk : Nat} {ty T : TypeId} {pos : String} {af : Array Edge} {x y : Operand}
theorem rw_idxC {b : ByteArray} {IK : IntKind} {p : Int} (i m : Nat) (hd : Nat.blt d C.n = true) (hT : C.P.underlying T = some .string) (hx : ev env x = some (.string b)) (hy : ev env y = some (.int IK p)) (hp : p = (i : Int)) (hm : b.size = m) (hi : i < m)
    (h : ∀ u : UInt8, RW C ops rest K ((d, .int .u8 (u.toNat : Int)) :: env) B F) : RW C ops (⟨some d, .index T x y, ty, pos, af, none⟩ :: rest) K env B F := by
  subst hp hm
  refine rw_step hd (fun ρ hρ E w hs => ⟨w, ?_, hs⟩) (h (b[i]'hi))
  have h1 := run_index_string (P := C.P) w T b IK (i : Int) hT
  rw [dif_pos ⟨by omega, by omega⟩] at h1
  have h2 : b[((i : Int)).toNat]'(by omega) = b[i]'hi := rfl
  rw [h2] at h1
  simp [execOp, hρ x _ hx, hρ y _ hy, h1]
theorem splice_in {c1 m c2 a b vs : List Value} {o : Nat} (h : o + vs.length ≤ m.length) : splice (a ++ ((c1 ++ (m ++ c2)) ++ b)) (a.length + (c1.length + o)) vs = a ++ ((c1 ++ (splice m o vs ++ c2)) ++ b) := by
  have := splice_mid (a := a ++ c1) (m := m) (b := c2 ++ b) (vs := vs) (off := o) h
  simpa [List.append_assoc, Nat.add_assoc] using this
theorem OwA.openAt {α : Type} {k E nn c n : Nat} {O : List Value → α → List Ck → Prop} {A : Option Addr} {l : List α} {ch : List Ck} {y : α} (h : OwA E k O (.slice A nn c) l ch) (hy : l[n]? = some y) :
    ∃ g rs c1 mm c2 h1 cy h2, A = some ⟨g, 0, none⟩ ∧ nn = l.length ∧ Ows O (l.take n) c1 h1 ∧ O mm y cy ∧ Ows O (l.drop (n + 1)) c2 h2 ∧ ch = ⟨g, E, [] ++ ((c1 ++ (mm ++ c2)) ++ rs)⟩ :: (h1 ++ (cy ++ h2)) ∧ l.length ≤ c ∧ c ≤ maxLen ∧ ((c1 ++ (mm ++ c2)) ++ rs).length = c * k := by
  rcases h with ⟨_, _, rfl, _⟩ | ⟨g, cap, cells, rs, chs, h1, hO, rfl, g1, g2, g3⟩
  · simp at hy
  · cases h1
    obtain ⟨c1, c2, h1, h2, rfl, rfl, hO1, hO2⟩ := hO.split n
    have hd := drop_cons hy
    rw [hd] at hO2
    obtain ⟨cs, cR, cy, hR, rfl, rfl, h3, h4⟩ := hO2.uncons
    exact ⟨g, rs, c1, cs, cR, h1, cy, hR, rfl, rfl, hO1, h3, h4, rfl, g1, g2, g3⟩
/-- A store into a field of an element of an owned slice. -/
theorem rw_storeOwF {α : Type} {f : α → List Value} {n c o k : Nat} {A : Option Addr} {L : List α} {ch F' : List Ck} {i : Nat} {v : Value} {z a : α} (vs : List Value) (e : Elem kk (PlO f) (Pl f)) (hT : (C.P.info? T).map (·.size) = some k) (hO : OwA E kk (PlO f) (.slice A n c) L ch) (hz : L[i]? = some z)
    (hx : ev env x = some (.pointer (some (((adr A).add (i * kk)).add o)))) (hy : ev env y = some v) (hvs : v.cells.toList = vs) (hk1 : Nat.beq vs.length k = true) (hk2 : o + k ≤ kk) (ho : ∀ u ∈ vs, u.oneCell' = true) (hv : splice (f z) o vs = f a) (hp : F.Perm (ch ++ F'))
    (h : ∀ ch', OwA E kk (PlO f) (.slice A n c) (L.set i a) ch' → RW C ops rest K env B (ch' ++ F')) :
    RW C ops (⟨none, .store T x y, ty, pos, af, none⟩ :: rest) K env B F := by
  have hk1 := Nat.eq_of_beq_eq_true hk1
  obtain ⟨g, rs, c1, mm, c2, h1, cy, h2, rfl, hn, hO1, ⟨rfl, rfl⟩, hO2, rfl, g1, g2, g3⟩ := hO.openAt hz
  have hk : ∀ b, (f b).length = kk := fun b => e.len (ch := []) ⟨rfl, rfl⟩
  have hl1 : c1.length = i * kk := by rw [hO1.length e, List.length_take]; congr 1; have := (List.getElem?_eq_some_iff.1 hz).1; omega
  have hx' : ev env x = some (.pointer (some ⟨g, ([] : List Value).length + (c1.length + o), none⟩)) := by rw [hx]; simp [adr, addr_add, hl1]
  refine rw_perm (B' := ⟨g, E, [] ++ ((c1 ++ (f z ++ c2)) ++ rs)⟩ :: B) (F' := (h1 ++ ([] ++ h2)) ++ F') ((List.Perm.append_left B hp).trans take_blk) ?_
  refine rw_storeX (i := 0) vs ([] ++ ((c1 ++ (f a ++ c2)) ++ rs)) hT hx' hy rfl hvs hk1 (by simp only [List.length_append, hk]; omega) ho (by rw [← hv]; exact splice_in (by rw [hk]; omega)) ?_
  refine rw_perm (B' := B) (F' := (⟨g, E, [] ++ ((c1 ++ (f a ++ c2)) ++ rs)⟩ :: (h1 ++ ([] ++ h2))) ++ F') take_blk.symm ?_
  refine h _ ?_
  rw [hn]
  refine .inr ⟨g, c, c1 ++ (f a ++ c2), rs, h1 ++ ([] ++ h2), by rw [List.length_set]; rfl, ?_, rfl, by rw [List.length_set]; exact g1, g2, ?_⟩
  · rw [set_split hz]; exact hO1.append (.cons ⟨rfl, rfl⟩ hO2)
  · rw [← g3]; simp only [List.length_append, hk]
theorem rw_giveB {B' : List Ck} (i : Nat) {c : Ck} (hB : B[i]? = some c) (hB' : B.eraseIdx i = B') (h : RW C ops rest K env B' ([c] ++ F)) : RW C ops rest K env B F := by
  refine rw_perm ?_ h
  subst hB'
  obtain ⟨hi, rfl⟩ := List.getElem?_eq_some_iff.1 hB
  have h1 : B.Perm (B[i] :: B.eraseIdx i) := by
    have e1 : B = B.take i ++ B[i] :: B.drop (i + 1) := by rw [← List.drop_eq_getElem_cons hi, List.take_append_drop]
    have e2 : B.eraseIdx i = B.take i ++ B.drop (i + 1) := List.eraseIdx_eq_take_drop_succ ..
    rw [e2]
    exact (List.Perm.of_eq e1).trans List.perm_middle
  refine (h1.append_right F).trans ?_
  exact List.perm_middle.symm
theorem gw_takeB {k : List Item} {c : Ck} {F : List Ck} (h : GW C k env (c :: B) F) : GW C k env B ([c] ++ F) := gw_perm (B' := c :: B) (F' := F) (List.perm_middle (l₁ := B) (l₂ := F)) h
theorem gw_eraseB {k : List Item} {B' : List Ck} (i : Nat) (hB' : B.eraseIdx i = B') (h : GW C k env B' F) : GW C k env B F :=
  gw_drop (hB' ▸ (List.eraseIdx_sublist B i).append_right F) h
/-- A call of a function that a variable holds, which may write the blocks G. -/
theorem rw_chF {g : FuncId} {f : Operand} {cap : List Value} {xs : List Operand} {tys : Array TypeId} {vs : List Value} {G R : List Ck} {post : Value → List Ck → Prop} (hd : Nat.blt d C.n = true) (hf : ev env f = some (.func (.func g) #[] cap.toArray)) (hg : Fun C.P g) (hx : evs env xs = some vs) (hp : F.Perm (G ++ R))
    (hc : ∀ w, Sat C.w0 C.X w (B ++ F) → (∀ c ∈ G, c.In w) → (G.map Ck.b).Nodup → CH C.P g (vs ++ cap) w G post)
    (h : ∀ v G', post v G' → RW C ops rest K ((d, v) :: env) B (G' ++ R)) : RW C ops (⟨some d, .call ⟨.value f, xs.toArray, tys⟩, ty, pos, af, none⟩ :: rest) K env B F := by
  refine rw_stepC (g := g) (args := (vs ++ cap).toArray) (fun v' B' F' => B' = B ∧ ∃ G', F' = G' ++ R ∧ post v' G') hd (fun ρ hρ w => ?_) (fun E w hs => ?_) (fun v' B' F' ⟨h1, ch, h2, h3⟩ => by subst h1 h2; exact h v' ch h3)
  · exact run_call (d := d) (ty := ty) (pos := pos) (af := af) (tys := tys) hg (evs_map hρ hx) (hρ f _ hf) w
  · have hs2 : Sat C.w0 C.X w (G ++ (B ++ (R ++ E))) := hs.perm (by
      refine ((hp.append_right E).append_left B).trans ?_
      have h1 := (List.perm_append_comm (l₁ := B) (l₂ := G)).append_right (R ++ E)
      simpa [List.append_assoc] using h1)
    have hnd := hs2.nd
    rw [List.map_append, List.nodup_append] at hnd
    refine Calls.mono (hc w hs.noE (fun c hc => hs2.at_ c (List.mem_append_left _ hc)) hnd.1) fun e w' ⟨v, G', he, hpo, hs'⟩ => ⟨v, B, G' ++ R, he, ?_, rfl, G', rfl, hpo⟩
    refine (Sat.call hs2 hs').perm ?_
    have h1 := (List.perm_append_comm (l₁ := G') (l₂ := B)).append_right (R ++ E)
    simpa [List.append_assoc] using h1
end
theorem ch_ofBG {P : Program} {f : FuncId} {fn : Func} {c : Code} {vs : List Value} {w : World} {n : Nat} {B0 G : List Ck} {post : Value → List Ck → Prop} (hin : ∀ c ∈ B0 ++ G, c.In w) (hnd : ((B0 ++ G).map Ck.b).Nodup)
    (hf : P.funcs[f]? = some fn) (hb : fn.body = some c) (hn : fn.ntmps = n) (hle : Nat.ble vs.length n = true)
    (h : GW ⟨P, f, n, w, (B0 ++ G).map Ck.b, fun e w' => ∃ v G', e = .returned v ∧ post v G' ∧ Sat w ((B0 ++ G).map Ck.b) w' G'⟩ [.code c] (argEnv 0 vs) B0 (G ++ [])) : CH P f vs w (B0 ++ G) post :=
  calls_of hf hb hn hle (by simpa using Sat.initG hin hnd) h
end SL
open SL
theorem u64_nat {n : Nat} (h : n ≤ 1048576) : IntKind.u64.wrap (n : Int) = (n : Int) := by
  show (n : Int) % 18446744073709551616 = (n : Int)
  omega
theorem u8_nat {n : Nat} (h : n ≤ 255) : IntKind.u8.wrap (n : Int) = (n : Int) := by
  show (n : Int) % 256 = (n : Int)
  omega
def SortedC (l : List Chunk) : Prop := ∀ i x y, l[i]? = some x → l[i + 1]? = some y → 0 ≤ x.offset ∧ x.offset < y.offset ∧ y.offset ≤ maxQuic
theorem cmp_nn {l : List Chunk} (h : SortedC l) {i : Nat} {x y : Chunk} (h1 : 1 ≤ i) (hx : l[i]? = some x) (hy : l[i - 1]? = some y) : decide (w64 (x.offset - y.offset) < 0) = false := by
  have := h (i - 1) y x hy (by rw [show i - 1 + 1 = i by omega]; exact hx)
  unfold maxQuic at this
  rw [decide_eq_false_iff_not, w64_id (by omega) (by omega)]; omega
theorem len_le12 {n : Nat} (h : n ≤ 12) : decide (IntKind.i64.wrap ((n : Int) - 0) ≤ 12) = true := by
  rw [decide_eq_true_iff, Int.sub_zero]
  have : w64 (n : Int) = (n : Int) := w64_id (by omega) (by omega)
  show w64 (n : Int) ≤ 12; omega
/-! ### chunks put together -/
theorem one_s (b : ByteArray) : ∀ u ∈ [Value.string b], u.oneCell' = true := fun u hu => by rw [List.mem_singleton.1 hu]; rfl
theorem last_of {α : Type} {o : List α} (ho : o.length ≤ 12) (h : decide ((0 : Int) ≤ IntKind.i64.wrap ((o.length : Int) - 1)) = true) : ∃ z, o[o.length - 1]? = some z ∧ o.length - 1 < o.length := by
  have h := of_decide_eq_true h
  have e : IntKind.i64.wrap ((o.length : Int) - 1) = (o.length : Int) - 1 := w64_id (by omega) (by omega)
  rw [e] at h
  exact ⟨o[o.length - 1]'(by omega), List.getElem?_eq_getElem _, by omega⟩
theorem last_none {α : Type} {o : List α} (ho : o.length ≤ 12) (h : decide ((0 : Int) ≤ IntKind.i64.wrap ((o.length : Int) - 1)) = false) : o = [] := by
  have h := of_decide_eq_false h
  have e : IntKind.i64.wrap ((o.length : Int) - 1) = (o.length : Int) - 1 := w64_id (by omega) (by omega)
  rw [e] at h
  exact List.length_eq_zero_iff.1 (by omega)
theorem js_nil (x : Chunk) : joinStep [] x = [] ++ [x] := rfl
theorem js_app {o : List Chunk} {z x : Chunk} (hz : o[o.length - 1]? = some z) (h : (chunkEnd z == x.offset) = false) : joinStep o x = o ++ [x] := by
  unfold joinStep; rw [List.getLast?_eq_getElem?, hz]; simp only [h]; rfl
theorem js_ext {o : List Chunk} {z x : Chunk} (hz : o[o.length - 1]? = some z) (h : (chunkEnd z == x.offset) = true) : joinStep o x = o.set (o.length - 1) ⟨z.offset, ⟨(z.data.data.toList ++ x.data.data.toList).toArray⟩⟩ := by
  have hl := (List.getElem?_eq_some_iff.1 hz).1
  have e : (⟨(z.data.data.toList ++ x.data.data.toList).toArray⟩ : ByteArray) = z.data ++ x.data := by
    apply ByteArray.ext; simp
  unfold joinStep
  rw [List.getLast?_eq_getElem?, hz, e]
  simp only [h, cond_true]
  rw [set_split hz, List.dropLast_eq_take, show o.length - 1 + 1 = o.length by omega, List.drop_length]
theorem js_size {o : List Chunk} {n : Nat} {z x : Chunk} (ho : ∀ c ∈ o, c.data.size ≤ 16 * n) (hz : o[o.length - 1]? = some z) (hx : x.data.size ≤ 16) :
    ∀ c ∈ o.set (o.length - 1) ⟨z.offset, ⟨(z.data.data.toList ++ x.data.data.toList).toArray⟩⟩, c.data.size ≤ 16 * (n + 1) := fun c hc => by
  rcases List.mem_or_eq_of_mem_set hc with hc | rfl
  · have := ho c hc; omega
  · have h1 := ho z (List.mem_of_getElem? hz)
    show (z.data.data.toList ++ x.data.data.toList).toArray.size ≤ _
    have h2 : z.data.data.toList.length = z.data.size := rfl
    have h3 : x.data.data.toList.length = x.data.size := rfl
    simp only [List.size_toArray, List.length_append]; omega
theorem js_size1 {o : List Chunk} {n : Nat} {x : Chunk} (ho : ∀ c ∈ o, c.data.size ≤ 16 * n) (hx : x.data.size ≤ 16) : ∀ c ∈ o ++ [x], c.data.size ≤ 16 * (n + 1) := fun c hc => by
  rcases List.mem_append.1 hc with hc | hc
  · have := ho c hc; omega
  · rw [List.mem_singleton.1 hc]; omega
theorem jo_b1 {o : List Chunk} {i : Nat} {z : Chunk} (h : ∀ c ∈ o, c.data.size ≤ 16 * i) (hz : o[o.length - 1]? = some z) (hi : i ≤ 12) : (z.data.data.toList.length : Int) ≤ 8388608 := by
  have := h z (List.mem_of_getElem? hz)
  have h2 : z.data.data.toList.length = z.data.size := rfl
  omega
theorem jo_b2 {l : List Chunk} {i : Nat} {z : Chunk} (h : ∀ c ∈ l, c.data.size ≤ 16) (hz : l[i]? = some z) : (z.data.data.toList.length : Int) ≤ 8388608 := by
  have := h z (List.mem_of_getElem? hz)
  have h2 : z.data.data.toList.length = z.data.size := rfl
  omega
/-! ### what an insertion puts -/
def putP (o e : Int) (D : List UInt8) (f to_ : Int) : List Chunk := bif decide (f < min to_ e) then [⟨f, mkS (seg D (f - o) (min to_ e - o))⟩] else []
theorem put_at {o e f to_ : Int} {D : List UInt8} (h0 : 0 ≤ o) (h1 : o ≤ f) (he : e = o + (D.length : Int)) (hb : e ≤ 16) (hlt : decide (f < min to_ e) = true) :
    ∃ a b : Nat, IntKind.i64.wrap (f - o) = (a : Int) ∧ IntKind.i64.wrap (min to_ e - o) = (b : Int) ∧ a ≤ b ∧ b ≤ D.length ∧ (D.drop a).take (b - a) = seg D (f - o) (min to_ e - o) := by
  have hlt := of_decide_eq_true hlt
  refine ⟨(f - o).toNat, (min to_ e - o).toNat, ?_, ?_, by omega, by omega, ?_⟩
  · show w64 (f - o) = _; rw [w64_id (by omega) (by omega)]; omega
  · show w64 (min to_ e - o) = _; rw [w64_id (by omega) (by omega)]; omega
  · simp only [seg]; congr 1; omega
theorem pieces_cons (o e : Int) (D : List UInt8) (f : Int) (c : Chunk) (t : List Chunk) : piecesOf o e D f (c :: t) = (putP o e D f c.offset ++ [c]) ++ piecesOf o e D (max f (chunkEnd c)) t := by
  rw [List.append_assoc]; rfl
theorem pieces_nil (o e : Int) (D : List UInt8) (f : Int) : piecesOf o e D f [] = putP o e D f e := by
  unfold putP; rw [Int.min_self]; rfl
theorem putP_len (o e : Int) (D : List UInt8) (f t : Int) : (putP o e D f t).length ≤ 1 := by
  unfold putP; cases decide (f < min t e) <;> simp
structure InsOk (x : Buffer) (o : Int) (D : List UInt8) : Prop where
  buf : isBuffer x = true
  n : x.chunks.length ≤ 12
  s : ∀ c ∈ x.chunks, c.data.size ≤ 16
  h0 : 0 ≤ o
  hn : o + (D.length : Int) ≤ 16
  nx : x.next = 0
  n12 : D.length ≠ 0 → (piecesOf o (o + (D.length : Int)) D (max o x.next) x.chunks).length ≤ 12
  srt : D.length ≠ 0 → SortedC (piecesOf o (o + (D.length : Int)) D (max o x.next) x.chunks)
  sz : D.length ≠ 0 → ∀ c ∈ piecesOf o (o + (D.length : Int)) D (max o x.next) x.chunks, c.data.size ≤ 16
theorem InsOk.le {x : Buffer} {o : Int} {D : List UInt8} (h : InsOk x o D) : x.le 1048576 := ⟨by have := h.n; omega, fun c hc => by have := h.s c hc; omega⟩
theorem InsOk.e {x : Buffer} {o : Int} {D : List UInt8} (h : InsOk x o D) : w64 (o + (D.length : Int)) = o + (D.length : Int) := by
  have := h.h0; have := h.hn; exact w64_id (by omega) (by omega)
theorem InsOk.g22 {x : Buffer} {o : Int} {D : List UInt8} (h : InsOk x o D) : decide (o < 0) = false := by
  have := h.h0; rw [decide_eq_false_iff_not]; omega
theorem InsOk.g29 {x : Buffer} {o : Int} {D : List UInt8} (h : InsOk x o D) : decide (IntKind.i64.wrap (4611686018427387903 - (D.length : Int)) < o) = false := by
  have := h.h0; have := h.hn
  have e : IntKind.i64.wrap (4611686018427387903 - (D.length : Int)) = 4611686018427387903 - (D.length : Int) := w64_id (by omega) (by omega)
  rw [e, decide_eq_false_iff_not]; omega
theorem InsOk.g38 {x : Buffer} {o : Int} {D : List UInt8} (h : InsOk x o D) (hne : D.length ≠ 0) : decide (IntKind.i64.wrap (o + (D.length : Int)) ≤ x.next) = false := by
  have := h.h0; have := h.hn; have := h.nx
  have e : IntKind.i64.wrap (o + (D.length : Int)) = o + (D.length : Int) := h.e
  rw [e, decide_eq_false_iff_not]; omega
theorem InsOk.fin {x : Buffer} {o : Int} {D : List UInt8} {L : List Chunk} (h : InsOk x o D) (hne : D.length ≠ 0) (he : piecesOf o (w64 (o + (D.length : Int))) D (max o x.next) x.chunks = L) :
    L.length ≤ 12 ∧ SortedC L ∧ (∀ c ∈ L, c.data.size ≤ 16) ∧ insM x o (o + (D.length : Int)) D = ⟨x.next, joinGo [] L⟩ := by
  rw [h.e] at he
  subst he
  refine ⟨h.n12 hne, h.srt hne, h.sz hne, ?_⟩
  have : (D.length == 0) = false := by rw [beq_eq_false_iff_ne]; exact hne
  unfold insM; rw [this]; rfl
theorem ins_none {x : Buffer} {o e : Int} {D : List UInt8} (h : (D == []) = true) : insM x o e D = x := by
  have : D = [] := by simpa using h
  subst this; rfl
theorem ne_of {D : List UInt8} (h : (D == []) = false) : D.length ≠ 0 := by
  have := beq_eq_false_iff_ne.1 h
  exact fun e => this (List.length_eq_zero_iff.1 e)
/-! ### receiving -/
structure RecOk (x : Receiver) (o : Int) (D : List UInt8) (f : Bool) : Prop where
  rcv : isReceiver x = true
  ins : InsOk x.buffer o D
  con : (!(x.final == -1) && decide (x.final < w64 (o + (D.length : Int))) || f && (!(x.final == -1) && !(w64 (o + (D.length : Int)) == x.final) || decide (w64 (o + (D.length : Int)) < x.highest))) = false
  tk : (x.state == 0 || x.state == 1) = true
  le : (insM x.buffer o (w64 (o + (D.length : Int))) D).le 1048576
theorem recvM_st {r : Receiver} {o e : Int} {D : List UInt8} {f ff a b : Bool} (hf : f = ff) (h2 : ((bif ff then e else r.final) == -1) = a) (h3 : (w64 ((insM r.buffer o e D).next + readyBytes (insM r.buffer o e D)) == (bif ff then e else r.final)) = b) :
    recvM r o e D f = ⟨bif !a && b then 2 else bif ff then 1 else r.state, insM r.buffer o e D, bif ff then e else r.final, max r.highest e, r.code⟩ := by subst hf h2 h3; rfl
structure TakeOk (x : Buffer) (D : List UInt8) : Prop where
  le : x.le 1048576
  r : readyBytes x = (D.length : Int)
  n : D.length ≤ 100
  c : D.length ≠ 0 → x.chunks[0]? = some ⟨x.next, mkS D⟩
theorem TakeOk.m {x : Buffer} {D : List UInt8} (h : TakeOk x D) : min 100 (readyBytes x) = (D.length : Int) := by
  have := h.n; rw [h.r]; omega
end Go.Proofs.Ytbhnekiclbfmgaa
