/- Slices of slices, copies, the append of zero elements: what slices.Insert is made of. No program in sight. -/
import Derived.Test.YtbhnekiclbfmgaaMark
import Derived.Lib.Overlaps
import Derived.Lib.AppendZerosOnto
import Derived.Laws.Externs
namespace Go.Proofs.Ytbhnekiclbfmgaa
namespace SL
open Go.RowKit Go.Lib
section
variable {C : Cx} {k : List Item} {env : Env} {B F : List Ck} {ops : Array Oper} {rest : List Oper}
variable {K : Env → List Ck → Act → World → Prop} {d : Nat} {ty : TypeId} {pos : String} {af : Array Edge} {x y z : Operand} {T E kk bytes : Nat} {zs : List Value}
theorem rw_cap {n c : Nat} {A : Option Addr} (hd : Nat.blt d C.n = true) (hT : TyE C.P T E kk) (hx : ev env x = some (.slice A n c)) (h : RW C ops rest K ((d, .int .i64 (c : Int)) :: env) B F) :
    RW C ops (⟨some d, .call ⟨.builtin .cap, #[x], #[T]⟩, ty, pos, af, none⟩ :: rest) K env B F :=
  rw_step hd (fun ρ hρ E w hs => ⟨w, run_builtin (xs := [x]) (vs := [.slice A n c]) (by simp [hρ x _ hx]) (fun cs => by simp [builtin, Builtin.cap_, run_underlying hT.und, goInt]), hs⟩) h
theorem und_elem {P : Program} {T e : TypeId} (h : P.underlying T = some (.slice e)) : P.underlying T = some (.slice (P.elem T)) := by
  have : P.elem T = e := by simp [Program.elem, h]
  rw [this]; exact h
theorem elem_of {P : Program} {T e : TypeId} (h : P.underlying T = some (.slice e)) : P.elem T = e := by simp [Program.elem, h]
/-- A slice of a slice that nothing reads. -/
theorem rw_sliceJ {n c i : Nat} {A : Option Addr} {IK : IntKind} (hd : Nat.blt d C.n = true) (hT : TyM C.P T E kk bytes zs) (hx : ev env x = some (.slice A n c)) (hy : ev env y = some (.int IK (i : Int))) (hi : i ≤ n)
    (h : ∀ v, RW C ops rest K ((d, v) :: env) B F) : RW C ops (⟨some d, .slice T x (some y) none none, ty, pos, af, none⟩ :: rest) K env B F := by
  refine rw_step hd (fun ρ hρ E' w hs => ⟨w, ?_, hs⟩) (h (sliced A i n c kk))
  have h1 := run_slice_l (P := C.P) (w := w) T A n c (und_elem hT.und) IK (i : Int) (by omega) (by omega)
  obtain ⟨ti, z, hi', hz, hsz, hby, hzs⟩ := hT.spec
  have h2 : (sizeOf (C.P.elem T)).run C.P w = .ok kk w := by rw [elem_of hT.und]; exact run_sizeOf_of (by simp [hi', hsz]) w
  have h3 : (Instr.sliceAt T (.slice A n c) (some (.int IK (i : Int))) none none).run C.P w = .ok (sliced A i n c kk) w := by
    rw [run_sliceAt_slice w T _ _ _ _ (und_elem hT.und), h1, h2]; simp [Result.andThen]
  simp [execOp, hρ x _ hx, hρ y _ hy, h3]
theorem rw_sliceLo {n c i b off : Nat} {IK : IntKind} {p : Int} (q : Nat) (hd : Nat.blt d C.n = true) (hT : TyM C.P T E kk bytes zs) (hx : ev env x = some (.slice (some ⟨b, off, none⟩) n c)) (hy : ev env y = some (.int IK p)) (hp : p = (i : Int)) (hi : i ≤ n) (hc : i < c) (hq : off + i * kk = q)
    (h : RW C ops rest K ((d, .slice (some ⟨b, q, none⟩) (n - i) (c - i)) :: env) B F) : RW C ops (⟨some d, .slice T x (some y) none none, ty, pos, af, none⟩ :: rest) K env B F := by
  subst hp
  refine rw_step hd (fun ρ hρ E' w hs => ⟨w, ?_, hs⟩) h
  have h1 := run_slice_l (P := C.P) (w := w) T (some ⟨b, off, none⟩) n c (und_elem hT.und) IK (i : Int) (by omega) (by omega)
  obtain ⟨ti, z, hi', hz, hsz, hby, hzs⟩ := hT.spec
  have h2 : (sizeOf (C.P.elem T)).run C.P w = .ok kk w := by rw [elem_of hT.und]; exact run_sizeOf_of (by simp [hi', hsz]) w
  have h4 : sliced (some ⟨b, off, none⟩) i n c kk = .slice (some ⟨b, q, none⟩) (n - i) (c - i) := by
    have hne : ¬ c = i := by omega
    simp [sliced, hne, addr_add, hq]
  have h3 : (Instr.sliceAt T (.slice (some ⟨b, off, none⟩) n c) (some (.int IK (i : Int))) none none).run C.P w = .ok (.slice (some ⟨b, q, none⟩) (n - i) (c - i)) w := by
    rw [run_sliceAt_slice w T _ _ _ _ (und_elem hT.und), h1, h2, ← h4]; simp [Result.andThen]
  simp [execOp, hρ x _ hx, hρ y _ hy, h3]
theorem rw_sliceHi {n c j b off : Nat} {IK : IntKind} {p : Int} (hd : Nat.blt d C.n = true) (hT : TyM C.P T E kk bytes zs) (hx : ev env x = some (.slice (some ⟨b, off, none⟩) n c)) (hy : ev env y = some (.int IK p)) (hp : p = (j : Int)) (hj : j ≤ c) (hc : 0 < c)
    (h : RW C ops rest K ((d, .slice (some ⟨b, off, none⟩) j c) :: env) B F) : RW C ops (⟨some d, .slice T x none (some y) none, ty, pos, af, none⟩ :: rest) K env B F := by
  subst hp
  refine rw_step hd (fun ρ hρ E' w hs => ⟨w, ?_, hs⟩) h
  have h1 := run_slice_h (P := C.P) (w := w) T (some ⟨b, off, none⟩) n c (und_elem hT.und) IK (j : Int) (by omega) (by omega)
  obtain ⟨ti, z, hi', hz, hsz, hby, hzs⟩ := hT.spec
  have h2 : (sizeOf (C.P.elem T)).run C.P w = .ok kk w := by rw [elem_of hT.und]; exact run_sizeOf_of (by simp [hi', hsz]) w
  have h4 : sliced (some ⟨b, off, none⟩) 0 j c kk = .slice (some ⟨b, off, none⟩) j c := by
    have hne : ¬ c = 0 := by omega
    simp [sliced, hne, addr_add]
  have h3 : (Instr.sliceAt T (.slice (some ⟨b, off, none⟩) n c) none (some (.int IK (j : Int))) none).run C.P w = .ok (.slice (some ⟨b, off, none⟩) j c) w := by
    rw [run_sliceAt_slice w T _ _ _ _ (und_elem hT.und), h1, h2, ← h4]; simp [Result.andThen]
  simp [execOp, hρ x _ hx, hρ y _ hy, h3]
/-- copy onto a block of one's own. -/
theorem rw_copy {dl dc sl sc g off i T' : Nat} {a : Addr} {cs : List Value} (vs cs' : List Value) (hd : Nat.blt d C.n = true) (hT : TyM C.P T E kk bytes zs) (hx : ev env x = some (.slice (some ⟨g, off, none⟩) dl dc)) (hy : ev env y = some (.slice (some a) sl sc))
    (hB : B[i]? = some ⟨g, T', cs⟩) (hsrc : ∀ w, Sat C.w0 C.X w (B ++ F) → ∀ j u, vs[j]? = some u → w.cell? (a.add j) = some u) (hn : vs.length = Nat.min sl dl * kk) (hfit : off + vs.length ≤ cs.length) (h1 : ∀ u ∈ vs, u.oneCell' = true) (hcs : splice cs off vs = cs')
    (h : RW C ops rest K ((d, .int .i64 ((Nat.min sl dl : Nat) : Int)) :: env) (B.set i ⟨g, T', cs'⟩) F) :
    RW C ops (⟨some d, .call ⟨.builtin .copy, #[x, y], #[T, T]⟩, ty, pos, af, none⟩ :: rest) K env B F := by
  subst hcs
  refine rw_step hd (B' := B.set i ⟨g, T', splice cs off vs⟩) (F' := F) (fun ρ hρ E' w hs => ⟨w.setRow g (splice cs off vs).toArray, ?_, ?_⟩) h
  · obtain ⟨ti, z, hi', hz, hsz, hby, hzs⟩ := hT.spec
    have hc := hs.at_ _ (List.mem_append_left (F ++ E') (List.mem_of_getElem? hB))
    have hsz2 := run_sizeOf_of (P := C.P) (T := E) (n := kk) (by simp [hi', hsz]) w
    have hf := run_firstCells_some (P := C.P) (w := w) kk (Nat.min sl dl) a sl sc vs hn (fun j u hj => hsrc w hs.noE j u hj)
    have hst := run_storeCells_ck (P := C.P) hc (off := off) (vs := vs) (by simpa using hfit) (by simpa using h1)
    refine run_builtin (xs := [x, y]) (vs := [.slice (some ⟨g, off, none⟩) dl dc, .slice (some a) sl sc]) (by simp [hρ x _ hx, hρ y _ hy]) (fun cs => ?_)
    simp [builtin, Builtin.copy_, run_underlying hT.und, Builtin.lenOf, hsz2, hf, hst, goInt]
  · exact ((hs.perm (perm_get hB)).setRow _).perm (perm_set hB)
/-- append of zero elements for which there is no room: a new block. -/
theorem rw_appendZ {Ti i c b off j m T' : Nat} {cs olds : List Value} {IK IK2 : IntKind} {p : Int} (hd : Nat.blt d C.n = true) (hT : TyM C.P T E kk bytes zs) (hTi : C.P.underlying Ti = some (.int IK2)) (hx : ev env x = some (.slice (some ⟨b, off, none⟩) i c)) (hy : ev env y = some (.int IK p)) (hp : p = (m : Int))
    (hB : B[j]? = some ⟨b, T', cs⟩) (ho : cut cs off (i * kk) = olds) (hol : olds.length = i * kk) (hm : 0 < m) (hg : c < i + m) (hb : i + m ≤ 134217728)
    (h : ∀ b2 cap mid, i + m ≤ cap → cap ≤ maxLen → mid.length = (cap - i) * kk → RW C ops rest K ((d, .slice (some ⟨b2, 0, none⟩) (i + m) cap) :: env) (⟨b2, E, olds ++ mid⟩ :: B) F) :
    RW C ops (⟨some d, .call ⟨.builtin .append, #[x, y], #[T, Ti]⟩, ty, pos, af, none⟩ :: rest) K env B F := by
  subst hp
  refine rw_stepE (fun v' B' F' => ∃ b2 cap mid, i + m ≤ cap ∧ cap ≤ maxLen ∧ mid.length = (cap - i) * kk ∧ v' = .slice (some ⟨b2, 0, none⟩) (i + m) cap ∧ B' = ⟨b2, E, olds ++ mid⟩ :: B ∧ F' = F) hd (fun ρ hρ E' w hs => ?_)
    (fun v' B' F' ⟨b2, cap, mid, g1, g2, g3, g4, g5, g6⟩ => by subst g4 g5 g6; exact h b2 cap mid g1 g2 g3)
  obtain ⟨ti, z, hi', hz, hsz, hby, hzs⟩ := hT.spec
  have hpos : 0 < kk := by simpa using hT.pos
  have hfew : bytes ≤ 1048576 := by simpa using hT.few
  have hzl : z.cells.size = kk := by have := Nat.eq_of_beq_eq_true hT.len; rw [← this, ← hzs]; simp
  have hmb : ∀ n : Nat, n ≤ 134217728 → n * bytes ≤ 140737488355328 := fun n hn' => Nat.le_trans (Nat.mul_le_mul hn' hfew) (by decide)
  have hc := hs.at_ _ (List.mem_append_left (F ++ E') (List.mem_of_getElem? hB))
  have hold : (Builtin.firstCells ti.size i (.slice (some ⟨b, off, none⟩) i c)).run C.P w.drew = .ok olds.toArray w.drew := by
    rw [hsz]
    refine run_firstCells_some (P := C.P) (w := w.drew) kk i ⟨b, off, none⟩ i c olds hol (fun j' u hj => ?_)
    have hc2 : (⟨b, T', cs⟩ : Ck).In w.drew := hc
    have h5 := hc2.cell (off + j')
    have h6 : cs[off + j']? = some u := by
      rw [← ho] at hj
      unfold cut at hj
      rw [List.getElem?_take] at hj
      split at hj
      · rwa [List.getElem?_drop] at hj
      · cases hj
    rw [h6] at h5
    simpa [addr_add] using h5
  have hr := run_append_grow_zeros (P := C.P) w T Ti ty E ti z IK IK2 hT.und hTi hi' hz (some ⟨b, off, none⟩) i c olds hold m hm (by rw [hsz]; exact hpos) hg (by omega)
    (by rw [hby]; exact Nat.le_trans (hmb m (by omega)) (by decide)) (by rw [hby]; exact growslice_fits hg (hmb _ hb))
  have hge := grownCap_ge w (i + m) c E
  have hle := grownCap_le_maxLen w (i + m) c E (by simp only [maxLen]; omega)
  have e1 : olds.toArray ++ Builtin.zeroCells z.cells m ++ Builtin.zeroCells z.cells (grownCap w (i + m) c E - (i + m)) = (olds ++ ((Builtin.zeroCells z.cells m).toList ++ (Builtin.zeroCells z.cells (grownCap w (i + m) c E - (i + m))).toList)).toArray := by
    apply Array.ext'; simp
  rw [e1] at hr
  refine ⟨_, ⟨w.heap.size, E, olds ++ ((Builtin.zeroCells z.cells m).toList ++ (Builtin.zeroCells z.cells (grownCap w (i + m) c E - (i + m))).toList)⟩ :: B, F, w.drew.alloc (.cells (olds ++ ((Builtin.zeroCells z.cells m).toList ++ (Builtin.zeroCells z.cells (grownCap w (i + m) c E - (i + m))).toList)).toArray E), run_builtin (xs := [x, y]) (vs := [.slice (some ⟨b, off, none⟩) i c, .int IK (m : Int)]) (by simp [hρ x _ hx, hρ y _ hy]) (fun cs => by
      simp only [builtin, Sem.run_bind, hr, Result.andThen_ok, Sem.run_pure]), hs.drew.alloc E (olds ++ ((Builtin.zeroCells z.cells m).toList ++ (Builtin.zeroCells z.cells (grownCap w (i + m) c E - (i + m))).toList)), w.heap.size, grownCap w (i + m) c E, (Builtin.zeroCells z.cells m).toList ++ (Builtin.zeroCells z.cells (grownCap w (i + m) c E - (i + m))).toList, hge, hle, ?_, rfl, rfl, rfl⟩
  have s1 : (Builtin.zeroCells z.cells m).toList.length = m * kk := by have := size_zeroCells z.cells m; simpa [hzl] using this
  have s2 : (Builtin.zeroCells z.cells (grownCap w (i + m) c E - (i + m))).toList.length = (grownCap w (i + m) c E - (i + m)) * kk := by have := size_zeroCells z.cells (grownCap w (i + m) c E - (i + m)); simpa [hzl] using this
  rw [List.length_append, s1, s2, ← Nat.add_mul]
  congr 1; omega
theorem rw_subK {IK : IntKind} {p q : Int} (r : Int) (hd : Nat.blt d C.n = true) (hx : ev env x = some (.int IK p)) (hy : ev env y = some (.int IK q)) (hr : IK.wrap (p - q) = r) (h : RW C ops rest K ((d, .int IK r) :: env) B F) {t yt : TypeId} :
    RW C ops (⟨some d, .binOp .sub t x y yt, ty, pos, af, none⟩ :: rest) K env B F := rw_sub hd hx hy (by rw [hr]; exact h)
/-- A call of a function of the machine's own, whose run is known. -/
theorem rw_ext {g : FuncId} {xs : List Operand} {tys : Array TypeId} {vs : List Value} {v : Value} (hd : Nat.blt d C.n = true) (hx : evs env xs = some vs) (hr : ∀ w, Sat C.w0 C.X w (B ++ F) → (callFunc g vs.toArray).run C.P w = .ok (.value v) w)
    (h : RW C ops rest K ((d, v) :: env) B F) : RW C ops (⟨some d, .call ⟨.value (.func g), xs.toArray, tys⟩, ty, pos, af, none⟩ :: rest) K env B F := by
  refine rw_step hd (fun ρ hρ E' w hs => ⟨w, ?_, hs⟩) h
  have h1 := evs_map hρ hx
  have h2 := hr w hs.noE
  have hf : ρ (.func g) = .func (.func g) #[] #[] := hρ (.func g) _ rfl
  simp [execOp, resolve, Deferred.ofValue, hf, invoke, h1, h2]
theorem Ck.In.shape {c : Ck} {w : World} (h : c.In w) : w.shape? c.b = some (c.T, c.cs.length) := by
  unfold Ck.In at h
  simp [World.shape?, h]
theorem run_apart {P : Program} {g : FuncId} {fn : Func} {T E kk bytes tR : Nat} {zs : List Value} (hT : TyM P T E kk bytes zs) (hf : P.funcs[g]? = some fn) (hname : (fn.name == "runtime.NumGoroutine") = false) (hb : fn.body.isNone = true) (hn : Extern.findNext fn = none)
    (he : Extern.find fn = some (Extern.SlicesOverlaps.overlaps #[T, T] #[tR])) {c1 c2 : Ck} {w : World} (h1 : c1.In w) (h2 : c2.In w) (hne : c1.b ≠ c2.b) (h0 : c2.cs.length ≠ 0) (o1 o2 la ca lb cb : Nat) :
    (callFunc g #[.slice (some ⟨c1.b, o1, none⟩) la ca, .slice (some ⟨c2.b, o2, none⟩) lb cb]).run P w = .ok (.value (.bool false)) w := by
  obtain ⟨ti, z, hi', hz, hsz, hby, hzs⟩ := hT.spec
  have hs : ∀ w, (Go.sizeOf E).run P w = .ok kk w := fun w => run_sizeOf_of (by simp [hi', hsz]) w
  rw [run_callFunc_extern hf hname hb hn he, Lib.run_overlaps_apart w T tR E hT.und kk hs ⟨c1.b, o1, none⟩ ⟨c2.b, o2, none⟩ la ca lb cb hne c1.T c2.T c1.cs.length c2.cs.length h1.shape h2.shape h0 (h1.frozen o1) (h1.frozen _)]
  rfl
end
theorem wadd {a b r : Nat} (h : a + b = r) (hr : r ≤ 134217728) : IntKind.i64.wrap ((a : Int) + (b : Int)) = (r : Int) := by
  rw [w64_in (by omega) (by omega)]; omega
theorem wsub {a b r : Nat} (h : a = b + r) (hr : a ≤ 134217728) : IntKind.i64.wrap ((a : Int) - (b : Int)) = (r : Int) := by
  rw [w64_in (by omega) (by omega)]; omega
theorem splice_all {a m b vs : List Value} {q : Nat} (hq : q = a.length) (h : vs.length = m.length) : splice (a ++ (m ++ b)) q vs = a ++ (vs ++ b) := by
  have h1 := splice_mid (a := a) (m := m) (b := b) (vs := vs) (off := 0) (by omega)
  rw [hq]
  simp only [Nat.add_zero] at h1
  rw [h1]
  unfold splice
  rw [h, List.take_zero, Nat.zero_add, List.drop_length, List.nil_append, List.append_nil]
theorem split3 {mid : List Value} {p q : Nat} (h : p + q ≤ mid.length) : ∃ m1 m2 m3, mid = m1 ++ (m2 ++ m3) ∧ m1.length = p ∧ m2.length = q := by
  refine ⟨mid.take p, (mid.drop p).take q, (mid.drop p).drop q, ?_, ?_, ?_⟩
  · rw [List.take_append_drop, List.take_append_drop]
  · rw [List.length_take]; omega
  · rw [List.length_take, List.length_drop]; omega
theorem Ows.split {α : Type} {O : List Value → α → List Ck → Prop} : ∀ {l : List α} {cells : List Value} {chs : List Ck} (i : Nat), Ows O l cells chs → ∃ c1 c2 h1 h2, cells = c1 ++ c2 ∧ chs = h1 ++ h2 ∧ Ows O (l.take i) c1 h1 ∧ Ows O (l.drop i) c2 h2
  | _, cells, chs, 0, h => ⟨[], cells, [], chs, rfl, rfl, .nil, h⟩
  | [], _, _, i + 1, h => by
    obtain ⟨rfl, rfl⟩ := h.nil_inv
    exact ⟨[], [], [], [], rfl, rfl, .nil, .nil⟩
  | x :: l, _, _, i + 1, h => by
    obtain ⟨cs, cR, c, hR, rfl, rfl, h1, h2⟩ := h.uncons
    obtain ⟨a, b, ha, hb, rfl, rfl, h3, h4⟩ := Ows.split i h2
    exact ⟨cs ++ a, b, c ++ ha, hb, by rw [List.append_assoc], by rw [List.append_assoc], .cons h1 h3, h4⟩
theorem ch_of2 {P : Program} {f : FuncId} {fn : Func} {c : Code} {vs : List Value} {w : World} {n : Nat} {b1 b2 : Ck} {G : List Ck} {post : Value → List Ck → Prop} (hin : ∀ c ∈ b1 :: b2 :: G, c.In w) (hnd : ((b1 :: b2 :: G).map Ck.b).Nodup)
    (hf : P.funcs[f]? = some fn) (hb : fn.body = some c) (hn : fn.ntmps = n) (hle : Nat.ble vs.length n = true)
    (h : GW ⟨P, f, n, w, (b1 :: b2 :: G).map Ck.b, fun e w' => ∃ v G', e = .returned v ∧ post v G' ∧ Sat w ((b1 :: b2 :: G).map Ck.b) w' G'⟩ [.code c] (argEnv 0 vs) [b1, b2] (G ++ [])) : CH P f vs w (b1 :: b2 :: G) post :=
  calls_of hf hb hn hle (by simpa using Sat.initG hin hnd) h
theorem cut_head {a b : List Value} {n : Nat} (h : a.length = n) : cut (a ++ b) 0 n = a := by
  unfold cut
  rw [List.drop_zero, ← h, List.take_left]
theorem lit_cell {b T : Nat} {cs : List Value} {w : World} (h : (⟨b, T, cs⟩ : Ck).In w) {j : Nat} {u : Value} (hj : cs[j]? = some u) : w.cell? ((⟨b, 0, none⟩ : Addr).add j) = some u := by
  rw [addr_add, h.cell]; simpa using hj
theorem mid_cell {b T i : Nat} {c1 c2 rs : List Value} {w : World} (hl : c1.length = i * 39) (h : (⟨b, T, c1 ++ (c2 ++ rs)⟩ : Ck).In w) {j : Nat} {u : Value} (hj : c2[j]? = some u) : w.cell? ((⟨b, i * 39, none⟩ : Addr).add j) = some u := by
  rw [addr_add, h.cell, ← hl]
  exact mid_get hj
theorem splice_two {c1 row m2 m3 vs : List Value} {i : Nat} (h1 : c1.length = i * 39) (h2 : row.length = 39) (h : vs.length = m2.length) : splice (c1 ++ (row ++ (m2 ++ m3))) ((i + 1) * 39) vs = c1 ++ (row ++ (vs ++ m3)) := by
  have h3 := splice_all (a := c1 ++ row) (m := m2) (b := m3) (vs := vs) (q := (i + 1) * 39) (by rw [List.length_append]; omega) h
  simpa [List.append_assoc] using h3
theorem splice_shift {c1 c2 r0 rs2 : List Value} {i k : Nat} (h1 : c1.length = i * 39) (h2 : c2.length = k * 39) (h3 : r0.length = 39) : splice (c1 ++ (c2 ++ (r0 ++ rs2))) ((i + 1) * 39) c2 = c1 ++ ((c2 ++ r0).take 39 ++ (c2 ++ rs2)) := by
  have h4 := splice_mid (a := c1) (m := c2 ++ r0) (b := rs2) (vs := c2) (off := 39) (by rw [List.length_append]; omega)
  have h5 : c1.length + 39 = (i + 1) * 39 := by omega
  rw [h5] at h4
  have h6 : splice (c2 ++ r0) 39 c2 = (c2 ++ r0).take 39 ++ c2 := by
    unfold splice
    rw [List.drop_of_length_le (by rw [List.length_append]; omega), List.append_nil]
  rw [h6] at h4
  simpa [List.append_assoc] using h4
theorem ne_of_nd {b1 b2 : Ck} {X : List Nat} {w0 w : World} {H : List Ck} (h : Sat w0 X w (b1 :: b2 :: H)) : b2.b ≠ b1.b := fun e => by
  have := h.nd
  simp only [List.map_cons, List.nodup_cons, List.mem_cons] at this
  exact this.1 (.inl e.symm)
end SL
end Go.Proofs.Ytbhnekiclbfmgaa
