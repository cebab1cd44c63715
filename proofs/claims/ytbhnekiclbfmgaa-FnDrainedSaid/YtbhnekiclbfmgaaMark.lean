/- Marks: what a law writes into all memory that a value reaches, and reads again. No program in sight. -/
import Derived.Test.YtbhnekiclbfmgaaSlh
import Derived.Test.YtbhnekiclbfmgaaSls
import Derived.Test.YtbhnekiclbfmgaaDeep
import Derived.Test.YtbhnekiclbfmgaaValS
namespace Go.Proofs.Ytbhnekiclbfmgaa
namespace SL
open Go.RowKit
section
variable {C : Cx} {k : List Item} {env : Env} {B F : List Ck} {ops : Array Oper} {rest : List Oper}
variable {K : Env → List Ck → Act → World → Prop} {d : Nat} {ty : TypeId} {pos : String} {af : Array Edge} {x y z : Operand} {T yt : TypeId}
theorem At.ld3 {w0 w : World} {q : Addr} {cs : List Value} {H : List Ck} (h : At w0 q cs) (hs : Sat w0 [] w H) {i j l : Nat} {u : Value} (hj : cs[i + j + l]? = some u) : w.cell? (((q.add i).add j).add l) = some u := by
  rw [add_add, add_add]; exact h.ld hs (by rwa [← Nat.add_assoc])
theorem mid_get {a m b : List Value} {off : Nat} {v : Value} (h : m[off]? = some v) : (a ++ (m ++ b))[a.length + off]? = some v := by
  rw [List.getElem?_append_right (by omega), show a.length + off - a.length = off by omega, List.getElem?_append_left (List.getElem?_eq_some_iff.1 h).1, h]
theorem mid_cut {a m b : List Value} {off n : Nat} (h : off + n ≤ m.length) : cut (a ++ (m ++ b)) (a.length + off) n = cut m off n := by
  unfold cut
  rw [List.drop_append, List.drop_of_length_le (by omega), show a.length + off - a.length = off by omega, List.nil_append, List.drop_append_of_le_length (by omega), List.take_append_of_le_length (by rw [List.length_drop]; omega)]
theorem mid_q {q al o : Nat} (h : al = q) : q + o = al + o := by rw [h]
/-- A load out of the middle of a block. -/
theorem rw_loadM {q off j g E : Nat} {a m b : List Value} {v : Value} (hd : Nat.blt d C.n = true) (hT : TyP C.P T) (hx : ev env x = some (.pointer (some ⟨g, q, none⟩))) (hq : q = a.length + off) (hB : B[j]? = some ⟨g, E, a ++ (m ++ b)⟩)
    (hv : m[off]? = some v) (h : RW C ops rest K ((d, v) :: env) B F) : RW C ops (⟨some d, .load T x, ty, pos, af, none⟩ :: rest) K env B F :=
  rw_load hd hT hx hB (by rw [hq]; exact mid_get hv) h
theorem rw_loadM_s {q off n j g E : Nat} {a m b : List Value} (vs : List Value) (hd : Nat.blt d C.n = true) (hT : TyS C.P T n) (hx : ev env x = some (.pointer (some ⟨g, q, none⟩))) (hq : q = a.length + off) (hB : B[j]? = some ⟨g, E, a ++ (m ++ b)⟩)
    (hl : Nat.ble (off + n) m.length = true) (hv : cut m off n = vs) (h : RW C ops rest K ((d, .agg vs.toArray) :: env) B F) : RW C ops (⟨some d, .load T x, ty, pos, af, none⟩ :: rest) K env B F := by
  have hl' : off + n ≤ m.length := by simpa using hl
  refine rw_load_s vs hd hT hx hB ?_ ?_ h
  · simp only [Nat.ble_eq, List.length_append]; omega
  · rw [hq, mid_cut hl', hv]
/-- A store into the middle of a block. -/
theorem rw_storeM {q off n j g E : Nat} {a m b : List Value} {v : Value} (vs m' : List Value) (B' : List Ck) (hT : (C.P.info? T).map (·.size) = some n) (hx : ev env x = some (.pointer (some ⟨g, q, none⟩))) (hq : q = a.length + off) (hy : ev env y = some v)
    (hB : B[j]? = some ⟨g, E, a ++ (m ++ b)⟩) (hvs : v.cells.toList = vs) (hn : Nat.beq vs.length n = true) (hl : Nat.ble (off + n) m.length = true) (h1 : vs.all (·.oneCell') = true) (hm : splice m off vs = m') (hB' : B.set j ⟨g, E, a ++ (m' ++ b)⟩ = B')
    (h : RW C ops rest K env B' F) : RW C ops (⟨none, .store T x y, ty, pos, af, none⟩ :: rest) K env B F := by
  have hn' : vs.length = n := Nat.eq_of_beq_eq_true hn
  have hl' : off + n ≤ m.length := by simpa using hl
  subst hB'
  refine rw_store vs (a ++ (m' ++ b)) hT hx hy hB hvs hn ?_ h1 ?_ h
  · simp only [Nat.ble_eq, List.length_append]; omega
  · rw [hq, splice_mid (by omega), hm]
theorem rw_addK {IK : IntKind} {p q : Int} (r : Int) (hd : Nat.blt d C.n = true) (hx : ev env x = some (.int IK p)) (hy : ev env y = some (.int IK q)) (hr : IK.wrap (p + q) = r) (h : RW C ops rest K ((d, .int IK r) :: env) B F) {t : TypeId} :
    RW C ops (⟨some d, .binOp .add t x y yt, ty, pos, af, none⟩ :: rest) K env B F := rw_add hd hx hy (by rw [hr]; exact h)
theorem rw_convIe {src dst : Nat} {IK k' : IntKind} {n : Int} (r : Int) (hd : Nat.blt d C.n = true) (hT : TyCI C.P src dst k') (hx : ev env x = some (.int IK n)) (hr : k'.wrap n = r) (h : RW C ops rest K ((d, .int k' r) :: env) B F) :
    RW C ops (⟨some d, .convert src dst x, ty, pos, af, none⟩ :: rest) K env B F := rw_convI hd hT hx (by rw [hr]; exact h)
theorem rw_quoe {IK : IntKind} {p q : Int} (r : Int) (hd : Nat.blt d C.n = true) (hx : ev env x = some (.int IK p)) (hy : ev env y = some (.int IK q)) (hq : q ≠ 0) (hr : IK.wrap (p.tdiv q) = r) (h : RW C ops rest K ((d, .int IK r) :: env) B F) {t : TypeId} :
    RW C ops (⟨some d, .binOp .quo t x y yt, ty, pos, af, none⟩ :: rest) K env B F := rw_quo hd hx hy hq (by rw [hr]; exact h)
theorem rw_slice0D {α : Type} {E kk bytes : Nat} {zs : List Value} (hd : Nat.blt d C.n = true) (hT : TyM C.P T E kk bytes zs) (O : List Value → α → List Ck → Prop) (h : ∀ v ch, (OwA E kk O v ([] : List α) [] ∧ ch = []) → RW C ops rest K ((d, v) :: env) B (ch ++ F)) :
    RW C ops (⟨some d, .buildSlice T 0 #[], ty, pos, af, none⟩ :: rest) K env B F := rw_slice0 hd hT O fun v hv => h v [] ⟨hv, rfl⟩
/-- A slice literal of one element, its block beside one's own. -/
theorem rw_slice1F {E kk bytes : Nat} {zs : List Value} {xs : List (Nat × Operand)} {vs : List Value} (cs : List Value) (hd : Nat.blt d C.n = true) (hT : TyM C.P T E kk bytes zs) (hx : evs env (xs.map (·.2)) = some vs)
    (hf : fillL (fun i => some (i * kk, kk)) (List.replicate 1 zs).flatten ((xs.map (·.1)).zip vs) = some cs) (hsm : Nat.ble (1 * kk) 16777216 = true)
    (h : ∀ v ch, (∃ b, v = .slice (some ⟨b, 0, none⟩) 1 1 ∧ ch = [⟨b, E, cs⟩]) → RW C ops rest K ((d, v) :: env) B (ch ++ F)) :
    RW C ops (⟨some d, .buildSlice T 1 xs.toArray, ty, pos, af, none⟩ :: rest) K env B F :=
  rw_slice cs hd hT hx hf rfl hsm fun b => rw_perm (B' := B) (F' := ([⟨b, E, cs⟩] : List Ck) ++ F) (List.perm_middle (l₁ := B) (l₂ := F) (a := (⟨b, E, cs⟩ : Ck))).symm (h _ [⟨b, E, cs⟩] ⟨b, rfl, rfl⟩)
theorem mem_ch {c : Ck} {ch H : List Ck} (h : ch = [c]) (hs : ∀ c ∈ ch, c ∈ H) : c ∈ H := hs c (by rw [h]; simp)
theorem rw_append1F {α : Type} {E kk bytes : Nat} {zs : List Value} {O : List Value → α → List Ck → Prop} {R : World → List Value → α → Prop} {v : Value} {l : List α} {ch ch2 F2 : List Ck} {b : Nat} {cs : List Value} {a : α} (hd : Nat.blt d C.n = true) (hT : TyM C.P T E kk bytes zs) (e : Elem kk O R) (hx : ev env x = some v) (hy : ev env y = some (.slice (some ⟨b, 0, none⟩) 1 1))
    (hB : (⟨b, E, cs⟩ : Ck) ∈ F) (hv : OwA E kk O v l ch) (hn : O cs a ch2) (hF : F.Perm (ch ++ (ch2 ++ F2)))
    (hb : l.length + 1 ≤ 134217728) (h : ∀ v' ch', OwA E kk O v' (l ++ [a]) ch' → RW C ops rest K ((d, v') :: env) B (ch' ++ F2)) :
    RW C ops (⟨some d, .call ⟨.builtin .append, #[x, y], #[T, T]⟩, ty, pos, af, none⟩ :: rest) K env B F :=
  rw_appendG hd hT e hx hy (l2 := [a]) rfl hv (Ows.one hn) (fun w hs _ => ⟨_, rfl, by
    have h1 : (⟨b, E, [] ++ (cs ++ [])⟩ : Ck).In w := by simpa using hs.at_ _ (List.mem_append_right B hB)
    exact at_of_block h1⟩) hF hb h
theorem gw_B {B' : List Ck} (e : B = B') (h : GW C k env B' F) : GW C k env B F := e ▸ h
end
/-- The number behind another one, where there is room. -/
theorem w64_in {n : Int} (h1 : -9223372036854775808 ≤ n) (h2 : n ≤ 9223372036854775807) : IntKind.i64.wrap n = n := w64_of h1 h2
theorem kinc {K c e : Int} (h : 0 ≤ K ∧ K ≤ 1152921504606846976) (h0 : 0 ≤ c) (h1 : c ≤ 1000) (he : c + 1 = e) : IntKind.i64.wrap (K + c + 1) = K + e := by
  rw [w64_in (by omega) (by omega)]; omega
theorem kinc0 {K : Int} (h : 0 ≤ K ∧ K ≤ 1152921504606846976) : IntKind.i64.wrap (K + 1) = K + 1 := w64_in (by omega) (by omega)
theorem knn {K : Int} (h : 0 ≤ K ∧ K ≤ 1152921504606846976) : decide (K < 0) = false := by simp; omega
theorem knnc {K c : Int} (h : 0 ≤ K ∧ K ≤ 1152921504606846976) (h0 : 0 ≤ c) : decide (K + c < 0) = false := by simp; omega
theorem kup {K N : Int} (h : 0 ≤ K ∧ K ≤ N) (hN : N ≤ 1152921504606846976 := by decide) : 0 ≤ K ∧ K ≤ 1152921504606846976 := ⟨h.1, by omega⟩
theorem kto {K N M : Int} (h : 0 ≤ K ∧ K ≤ N) (hN : N ≤ M) (_ : True) (_ : True) : 0 ≤ K ∧ K ≤ M := ⟨h.1, by omega⟩
theorem ktoc {K N M c : Int} (h : 0 ≤ K ∧ K ≤ N) (h0 : 0 ≤ c) (hN : N + c ≤ M) (_ : True) : 0 ≤ K + c ∧ K + c ≤ M := by omega
theorem kplus {K N c : Int} (h : 0 ≤ K ∧ K ≤ N) (h0 : 0 ≤ c) (hN : N + c ≤ 1152921504606846976 := by decide) : 0 ≤ K + c ∧ K + c ≤ 1152921504606846976 := by omega
section
variable {α : Type} {k : Nat} {O : List Value → α → List Ck → Prop} {R : World → List Value → α → Prop}
theorem Ows.uncons {x : α} {l : List α} {cells : List Value} {chs : List Ck} (h : Ows O (x :: l) cells chs) : ∃ cs cR c hR, cells = cs ++ cR ∧ chs = c ++ hR ∧ O cs x c ∧ Ows O l cR hR := by
  cases h with
  | cons h1 h2 => exact ⟨_, _, _, _, rfl, rfl, h1, h2⟩
theorem Ows.snoc {x : α} {l : List α} {cells cs : List Value} {chs c : List Ck} (h : Ows O l cells chs) (h1 : O cs x c) : Ows O (l ++ [x]) (cells ++ cs) (chs ++ c) := h.append (Ows.one h1)
theorem Ows.snocP {f : α → List Value} {x : α} {l : List α} {cells : List Value} {chs : List Ck} (h : Ows (PlO f) l cells chs) : Ows (PlO f) (l ++ [x]) (cells ++ f x) chs := by
  have := h.snoc (x := x) (cs := f x) (c := []) ⟨rfl, rfl⟩
  rwa [List.append_nil] at this
theorem Ows.nil_inv {cells : List Value} {chs : List Ck} (h : Ows O [] cells chs) : cells = [] ∧ chs = [] := by
  cases h; exact ⟨rfl, rfl⟩
theorem OwS.openG {E n c : Nat} {A : Option Addr} {l : List α} {ch : List Ck} (h : OwS E k O (.slice A n c) l ch) :
    (n = 0 ∧ c = 0 ∧ l = [] ∧ ch = []) ∨ ∃ g pre rs cells chs, A = some ⟨g, pre.length, none⟩ ∧ n = l.length ∧ Ows O l cells chs ∧ ch = ⟨g, E, pre ++ (cells ++ rs)⟩ :: chs ∧ l.length ≤ c ∧ c ≤ maxLen ∧ (cells ++ rs).length = c * k := by
  obtain ⟨pre, h⟩ := h
  rcases h with ⟨A', h1, rfl, rfl⟩ | ⟨g, cap, cs, rest, chs, h1, h2, rfl, h3, h4, h5⟩
  · cases h1; exact .inl ⟨rfl, rfl, rfl, rfl⟩
  · cases h1; exact .inr ⟨g, pre, rest, cs, chs, rfl, rfl, h2, rfl, h3, h4, h5⟩
theorem OwS.closeG {E n c g : Nat} {pre rs cD : List Value} {m : List α} {hD : List Ck} (h : Ows O m cD hD) (hn : m.length = n) (h1 : n ≤ c) (h2 : c ≤ maxLen) (h3 : (cD ++ rs).length = c * k) :
    OwS E k O (.slice (some ⟨g, pre.length, none⟩) n c) m (⟨g, E, pre ++ (cD ++ rs)⟩ :: hD) := by
  subst hn
  exact ⟨pre, .inr ⟨g, c, cD, rs, hD, rfl, h, rfl, h1, h2, h3⟩⟩
theorem blk_assoc {g E : Nat} {pre cD m r : List Value} : ([⟨g, E, (pre ++ cD) ++ (m ++ r)⟩] : List Ck) = [⟨g, E, pre ++ ((cD ++ m) ++ r)⟩] := by
  rw [List.append_assoc, List.append_assoc]
theorem blk_open {g E : Nat} {pre cD m cR rs : List Value} : ([⟨g, E, pre ++ (cD ++ ((m ++ cR) ++ rs))⟩] : List Ck) = [⟨g, E, (pre ++ cD) ++ (m ++ (cR ++ rs))⟩] := by
  rw [List.append_assoc, List.append_assoc]
theorem ch_ofBF {P : Program} {f : FuncId} {fn : Func} {c : Code} {vs : List Value} {w : World} {n : Nat} {b : Ck} {G : List Ck} {post : Value → List Ck → Prop} (hin : ∀ c ∈ b :: G, c.In w) (hnd : ((b :: G).map Ck.b).Nodup)
    (hf : P.funcs[f]? = some fn) (hb : fn.body = some c) (hn : fn.ntmps = n) (hle : Nat.ble vs.length n = true)
    (h : GW ⟨P, f, n, w, (b :: G).map Ck.b, fun e w' => ∃ v G', e = .returned v ∧ post v G' ∧ Sat w ((b :: G).map Ck.b) w' G'⟩ [.code c] (argEnv 0 vs) [b] (G ++ [])) : CH P f vs w (b :: G) post :=
  calls_of hf hb hn hle (by simpa using Sat.initG hin hnd) h
end
end SL
open SL Go.RowKit
/-! ### what is written -/
def m3 (k : Int) : Bool := Int.tmod k 3 == 0
/-- The digits of a number, ahead of what is there. -/
def mgo : Nat → Int → List UInt8 → List UInt8
  | 0, _, out => out
  | f + 1, k, out => bif decide (0 < k) then mgo f (Int.tdiv k 10) (UInt8.ofNat (48 + Int.tmod k 10).toNat :: out) else out
def mtext (k : Int) : List UInt8 := bif decide (k ≤ 0) then [109, 48] else 109 :: mgo 19 k []
def nx {α : Type} (c : Int) (k : Int) (_ : α) : Int := k + c
def mkInt (k : Int) (_ : Int) : Int := k
def mkRange (k : Int) (_ : Range) : Range := ⟨k, k + 1⟩
def mkChunk (k : Int) (_ : Chunk) : Chunk := ⟨k, ⟨(mtext (k + 1)).toArray⟩⟩
def mkFrame (k : Int) (_ : Frame') : Frame' := ⟨k, k + 1, k + 2, ⟨(mtext (k + 3)).toArray⟩, m3 (k + 4), k + 5, k + 6, k + 7, m3 (k + 8)⟩
def mkD {α : Type} (mk : Int → α → α) (nx : Int → α → Int) : Int → List α → List α
  | _, [] => []
  | k, x :: l => mk k x :: mkD mk nx (nx k x) l
def endD {α : Type} (nx : Int → α → Int) : Int → List α → Int
  | k, [] => k
  | k, x :: l => endD nx (nx k x) l
theorem mkD_len {α : Type} (mk : Int → α → α) (nx : Int → α → Int) : ∀ (l : List α) (k : Int), (mkD mk nx k l).length = l.length
  | [], _ => rfl
  | x :: l, k => by simp [mkD, mkD_len mk nx l]
theorem mkD_snoc {α : Type} (mk : Int → α → α) (nx : Int → α → Int) : ∀ (l : List α) (k : Int) (x : α), mkD mk nx k (l ++ [x]) = mkD mk nx k l ++ [mk (endD nx k l) x]
  | [], _, _ => rfl
  | y :: l, k, x => by simp only [List.cons_append, mkD, endD, mkD_snoc mk nx l]
theorem endD_snoc {α : Type} (nx : Int → α → Int) : ∀ (l : List α) (k : Int) (x : α), endD nx k (l ++ [x]) = nx (endD nx k l) x
  | [], _, _ => rfl
  | y :: l, k, x => by simp only [List.cons_append, endD, endD_snoc nx l]
theorem take_snoc {α : Type} {l : List α} {i : Nat} {x : α} (h : l[i]? = some x) : l.take (i + 1) = l.take i ++ [x] := by rw [List.take_add_one, h]; rfl
theorem mkD_step {α : Type} {mk : Int → α → α} {nx : Int → α → Int} {l : List α} {k K : Int} {i : Nat} {x : α} (h : l[i]? = some x) (hK : K = endD nx k (l.take i)) : mkD mk nx k (l.take (i + 1)) = mkD mk nx k (l.take i) ++ [mk K x] := by
  rw [take_snoc h, mkD_snoc, hK]
theorem endD_step {α : Type} {nx : Int → α → Int} {l : List α} {k K : Int} {i : Nat} {x : α} (h : l[i]? = some x) (hK : K = endD nx k (l.take i)) : nx K x = endD nx k (l.take (i + 1)) := by
  rw [take_snoc h, endD_snoc, hK]
theorem mkD_get {α : Type} (mk : Int → α → α) (nx : Int → α → Int) : ∀ (l : List α) (k : Int) (i : Nat) (x : α), (mkD mk nx k l)[i]? = some x → ∃ y, l[i]? = some y ∧ x = mk (endD nx k (l.take i)) y
  | [], _, _, _, h => by simp [mkD] at h
  | y :: l, k, 0, x, h => by simp [mkD] at h; exact ⟨y, rfl, h.symm⟩
  | y :: l, k, i + 1, x, h => by
    simp only [mkD, List.getElem?_cons_succ] at h
    obtain ⟨z, h1, h2⟩ := mkD_get mk nx l _ i x h
    exact ⟨z, by simpa using h1, by simpa [endD] using h2⟩
theorem endD_bd {α : Type} {nx : Int → α → Int} (M : Int) (h0 : 0 ≤ M) : ∀ {l : List α} {k : Int}, (∀ x ∈ l, ∀ k, k ≤ nx k x ∧ nx k x ≤ k + M) → k ≤ endD nx k l ∧ endD nx k l ≤ k + M * (l.length : Int)
  | [], k, _ => by simp [endD]
  | x :: l, k, h => by
    have h1 := h x (by simp) k
    have h2 := endD_bd M h0 (l := l) (k := nx k x) fun y hy => h y (by simp [hy])
    have h3 : M * ((x :: l).length : Int) = M * (l.length : Int) + M := by rw [List.length_cons, Int.natCast_add, Int.mul_add]; simp
    simp only [endD]
    rw [h3]
    omega
theorem endD_le {α : Type} {nx : Int → α → Int} (M : Int) (h0 : 0 ≤ M) {l : List α} {k : Int} {i N : Nat} (hl : l.length ≤ N) (h : ∀ x ∈ l, ∀ k, k ≤ nx k x ∧ nx k x ≤ k + M) : k ≤ endD nx k (l.take i) ∧ endD nx k (l.take i) ≤ k + M * (N : Int) := by
  have h1 := endD_bd M h0 (l := l.take i) (k := k) fun x hx => h x (List.mem_of_mem_take hx)
  have h2 : M * ((l.take i).length : Int) ≤ M * (N : Int) := Int.mul_le_mul_of_nonneg_left (by simp only [List.length_take]; omega) h0
  omega
theorem endD_all {α : Type} {nx : Int → α → Int} (M : Int) (h0 : 0 ≤ M) {l : List α} {k : Int} {N : Nat} (hl : l.length ≤ N) (h : ∀ x ∈ l, ∀ k, k ≤ nx k x ∧ nx k x ≤ k + M) : k ≤ endD nx k l ∧ endD nx k l ≤ k + M * (N : Int) := by
  have h1 := endD_le M h0 (i := l.length) hl h (k := k)
  rwa [List.take_length] at h1
theorem nx_bd {α : Type} {c : Int} (h0 : 0 ≤ c) (x : α) (k : Int) : k ≤ nx c k x ∧ nx c k x ≤ k + c := by unfold nx; omega
theorem endP {α : Type} (c : Int) (h0 : 0 ≤ c) {l : List α} {k : Int} {N : Nat} (hl : l.length ≤ N) : k ≤ endD (nx c) k l ∧ endD (nx c) k l ≤ k + c * (N : Int) := endD_all c h0 hl fun x _ k => nx_bd h0 x k
def kS1 (k : Int) (s : Stream) : Int := endD (nx 1) (k + 5) s.send.ring.cells
def kS2 (k : Int) (s : Stream) : Int := endD (nx 2) (kS1 k s) s.send.pending
def kS3 (k : Int) (s : Stream) : Int := endD (nx 2) (kS2 k s) s.send.flight
def kS4 (k : Int) (s : Stream) : Int := endD (nx 2) (kS3 k s) s.send.acked
def kS5 (k : Int) (s : Stream) : Int := endD (nx 2) (kS4 k s + 10) s.recv.buffer.chunks
def kS6 (k : Int) (s : Stream) : Int := kS5 k s + 19
def mkStream (k : Int) (s : Stream) : Stream :=
  ⟨k, ⟨k + 1, ⟨k + 2, k + 3, k + 4, mkD mkInt (nx 1) (k + 5) s.send.ring.cells⟩, mkD mkRange (nx 2) (kS1 k s) s.send.pending, mkD mkRange (nx 2) (kS2 k s) s.send.flight, mkD mkRange (nx 2) (kS3 k s) s.send.acked,
      kS4 k s, kS4 k s + 1, kS4 k s + 2, kS4 k s + 3⟩,
    ⟨kS4 k s + 4, kS4 k s + 5, kS4 k s + 6, kS4 k s + 7⟩, ⟨kS4 k s + 8, ⟨kS4 k s + 9, mkD mkChunk (nx 2) (kS4 k s + 10) s.recv.buffer.chunks⟩, kS5 k s, kS5 k s + 1, kS5 k s + 2⟩,
    ⟨kS5 k s + 3, kS5 k s + 4, kS5 k s + 5, kS5 k s + 6, kS5 k s + 7, kS5 k s + 8⟩, ⟨kS5 k s + 9, m3 (kS5 k s + 10)⟩,
    m3 (kS5 k s + 11), m3 (kS5 k s + 12), m3 (kS5 k s + 13), m3 (kS5 k s + 14), m3 (kS5 k s + 15), m3 (kS5 k s + 16), kS5 k s + 17, m3 (kS5 k s + 18)⟩
def kP (k : Int) (p : Packet) : Int := endD (nx 9) (k + 1) p.frames
def mkPacket (k : Int) (p : Packet) : Packet := ⟨k, mkD mkFrame (nx 9) (k + 1) p.frames⟩
theorem kS_bd {s : Stream} (hl : s.le 1048576) (k : Int) : (k + 5 ≤ kS1 k s ∧ kS1 k s ≤ kS2 k s ∧ kS2 k s ≤ kS3 k s ∧ kS3 k s ≤ kS4 k s ∧ kS4 k s + 10 ≤ kS5 k s) ∧ kS5 k s ≤ k + 9437199 := by
  obtain ⟨h1, h2, h3, h4, h5, _⟩ := hl
  have a1 := endP 1 (by decide) h1 (k := k + 5); have a2 := endP 2 (by decide) h2 (k := kS1 k s); have a3 := endP 2 (by decide) h3 (k := kS2 k s); have a4 := endP 2 (by decide) h4 (k := kS3 k s); have a5 := endP 2 (by decide) h5 (k := kS4 k s + 10)
  have e1 : kS1 k s = endD (nx 1) (k + 5) s.send.ring.cells := rfl
  have e2 : kS2 k s = endD (nx 2) (kS1 k s) s.send.pending := rfl
  have e3 : kS3 k s = endD (nx 2) (kS2 k s) s.send.flight := rfl
  have e4 : kS4 k s = endD (nx 2) (kS3 k s) s.send.acked := rfl
  have e5 : kS5 k s = endD (nx 2) (kS4 k s + 10) s.recv.buffer.chunks := rfl
  omega
theorem kS6_bd {s : Stream} (hl : s.le 1048576) (k : Int) : k ≤ kS6 k s ∧ kS6 k s ≤ k + 9437218 := by
  have := kS_bd hl k
  unfold kS6; omega
theorem kP_bd {p : Packet} (hl : p.le 1048576) (k : Int) : k ≤ kP k p ∧ kP k p ≤ k + 9437185 := by
  have a1 := endP 9 (by decide) hl.1 (k := k + 1)
  have e1 : kP k p = endD (nx 9) (k + 1) p.frames := rfl
  omega
theorem mkStream_le {s : Stream} (k : Int) : (mkStream k s).send.ring.cells.length = s.send.ring.cells.length ∧ (mkStream k s).send.pending.length = s.send.pending.length ∧ (mkStream k s).send.flight.length = s.send.flight.length ∧ (mkStream k s).send.acked.length = s.send.acked.length ∧ (mkStream k s).recv.buffer.chunks.length = s.recv.buffer.chunks.length :=
  ⟨mkD_len _ _ _ _, mkD_len _ _ _ _, mkD_len _ _ _ _, mkD_len _ _ _ _, mkD_len _ _ _ _⟩
theorem find_from : ∀ (l : List Stream) (id : Int) (i : Nat), findFrom id i l = -1 ∨ ∃ n s, findFrom id i l = ((i + n : Nat) : Int) ∧ l[n]? = some s
  | [], _, _ => .inl rfl
  | x :: l, id, i => by
    unfold findFrom
    cases h : x.id == id with
    | true => exact .inr ⟨0, x, rfl, rfl⟩
    | false =>
      rw [cond_false]
      rcases find_from l id (i + 1) with h1 | ⟨n, s, h1, h2⟩
      · exact .inl h1
      · have e : i + 1 + n = i + (n + 1) := by omega
        exact .inr ⟨n + 1, s, by rw [h1, e], by rw [List.getElem?_cons_succ]; exact h2⟩
theorem find_cases (l : List Stream) (id : Int) : findStream l id = -1 ∨ ∃ (n : Nat) (s : Stream), findStream l id = (n : Int) ∧ l[n]? = some s := by
  rcases find_from l id 0 with h | ⟨n, s, h1, h2⟩
  · exact .inl h
  · exact .inr ⟨n, s, by rw [Nat.zero_add] at h1; exact h1, h2⟩
theorem find_neg {l : List Stream} {id : Int} (h : findStream l id = -1) : decide (findStream l id < 0) = true := by rw [h]; rfl
theorem find_pos {l : List Stream} {id : Int} {n : Nat} (h : findStream l id = (n : Int)) : decide (findStream l id < 0) = false := by rw [h]; simp
/-! ### text -/
theorem mgo_len : ∀ (f : Nat) (k : Int) (out : List UInt8), (mgo f k out).length ≤ out.length + f
  | 0, _, _ => Nat.le_refl _
  | f + 1, k, out => by
    unfold mgo
    cases decide (0 < k) with
    | true => have := mgo_len f (Int.tdiv k 10) (UInt8.ofNat (48 + Int.tmod k 10).toNat :: out); simp only [List.length_cons] at this; rw [cond_true]; omega
    | false => rw [cond_false]; omega
theorem mgo_stop {f : Nat} {k : Int} {out : List UInt8} (h : decide (0 < k) = false) : mgo f k out = out := by
  cases f with
  | zero => rfl
  | succ f => unfold mgo; rw [h]; rfl
theorem mgo_go {f : Nat} {k : Int} {out : List UInt8} (h : decide (0 < k) = true) : mgo (f + 1) k out = mgo f (Int.tdiv k 10) (UInt8.ofNat (48 + Int.tmod k 10).toNat :: out) := by
  show (bif decide (0 < k) then _ else _) = _
  rw [h]; rfl
theorem pos_fuel {f : Nat} {k : Int} (h : decide (0 < k) = true) (hk : k < 10 ^ f) : ∃ g, f = g + 1 := by
  cases f with
  | zero => simp at h hk; omega
  | succ f => exact ⟨f, rfl⟩
theorem quo_fuel {f : Nat} {k : Int} (h0 : 0 ≤ k) (hk : k < 10 ^ (f + 1)) : (0 ≤ Int.tdiv k 10 ∧ Int.tdiv k 10 < 10 ^ f) ∧ Int.tdiv k 10 ≤ k := by
  rw [Int.tdiv_eq_ediv_of_nonneg h0]
  rw [Int.pow_succ] at hk
  omega
theorem pow_up : ∀ {f n : Nat}, f ≤ n → (10 : Int) ^ f ≤ 10 ^ n := fun {f n} h => by
  induction n with
  | zero => have : f = 0 := by omega
            subst this; exact Int.le_refl _
  | succ n ih =>
    by_cases h1 : f = n + 1
    · subst h1; exact Int.le_refl _
    · have h2 := ih (by omega)
      have h3 : (0 : Int) ≤ 10 ^ n := Int.pow_nonneg (by decide)
      rw [Int.pow_succ]; omega
theorem quo_in {k : Int} (h0 : 0 ≤ k) (hk : k < 10 ^ 19) : IntKind.i64.wrap (Int.tdiv k 10) = Int.tdiv k 10 := by
  rw [Int.tdiv_eq_ediv_of_nonneg h0]
  exact w64_in (by omega) (by omega)
theorem dig_ok {k : Int} (h0 : 0 ≤ k) : IntKind.u8.wrap (IntKind.i64.wrap (48 + Int.tmod k 10)) = ((UInt8.ofNat (48 + Int.tmod k 10).toNat).toNat : Int) := by
  rw [Int.tmod_eq_emod_of_nonneg h0]
  have h1 : 0 ≤ k % 10 := Int.emod_nonneg _ (by decide)
  have h2 : k % 10 < 10 := Int.emod_lt_of_pos _ (by decide)
  rw [w64_in (by omega) (by omega)]
  have h3 : IntKind.u8.wrap (48 + k % 10) = 48 + k % 10 := by
    simp [IntKind.wrap, IntKind.signed, IntKind.bits]; omega
  rw [h3]
  simp; omega
theorem mtext_len (k : Int) : (mtext k).length ≤ 20 := by
  unfold mtext
  cases decide (k ≤ 0) with
  | true => simp
  | false => have := mgo_len 19 k []; simp at this ⊢; omega
end Go.Proofs.Ytbhnekiclbfmgaa
