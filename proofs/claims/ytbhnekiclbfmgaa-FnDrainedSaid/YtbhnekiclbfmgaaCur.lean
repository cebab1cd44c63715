/- The cursor off which a law draws its arguments: a block of the call's own, beside bytes that came in. -/
import Derived.Test.YtbhnekiclbfmgaaSlh
import Derived.Test.YtbhnekiclbfmgaaSls
import Derived.Test.YtbhnekiclbfmgaaElems
import Derived.Test.YtbhnekiclbfmgaaSlq
import Derived.Laws.Entries
namespace Go.Proofs.Ytbhnekiclbfmgaa
namespace SL
open Go.RowKit
def byC (u : UInt8) : List Value := [.int .u8 (u.toNat : Int)]
theorem eByt : Elem 1 (PlO byC) (Pl byC) := .plain (fun _ => rfl) (fun x u hu => by simp [byC] at hu; subst hu; rfl)
abbrev CurT : Nat := 0
abbrev cur (b : Nat) (A : Option Addr) (n c i : Nat) (h : Int) : Ck := ⟨b, CurT, [.slice A n c, .int .i64 (i : Int), .int .i64 h]⟩
def AtX (w : World) (b : Nat) (q : Addr) (cs : List Value) : Prop := At w q cs ∧ q.block ≠ b
/-- The bytes can be read, and do not lie in block b. -/
structure Rdb {α : Type} (f : α → List Value) (w : World) (A : Option Addr) (l : List α) (b : Nat) : Prop where
  rd : RdL w 1 (Pl f) A l
  ne : 0 < l.length → (adr A).block ≠ b
  len : l.length ≤ 134217728
section
variable {w0 w : World} {b : Nat} {H : List Ck} {A : Option Addr} {α : Type} {f : α → List Value} {l : List α} {q : Addr} {cs : List Value}
theorem At.satX {X : List Nat} (h : At w0 q cs) (hs : Sat w0 X w H) (hn : q.block ∉ X) : At w q cs := by
  refine ⟨Nat.lt_of_lt_of_le h.1 hs.size, fun j u hu => ?_⟩
  rw [← h.2 j u hu]
  exact World.cell?_of_block (w := w0) (by rw [block_add]; exact hs.keep q.block h.1 hn)
theorem AtX.sat (h : AtX w0 b q cs) (hs : Sat w0 [b] w H) : At w q cs := h.1.satX hs (by simpa using h.2)
theorem AtX.ld (h : AtX w0 b q cs) (hs : Sat w0 [b] w H) {j : Nat} {u : Value} (hj : cs[j]? = Option.some u) : w.cell? (q.add j) = Option.some u := (h.sat hs).2 j u hj
theorem AtX.ld0 (h : AtX w0 b q cs) (hs : Sat w0 [b] w H) {u : Value} (hj : cs[0]? = Option.some u) : w.cell? q = Option.some u := by
  have := h.ld hs hj; rwa [add_zero] at this
theorem Rdb.plain (h : Rdb f w A l b) {i : Nat} {x : α} (hx : l[i]? = Option.some x) : AtX w b ((adr A).add (i * 1)) (f x) :=
  ⟨h.rd.plain hx, by rw [block_add]; exact h.ne (by have := (List.getElem?_eq_some_iff.1 hx).1; omega)⟩
theorem Rdb.some (h : Rdb f w A l b) {i : Nat} (hi : i < l.length) : A = Option.some (adr A) := h.rd.some hi
theorem Rdb.sat (h : Rdb f w0 A l b) (hs : Sat w0 [b] w H) : Rdb f w A l b := by
  refine ⟨⟨h.rd.1, fun i x hx => ?_⟩, h.ne, h.len⟩
  obtain ⟨cs, h1, h2⟩ := h.rd.2 i x hx
  exact ⟨cs, h1, h2.satX hs (by rw [block_add]; simpa using h.ne (by have := (List.getElem?_eq_some_iff.1 hx).1; omega))⟩
theorem Rdb.own {c : Ck} (h : RdL w0 1 (Pl f) A l) (hl : l.length ≤ 134217728) (hs : Sat w0 [] w H) (hm : c ∈ H) : Rdb f w A l c.b := by
  refine ⟨h.sat Pl.keeps hs, fun h0 e => ?_, hl⟩
  obtain ⟨x, hx⟩ := get_of_lt h0
  have h1 := (h.plain hx).1
  rw [block_add] at h1
  rcases hs.own c hm with h2 | h2
  · cases h2
  · omega
/-- A literal of the call's own, handed on beside the cursor. -/
theorem lit_rdb {X : List Nat} {B F R ch : List Ck} {c : Ck} {E : Nat} {v : Value} (e : Elem 1 (PlO f) (Pl f)) (h : OwA E 1 (PlO f) v l ch) (hl : l.length ≤ 134217728) (hs : Sat w0 X w (B ++ F)) (hp : F.Perm ([c] ++ (ch ++ R))) :
    ∃ A cp, v = .slice A l.length cp ∧ Rdb f w A l c.b := by
  have hs2 : Sat w0 X w ([c] ++ (ch ++ R)) := (hs.weaken (List.sublist_append_right B F)).perm hp
  have hin : ∀ x ∈ ch, x.In w := fun x hx => hs2.at_ x (by simp [hx])
  obtain ⟨A, cp, hv, hrd⟩ := OwG.rd e h hin
  refine ⟨A, cp, hv, hrd, fun h0 => ?_, hl⟩
  rcases h with ⟨A', _, rfl, _⟩ | ⟨g, cap, cs, rest, chs, hv', _, rfl, _⟩
  · simp at h0
  · rw [hv] at hv'
    cases hv'
    have hnd := hs2.nd
    simp only [List.cons_append, List.nil_append, List.map_cons, List.nodup_cons, List.mem_cons] at hnd
    exact fun h => hnd.1 (.inl h.symm)
end
/-- What a draw hands back: a value, and the cursor, moved on; G: what else it was handed. -/
def Drew {α : Type} (f : α → Value) (Q : α → Prop) (b : Nat) (A : Option Addr) (n c : Nat) (G : List Ck) (v : Value) (H : List Ck) : Prop :=
  ∃ (x : α) (i : Nat) (h : Int), v = f x ∧ Q x ∧ i ≤ n ∧ H = cur b A n c i h :: G
abbrev natV (k : Nat) : Value := .int .i64 (k : Int)
section
variable {b n c i : Nat} {A : Option Addr} {h X : Int} {G : List Ck}
theorem and_val (X : Int) : ∃ k : Nat, bits .and .i64 X 255 = (k : Int) ∧ k ≤ 255 := by
  have h1 : bits .and .i64 X 255 = IntKind.i64.wrap ((BitVec.ofInt 64 X &&& BitVec.ofInt 64 255).toNat : Int) := rfl
  have h2 : (BitVec.ofInt 64 X &&& BitVec.ofInt 64 255).toNat ≤ 255 := by
    rw [BitVec.toNat_and]
    exact Nat.le_trans Nat.and_le_right (by decide)
  exact ⟨_, h1.trans (w64_of (by omega) (by omega)), h2⟩
theorem drew_byte (hi : i ≤ n) : Drew natV (· ≤ 255) b A n c [] (.int .i64 (bits .and .i64 X 255)) [cur b A n c i h] := by
  obtain ⟨k, e, hk⟩ := and_val X
  exact ⟨k, i, h, by rw [e], hk, hi, rfl⟩
theorem drew_byte1 (hi : i < n) (hn : n ≤ 134217728) : Drew natV (· ≤ 255) b A n c [] (.int .i64 (bits .and .i64 X 255)) [⟨b, CurT, [.slice A n c, .int .i64 (IntKind.i64.wrap ((i : Int) + 1)), .int .i64 h]⟩] := by
  rw [succ_of (by omega)]
  exact drew_byte (i := i + 1) (by omega)
theorem drew_below {x m : Nat} (hm : 0 < m) (hi : i ≤ n) : Drew natV (· < m) b A n c [] (.int .i64 ((x : Int).tmod (m : Int))) [cur b A n c i h] :=
  ⟨x % m, i, h, by rw [← Int.ofNat_tmod], Nat.mod_lt _ hm, hi, rfl⟩
end
section
variable {C : Cx} {k : List Item} {env : Env} {B F : List Ck} {ops : Array Oper} {rest : List Oper}
variable {K : Env → List Ck → Act → World → Prop} {d : Nat} {ty : TypeId} {pos : String} {af : Array Edge} {x y z : Operand} {T yt : TypeId}
theorem rw_xor {IK : IntKind} {p q : Int} {t : TypeId} (hd : Nat.blt d C.n = true) (hx : ev env x = some (.int IK p)) (hy : ev env y = some (.int IK q)) (h : RW C ops rest K ((d, .int IK (bits .xor IK p q)) :: env) B F) :
    RW C ops (⟨some d, .binOp .xor t x y yt, ty, pos, af, none⟩ :: rest) K env B F := rw_bin hd hx hy (fun w => by simp [eqGuard, binOp, intBits_xor]) h
theorem rw_shr {yk : IntKind} {p q : Int} {t : TypeId} (hd : Nat.blt d C.n = true) (hx : ev env x = some (.int .i64 p)) (hy : ev env y = some (.int yk q)) (h0 : 0 ≤ q) (h1 : q ≤ 64) (h : RW C ops rest K ((d, .int .i64 (p / 2 ^ q.toNat)) :: env) B F) :
    RW C ops (⟨some d, .binOp .shr t x y yt, ty, pos, af, none⟩ :: rest) K env B F := rw_bin hd hx hy (fun w => by simp [eqGuard, binOp, shift_shr_i64 (h₀ := h0) (h₁ := h1)]) h
theorem ret_chB {fn : Func} {w : World} {n : Nat} {f : FuncId} {P : Program} {u : Value} {X : List Nat} {post : Value → List Ck → Prop} (hfn : P.funcs[f]? = some fn)
    (hv : Res ⟨P, f, n, w, X, fun e w' => ∃ v G', e = .returned v ∧ post v G' ∧ Sat w X w' G'⟩ env (B ++ F) u) (hp : post u B) :
    GW ⟨P, f, n, w, X, fun e w' => ∃ v G', e = .returned v ∧ post v G' ∧ Sat w X w' G'⟩ (.code .ret :: k) env B F := ret_ch B hfn hv hp (List.sublist_append_left B F)
theorem ret_chBE {fn : Func} {w : World} {n : Nat} {f : FuncId} {P : Program} {u : Value} {X : List Nat} {post : Value → List Ck → Prop} (hfn : P.funcs[f]? = some fn)
    (hv : Res ⟨P, f, n, w, X, fun e w' => ∃ v G', e = .returned v ∧ post v G' ∧ Sat w X w' G'⟩ env (B ++ F) u) (hp : post u B) :
    GW ⟨P, f, n, w, X, fun e w' => ∃ v G', e = .returned v ∧ post v G' ∧ Sat w X w' G'⟩ [] env B F := ret_chE B hfn hv hp (List.sublist_append_left B F)
theorem ret_cnB {fn : Func} {w : World} {n : Nat} {f : FuncId} {P : Program} {u : Value} {post : Value → List Ck → Prop} (hfn : P.funcs[f]? = some fn)
    (hv : Res ⟨P, f, n, w, [], fun e w' => ∃ v ch, e = .returned v ∧ post v ch ∧ Sat w [] w' ch⟩ env (B ++ F) u) (hp : post u B) :
    GW ⟨P, f, n, w, [], fun e w' => ∃ v ch, e = .returned v ∧ post v ch ∧ Sat w [] w' ch⟩ (.code .ret :: k) env B F := ret_cn B hfn hv hp (List.sublist_append_left B F)
theorem int_pred {n : Nat} (h : 0 < n) (hn : n ≤ 134217728) : Value.int .i64 (IntKind.i64.wrap ((n : Int) - 1)) = .int .i64 ((n - 1 : Nat) : Int) := by rw [lenpred_of h hn]
theorem rw_eqlQT {ks : List Nat} {xs ys : List Value} (hd : Nat.blt d C.n = true) (hT : TyQ C.P T ks) (hx : ev env x = some (.agg xs.toArray)) (hy : ev env y = some (.agg ys.toArray)) (hkx : xs.map kd = ks) (hky : ys.map kd = ks) (he : eqC xs ys = true)
    (h : RW C ops rest K ((d, .bool true) :: env) B F) : RW C ops (⟨some d, .binOp .eql T x y yt, ty, pos, af, none⟩ :: rest) K env B F := rw_eqlQ hd hT hx hy hkx hky (by rw [he]; exact h)
theorem rw_neqQF {ks : List Nat} {xs ys : List Value} (hd : Nat.blt d C.n = true) (hT : TyQ C.P T ks) (hx : ev env x = some (.agg xs.toArray)) (hy : ev env y = some (.agg ys.toArray)) (hkx : xs.map kd = ks) (hky : ys.map kd = ks) (he : eqC xs ys = true)
    (h : RW C ops rest K ((d, .bool false) :: env) B F) : RW C ops (⟨some d, .binOp .neq T x y yt, ty, pos, af, none⟩ :: rest) K env B F := rw_neqQ hd hT hx hy hkx hky (by rw [he]; exact h)
/-- A slice literal, owned. -/
theorem rw_sliceO {α : Type} {f : α → List Value} {E kk bytes n : Nat} {zs : List Value} {xs : List (Nat × Operand)} {vs : List Value} (L : List α) (cs : List Value) (hd : Nat.blt d C.n = true) (hT : TyM C.P T E kk bytes zs) (hx : evs env (xs.map (·.2)) = some vs)
    (hf : fillL (fun i => some (i * kk, kk)) (List.replicate n zs).flatten ((xs.map (·.1)).zip vs) = some cs) (hn : Nat.blt 0 n = true) (hsm : Nat.ble (n * kk) 16777216 = true) (hL : cs = L.flatMap f) (hlen : n = L.length) (hk : cs.length = n * kk)
    (h : ∀ v ch, OwA E kk (PlO f) v L ch → RW C ops rest K ((d, v) :: env) B (ch ++ F)) :
    RW C ops (⟨some d, .buildSlice T n xs.toArray, ty, pos, af, none⟩ :: rest) K env B F := by
  refine rw_slice cs hd hT hx hf hn hsm fun b => ?_
  have hsm' : n * kk ≤ 16777216 := by simpa using hsm
  have hpos : 0 < kk := by simpa using hT.pos
  have hnk : n ≤ n * kk := Nat.le_mul_of_pos_right n hpos
  refine rw_perm (B' := B) (F' := [⟨b, E, cs⟩] ++ F) ?_ (h _ [⟨b, E, cs⟩] ?_)
  · exact (List.perm_middle (l₁ := B) (l₂ := F) (a := ⟨b, E, cs⟩)).symm
  refine .inr ⟨b, n, L.flatMap f, [], [], by simp [hlen], Ows.plain L, by rw [List.append_nil, List.nil_append, hL], by omega, by simp only [maxLen]; omega, ?_⟩
  rw [List.append_nil, ← hL]; exact hk
end
end SL
end Go.Proofs.Ytbhnekiclbfmgaa
