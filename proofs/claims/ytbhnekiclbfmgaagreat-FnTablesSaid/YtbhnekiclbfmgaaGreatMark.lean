/- Marks: what a law writes into all memory that a value reaches, and reads again. No program in sight. -/
import Derived.Test.YtbhnekiclbfmgaaGreatSlh
import Derived.Test.YtbhnekiclbfmgaaGreatSls
import Derived.Test.YtbhnekiclbfmgaaGreatDeep
import Derived.Test.YtbhnekiclbfmgaaGreatValS
namespace Go.Proofs.YtbhnekiclbfmgaaGreat
namespace SL
open Go.RowKit
section
variable {C : Cx} {k : List Item} {env : Env} {B F : List Ck} {ops : Array Oper} {rest : List Oper}
variable {K : Env → List Ck → Act → World → Prop} {d : Nat} {ty : TypeId} {pos : String} {af : Array Edge} {x y z : Operand} {T yt : TypeId}
theorem mid_get {a m b : List Value} {off : Nat} {v : Value} (h : m[off]? = some v) : (a ++ (m ++ b))[a.length + off]? = some v := by
  rw [List.getElem?_append_right (by omega), show a.length + off - a.length = off by omega, List.getElem?_append_left (List.getElem?_eq_some_iff.1 h).1, h]
theorem rw_addK {IK : IntKind} {p q : Int} (r : Int) (hd : Nat.blt d C.n = true) (hx : ev env x = some (.int IK p)) (hy : ev env y = some (.int IK q)) (hr : IK.wrap (p + q) = r) (h : RW C ops rest K ((d, .int IK r) :: env) B F) {t : TypeId} :
    RW C ops (⟨some d, .binOp .add t x y yt, ty, pos, af, none⟩ :: rest) K env B F := rw_add hd hx hy (by rw [hr]; exact h)
theorem rw_convIe {src dst : Nat} {IK k' : IntKind} {n : Int} (r : Int) (hd : Nat.blt d C.n = true) (hT : TyCI C.P src dst k') (hx : ev env x = some (.int IK n)) (hr : k'.wrap n = r) (h : RW C ops rest K ((d, .int k' r) :: env) B F) :
    RW C ops (⟨some d, .convert src dst x, ty, pos, af, none⟩ :: rest) K env B F := rw_convI hd hT hx (by rw [hr]; exact h)
theorem rw_quoe {IK : IntKind} {p q : Int} (r : Int) (hd : Nat.blt d C.n = true) (hx : ev env x = some (.int IK p)) (hy : ev env y = some (.int IK q)) (hq : q ≠ 0) (hr : IK.wrap (p.tdiv q) = r) (h : RW C ops rest K ((d, .int IK r) :: env) B F) {t : TypeId} :
    RW C ops (⟨some d, .binOp .quo t x y yt, ty, pos, af, none⟩ :: rest) K env B F := rw_quo hd hx hy hq (by rw [hr]; exact h)
theorem rw_slice0D {α : Type} {E kk bytes : Nat} {zs : List Value} (hd : Nat.blt d C.n = true) (hT : TyM C.P T E kk bytes zs) (O : List Value → α → List Ck → Prop) (h : ∀ v ch, (OwA E kk O v ([] : List α) [] ∧ ch = []) → RW C ops rest K ((d, v) :: env) B (ch ++ F)) :
    RW C ops (⟨some d, .buildSlice T 0 #[], ty, pos, af, none⟩ :: rest) K env B F := rw_slice0 hd hT O fun v hv => h v [] ⟨hv, rfl⟩
/-- A slice literal of one element, its block beside one's own. -/
theorem rw_slice1F {E kk bytes : Nat} {zs : List Value} {xs : List (Nat × Operand)} {vs : List Value} (cs : List Value) (hd : Nat.blt d C.n = true) (hT : TyM C.P T E kk bytes zs) (hx : evs env (xs.map (·.2)) = some vs)
    (hf : fillL (fun i => some (i * kk, kk)) (List.replicate 1 zs).flatten ((xs.map (·.1)).zip vs) = some cs) (hsm : Nat.ble (1 * kk) 16777216 = true)
    (h : ∀ v ch, (∃ b, v = .slice (some ⟨b, 0, none⟩) 1 1 ∧ ch = [⟨b, E, cs⟩]) → RW C ops rest K ((d, v) :: env) B (ch ++ F)) :
    RW C ops (⟨some d, .buildSlice T 1 xs.toArray, ty, pos, af, none⟩ :: rest) K env B F :=
  rw_slice cs hd hT hx hf rfl hsm fun b => rw_perm (B' := B) (F' := ([⟨b, E, cs⟩] : List Ck) ++ F) (List.perm_middle (l₁ := B) (l₂ := F) (a := (⟨b, E, cs⟩ : Ck))).symm (h _ [⟨b, E, cs⟩] ⟨b, rfl, rfl⟩)
theorem mem_ch {c : Ck} {ch H : List Ck} (h : ch = [c]) (hs : ∀ c ∈ ch, c ∈ H) : c ∈ H := hs c (by rw [h]; simp)
theorem rw_append1F {α : Type} {E kk bytes : Nat} {zs : List Value} {O : List Value → α → List Ck → Prop} {R : World → List Value → α → Prop} {v : Value} {l : List α} {ch ch2 F2 : List Ck} {b : Nat} {cs : List Value} {a : α} (hd : Nat.blt d C.n = true) (hT : TyM C.P T E kk bytes zs) (e : Elem kk O R) (hx : ev env x = some v) (hy : ev env y = some (.slice (some ⟨b, 0, none⟩) 1 1))
    (hB : (⟨b, E, cs⟩ : Ck) ∈ F) (hv : OwA E kk O v l ch) (hn : O cs a ch2) (hF : F.Perm (ch ++ (ch2 ++ F2)))
    (hb : l.length + 1 ≤ 134217728) (h : ∀ v' ch', OwA E kk O v' (l ++ [a]) ch' → RW C ops rest K ((d, v') :: env) B (ch' ++ F2)) :
    RW C ops (⟨some d, .call ⟨.builtin .append, #[x, y], #[T, T]⟩, ty, pos, af, none⟩ :: rest) K env B F :=
  rw_appendG hd hT e hx hy (l2 := [a]) rfl hv (Ows.one hn) (fun w hs _ => ⟨_, rfl, by
    have h1 : (⟨b, E, [] ++ (cs ++ [])⟩ : Ck).In w := by simpa using hs.at_ _ (List.mem_append_right B hB)
    exact at_of_block h1⟩) hF hb h
end
/-- The number behind another one, where there is room. -/
theorem w64_in {n : Int} (h1 : -9223372036854775808 ≤ n) (h2 : n ≤ 9223372036854775807) : IntKind.i64.wrap n = n := w64_of h1 h2
section
variable {α : Type} {k : Nat} {O : List Value → α → List Ck → Prop} {R : World → List Value → α → Prop}
theorem Ows.uncons {x : α} {l : List α} {cells : List Value} {chs : List Ck} (h : Ows O (x :: l) cells chs) : ∃ cs cR c hR, cells = cs ++ cR ∧ chs = c ++ hR ∧ O cs x c ∧ Ows O l cR hR := by
  cases h with
  | cons h1 h2 => exact ⟨_, _, _, _, rfl, rfl, h1, h2⟩
theorem Ows.snoc {x : α} {l : List α} {cells cs : List Value} {chs c : List Ck} (h : Ows O l cells chs) (h1 : O cs x c) : Ows O (l ++ [x]) (cells ++ cs) (chs ++ c) := h.append (Ows.one h1)
theorem Ows.nil_inv {cells : List Value} {chs : List Ck} (h : Ows O [] cells chs) : cells = [] ∧ chs = [] := by
  cases h; exact ⟨rfl, rfl⟩
theorem OwS.openG {E n c : Nat} {A : Option Addr} {l : List α} {ch : List Ck} (h : OwS E k O (.slice A n c) l ch) :
    (n = 0 ∧ c = 0 ∧ l = [] ∧ ch = []) ∨ ∃ g pre rs cells chs, A = some ⟨g, pre.length, none⟩ ∧ n = l.length ∧ Ows O l cells chs ∧ ch = ⟨g, E, pre ++ (cells ++ rs)⟩ :: chs ∧ l.length ≤ c ∧ c ≤ maxLen ∧ (cells ++ rs).length = c * k := by
  obtain ⟨pre, h⟩ := h
  rcases h with ⟨A', h1, rfl, rfl⟩ | ⟨g, cap, cs, rest, chs, h1, h2, rfl, h3, h4, h5⟩
  · cases h1; exact .inl ⟨rfl, rfl, rfl, rfl⟩
  · cases h1; exact .inr ⟨g, pre, rest, cs, chs, rfl, rfl, h2, rfl, h3, h4, h5⟩
theorem OwS.closeG {E n c g : Nat} {pre rs cD : List Value} {m : List α} {hD : List Ck} (h : Ows O m cD hD) (hn : m.length = n) (h1 : n ≤ c) (h2 : c ≤ maxLen) (h3 : (cD ++ rs).length = c * k) :
    OwS E k O (.slice (some ⟨g, pre.length, none⟩) n c) m (⟨g, E, pre ++ (cD ++ rs)⟩ :: hD) := by
  subst hn
  exact ⟨pre, .inr ⟨g, c, cD, rs, hD, rfl, h, rfl, h1, h2, h3⟩⟩
theorem ch_ofBF {P : Program} {f : FuncId} {fn : Func} {c : Code} {vs : List Value} {w : World} {n : Nat} {b : Ck} {G : List Ck} {post : Value → List Ck → Prop} (hin : ∀ c ∈ b :: G, c.In w) (hnd : ((b :: G).map Ck.b).Nodup)
    (hf : P.funcs[f]? = some fn) (hb : fn.body = some c) (hn : fn.ntmps = n) (hle : Nat.ble vs.length n = true)
    (h : GW ⟨P, f, n, w, (b :: G).map Ck.b, fun e w' => ∃ v G', e = .returned v ∧ post v G' ∧ Sat w ((b :: G).map Ck.b) w' G'⟩ [.code c] (argEnv 0 vs) [b] (G ++ [])) : CH P f vs w (b :: G) post :=
  calls_of hf hb hn hle (by simpa using Sat.initG hin hnd) h
end
end SL
open SL Go.RowKit
/-! ### what is written -/
def m3 (k : Int) : Bool := Int.tmod k 3 == 0
theorem take_snoc {α : Type} {l : List α} {i : Nat} {x : α} (h : l[i]? = some x) : l.take (i + 1) = l.take i ++ [x] := by rw [List.take_add_one, h]; rfl
theorem find_from : ∀ (l : List Stream) (id : Int) (i : Nat), findFrom id i l = -1 ∨ ∃ n s, findFrom id i l = ((i + n : Nat) : Int) ∧ l[n]? = some s
  | [], _, _ => .inl rfl
  | x :: l, id, i => by
    unfold findFrom
    cases h : x.id == id with
    | true => exact .inr ⟨0, x, rfl, rfl⟩
    | false =>
      rw [cond_false]
      rcases find_from l id (i + 1) with h1 | ⟨n, s, h1, h2⟩
      · exact .inl h1
      · have e : i + 1 + n = i + (n + 1) := by omega
        exact .inr ⟨n + 1, s, by rw [h1, e], by rw [List.getElem?_cons_succ]; exact h2⟩
theorem find_cases (l : List Stream) (id : Int) : findStream l id = -1 ∨ ∃ (n : Nat) (s : Stream), findStream l id = (n : Int) ∧ l[n]? = some s := by
  rcases find_from l id 0 with h | ⟨n, s, h1, h2⟩
  · exact .inl h
  · exact .inr ⟨n, s, by rw [Nat.zero_add] at h1; exact h1, h2⟩
theorem find_neg {l : List Stream} {id : Int} (h : findStream l id = -1) : decide (findStream l id < 0) = true := by rw [h]; rfl
theorem find_pos {l : List Stream} {id : Int} {n : Nat} (h : findStream l id = (n : Int)) : decide (findStream l id < 0) = false := by rw [h]; simp
/-! ### text -/
end Go.Proofs.YtbhnekiclbfmgaaGreat
