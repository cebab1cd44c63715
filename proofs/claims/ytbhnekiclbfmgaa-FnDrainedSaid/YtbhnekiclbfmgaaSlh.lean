/- Calls that are handed blocks which they may write; stores into elements. -/
import Derived.Test.YtbhnekiclbfmgaaSlg
namespace Go.Proofs.Ytbhnekiclbfmgaa
namespace SL
open Go.RowKit
/-- The call may write the blocks G; it hands back others in their place. -/
def CH (P : Program) (g : FuncId) (vs : List Value) (w : World) (G : List Ck) (post : Value → List Ck → Prop) : Prop :=
  Calls P g vs.toArray w fun e w' => ∃ v G', e = .returned v ∧ post v G' ∧ Sat w (G.map Ck.b) w' G'
theorem Sat.initG {w : World} {G : List Ck} (hin : ∀ c ∈ G, c.In w) (hnd : (G.map Ck.b).Nodup) : Sat w (G.map Ck.b) w G :=
  ⟨rfl, rfl, rfl, Nat.le_refl _, fun _ _ _ => rfl, hnd, fun c hc => .inl (List.mem_map.2 ⟨c, hc, rfl⟩), hin⟩
theorem CV.ch {P : Program} {g : FuncId} {vs : List Value} {w : World} {v : Value} {post : Value → List Ck → Prop} (h : CV P g vs w v) (hp : post v []) : CH P g vs w [] post :=
  Calls.mono h fun e w' ⟨he, hb⟩ => ⟨v, [], he, hp, ⟨hb.os, hb.tape, hb.output, hb.size, fun b hb' _ => hb.block b hb', by simp, by simp, by simp⟩⟩
theorem CH.mono {P : Program} {g : FuncId} {vs : List Value} {w : World} {G : List Ck} {post post' : Value → List Ck → Prop} (h : CH P g vs w G post) (hp : ∀ v ch, post v ch → post' v ch) : CH P g vs w G post' :=
  Calls.mono h fun _ _ ⟨v, G', he, h1, h2⟩ => ⟨v, G', he, hp _ _ h1, h2⟩
theorem At.ld2 {w0 w : World} {q : Addr} {cs : List Value} {H : List Ck} (h : At w0 q cs) (hs : Sat w0 [] w H) {i j : Nat} {u : Value} (hj : cs[i + j]? = some u) : w.cell? ((q.add i).add j) = some u := by
  rw [add_add]; exact h.ld hs hj
theorem At.cell2 {w : World} {q : Addr} {cs : List Value} (h : At w q cs) {i j : Nat} {u : Value} (hj : cs[i + j]? = some u) : w.cell? ((q.add i).add j) = some u := by
  rw [add_add]; exact h.2 _ _ hj
section
variable {C : Cx} {k : List Item} {env : Env} {B F : List Ck} {ops : Array Oper} {rest : List Oper}
variable {K : Env → List Ck → Act → World → Prop} {d : Nat} {ty : TypeId} {pos : String} {af : Array Edge} {x y z : Operand} {T yt : TypeId}
theorem rw_ch {g : FuncId} {xs : List Operand} {tys : Array TypeId} {vs : List Value} {G R : List Ck} {post : Value → List Ck → Prop} (hd : Nat.blt d C.n = true) (hg : Fun C.P g) (hx : evs env xs = some vs) (hp : F.Perm (G ++ R))
    (hc : ∀ w, Sat C.w0 C.X w (B ++ F) → (∀ c ∈ G, c.In w) → (G.map Ck.b).Nodup → CH C.P g vs w G post)
    (h : ∀ v G', post v G' → RW C ops rest K ((d, v) :: env) B (G' ++ R)) : RW C ops (⟨some d, .call ⟨.value (.func g), xs.toArray, tys⟩, ty, pos, af, none⟩ :: rest) K env B F := by
  refine rw_stepC (g := g) (args := vs.toArray) (fun v' B' F' => B' = B ∧ ∃ G', F' = G' ++ R ∧ post v' G') hd (fun ρ hρ w => ?_) (fun E w hs => ?_) (fun v' B' F' ⟨h1, ch, h2, h3⟩ => by subst h1 h2; exact h v' ch h3)
  · have := run_call (d := d) (ty := ty) (pos := pos) (af := af) (tys := tys) hg (cap := []) (evs_map hρ hx) (f := .func g) (hρ (.func g) _ rfl) w
    simpa using this
  · have hs2 : Sat C.w0 C.X w (G ++ (B ++ (R ++ E))) := hs.perm (by
      refine ((hp.append_right E).append_left B).trans ?_
      have h1 := (List.perm_append_comm (l₁ := B) (l₂ := G)).append_right (R ++ E)
      simpa [List.append_assoc] using h1)
    have hnd := hs2.nd
    rw [List.map_append, List.nodup_append] at hnd
    refine Calls.mono (hc w hs.noE (fun c hc => hs2.at_ c (List.mem_append_left _ hc)) hnd.1) fun e w' ⟨v, G', he, hpo, hs'⟩ => ⟨v, B, G' ++ R, he, ?_, rfl, G', rfl, hpo⟩
    refine (Sat.call hs2 hs').perm ?_
    have h1 := (List.perm_append_comm (l₁ := G') (l₂ := B)).append_right (R ++ E)
    simpa [List.append_assoc] using h1
theorem ch_of {P : Program} {f : FuncId} {fn : Func} {c : Code} {vs : List Value} {w : World} {n : Nat} {G : List Ck} {post : Value → List Ck → Prop} (hin : ∀ c ∈ G, c.In w) (hnd : (G.map Ck.b).Nodup)
    (hf : P.funcs[f]? = some fn) (hb : fn.body = some c) (hn : fn.ntmps = n) (hle : Nat.ble vs.length n = true)
    (h : GW ⟨P, f, n, w, G.map Ck.b, fun e w' => ∃ v G', e = .returned v ∧ post v G' ∧ Sat w (G.map Ck.b) w' G'⟩ [.code c] (argEnv 0 vs) [] (G ++ [])) : CH P f vs w G post :=
  calls_of hf hb hn hle (by simpa using Sat.initG hin hnd) h
theorem ch_ofB {P : Program} {f : FuncId} {fn : Func} {c : Code} {vs : List Value} {w : World} {n : Nat} {G : List Ck} {post : Value → List Ck → Prop} (hin : ∀ c ∈ G, c.In w) (hnd : (G.map Ck.b).Nodup)
    (hf : P.funcs[f]? = some fn) (hb : fn.body = some c) (hn : fn.ntmps = n) (hle : Nat.ble vs.length n = true)
    (h : GW ⟨P, f, n, w, G.map Ck.b, fun e w' => ∃ v G', e = .returned v ∧ post v G' ∧ Sat w (G.map Ck.b) w' G'⟩ [.code c] (argEnv 0 vs) G []) : CH P f vs w G post :=
  calls_of hf hb hn hle (by simpa using Sat.initG hin hnd) h
theorem ret_ch {fn : Func} {w : World} {n : Nat} {f : FuncId} {P : Program} {u : Value} {X : List Nat} {post : Value → List Ck → Prop} (G' : List Ck) (hfn : P.funcs[f]? = some fn)
    (hv : Res ⟨P, f, n, w, X, fun e w' => ∃ v G', e = .returned v ∧ post v G' ∧ Sat w X w' G'⟩ env (B ++ F) u) (hp : post u G') (hch : G'.Sublist (B ++ F)) :
    GW ⟨P, f, n, w, X, fun e w' => ∃ v G', e = .returned v ∧ post v G' ∧ Sat w X w' G'⟩ (.code .ret :: k) env B F :=
  gw_ret fn hfn hv fun _ hs => ⟨u, G', rfl, hp, hs.weaken hch⟩
theorem ret_chE {fn : Func} {w : World} {n : Nat} {f : FuncId} {P : Program} {u : Value} {X : List Nat} {post : Value → List Ck → Prop} (G' : List Ck) (hfn : P.funcs[f]? = some fn)
    (hv : Res ⟨P, f, n, w, X, fun e w' => ∃ v G', e = .returned v ∧ post v G' ∧ Sat w X w' G'⟩ env (B ++ F) u) (hp : post u G') (hch : G'.Sublist (B ++ F)) :
    GW ⟨P, f, n, w, X, fun e w' => ∃ v G', e = .returned v ∧ post v G' ∧ Sat w X w' G'⟩ [] env B F :=
  gw_end fn hfn hv fun _ hs => ⟨u, G', rfl, hp, hs.weaken hch⟩
theorem flat_rep {α : Type} {f : α → List Value} (a : α) : ∀ n : Nat, (List.replicate n a).flatMap f = (List.replicate n (f a)).flatten
  | 0 => rfl
  | n + 1 => by rw [List.replicate_succ, List.replicate_succ, List.flatMap_cons, List.flatten_cons, flat_rep a n]
theorem gw_dropF {F' : List Ck} (h : F'.Sublist F) (h2 : GW C k env B F') : GW C k env B F := gw_drop (h.append_left B) h2
/-- A slice made, owned. -/
theorem rw_makeO {α : Type} {f : α → List Value} {a : α} {E kk bytes n : Nat} {IK IK' : IntKind} (hd : Nat.blt d C.n = true) (hT : TyM C.P T E kk bytes (f a)) (hx : ev env x = some (.int IK (n : Int))) (hy : ev env y = some (.int IK' (n : Int))) (hb : n ≤ 134217728)
    (h : ∀ v ch, OwA E kk (PlO f) v (List.replicate n a) ch → RW C ops rest K ((d, v) :: env) B (ch ++ F)) :
    RW C ops (⟨some d, .makeSlice T x y, ty, pos, af, none⟩ :: rest) K env B F := by
  refine rw_make hd hT hx hy hb fun b => ?_
  have hl : (f a).length = kk := Nat.eq_of_beq_eq_true hT.len
  have hc := flat_rep (f := f) a n
  refine rw_perm (B' := B) (F' := [⟨b, E, (List.replicate n (f a)).flatten⟩] ++ F) ?_ (h _ [⟨b, E, (List.replicate n (f a)).flatten⟩] ?_)
  · exact (List.perm_middle (l₁ := B) (l₂ := F) (a := ⟨b, E, (List.replicate n (f a)).flatten⟩)).symm
  refine .inr ⟨b, n, (List.replicate n (f a)).flatten, [], [], by simp, ?_, by rw [List.append_nil, List.nil_append], by simp, by simp only [maxLen]; omega, ?_⟩
  · rw [← hc]; exact Ows.plain _
  · simp [hl]
theorem splice_mid {a m b vs : List Value} {off : Nat} (h : off + vs.length ≤ m.length) : splice (a ++ (m ++ b)) (a.length + off) vs = a ++ (splice m off vs ++ b) := by
  unfold splice
  rw [List.take_append, List.drop_append]
  have h1 : (m ++ b).take off = m.take off := by rw [List.take_append_of_le_length (by omega)]
  have h2 : (m ++ b).drop (off + vs.length) = m.drop (off + vs.length) ++ b := List.drop_append_of_le_length h
  simp only [List.take_of_length_le (show a.length ≤ a.length + off by omega), show a.length + off - a.length = off by omega, h1, List.drop_of_length_le (show a.length ≤ a.length + off + vs.length by omega),
    show a.length + off + vs.length - a.length = off + vs.length by omega, h2, List.nil_append, List.append_assoc]
theorem flat_split {α : Type} {f : α → List Value} {kk : Nat} (hk : ∀ x, (f x).length = kk) {l : List α} {i : Nat} {x0 : α} (hx : l[i]? = some x0) :
    ∃ a b, l.flatMap f = a ++ (f x0 ++ b) ∧ a.length = i * kk ∧ ∀ x', (l.set i x').flatMap f = a ++ (f x' ++ b) := by
  obtain ⟨hi, rfl⟩ := List.getElem?_eq_some_iff.1 hx
  have hl : ∀ m : List α, (m.flatMap f).length = m.length * kk := by
    intro m
    induction m with
    | nil => simp
    | cons y m ih => rw [List.flatMap_cons, List.length_append, ih, hk, List.length_cons, Nat.add_mul]; omega
  refine ⟨(l.take i).flatMap f, (l.drop (i + 1)).flatMap f, ?_, ?_, fun x' => ?_⟩
  · have h4 : l = l.take i ++ l[i] :: l.drop (i + 1) := by rw [← List.drop_eq_getElem_cons hi, List.take_append_drop]
    have h5 := congrArg (List.flatMap f) h4
    rw [List.flatMap_append, List.flatMap_cons] at h5
    exact h5
  · rw [hl, List.length_take]; congr 1; omega
  · rw [List.set_eq_take_append_cons_drop, if_pos hi]; simp
/-- A store into (a part of) an element. -/
theorem rw_storeEl {α : Type} {f : α → List Value} {kk q off i j n g E : Nat} {pre rest' : List Value} {l : List α} {x0 : α} {v : Value} (vs : List Value) (x' : α) (hT : (C.P.info? T).map (·.size) = some n) (hk : ∀ x, (f x).length = kk)
    (hx : ev env x = some (.pointer (some ⟨g, q, none⟩))) (hq : q = pre.length + i * kk + off) (hy : ev env y = some v) (hB : B[j]? = some ⟨g, E, pre ++ (l.flatMap f ++ rest')⟩) (hvs : v.cells.toList = vs) (hn : vs.length = n) (hx0 : l[i]? = some x0)
    (hle : Nat.ble (off + n) kk = true) (hsp : splice (f x0) off vs = f x') (h1 : vs.all (·.oneCell') = true)
    (h : RW C ops rest K env (B.set j ⟨g, E, pre ++ ((l.set i x').flatMap f ++ rest')⟩) F) :
    RW C ops (⟨none, .store T x y, ty, pos, af, none⟩ :: rest) K env B F := by
  obtain ⟨a, b, h2, h3, h4⟩ := flat_split hk hx0
  have hle' : off + n ≤ kk := by simpa using hle
  subst hq
  refine rw_storeX vs (pre ++ ((l.set i x').flatMap f ++ rest')) hT hx hy hB hvs hn ?_ (fun u hu => List.all_eq_true.1 h1 u hu) ?_ h
  · rw [h2]; simp only [List.length_append, h3, hk]; omega
  · rw [h2, h4, ← hsp]
    have h5 := splice_mid (a := pre ++ a) (m := f x0) (b := b ++ rest') (vs := vs) (off := off) (by rw [hk]; omega)
    have h6 : (pre ++ a).length + off = pre.length + i * kk + off := by rw [List.length_append, h3]
    rw [h6] at h5
    simpa [List.append_assoc] using h5
theorem rw_storeElE {α : Type} {f : α → List Value} {kk q off i j n g E : Nat} {pre rest' : List Value} {l : List α} {x0 : α} {v : Value} (vs : List Value) (hT : (C.P.info? T).map (·.size) = some n) (hk : ∀ x, (f x).length = kk)
    (hx : ev env x = some (.pointer (some ⟨g, q, none⟩))) (hq : q = pre.length + i * kk + off) (hy : ev env y = some v) (hB : B[j]? = some ⟨g, E, pre ++ (l.flatMap f ++ rest')⟩) (hvs : v.cells.toList = vs) (hn : vs.length = n) (hx0 : l[i]? = some x0)
    (hle : Nat.ble (off + n) kk = true) (hex : ∃ x', splice (f x0) off vs = f x') (h1 : vs.all (·.oneCell') = true)
    (h : ∀ x', splice (f x0) off vs = f x' → RW C ops rest K env (B.set j ⟨g, E, pre ++ ((l.set i x').flatMap f ++ rest')⟩) F) :
    RW C ops (⟨none, .store T x y, ty, pos, af, none⟩ :: rest) K env B F := by
  obtain ⟨x', hsp⟩ := hex
  exact rw_storeEl vs x' hT hk hx hq hy hB hvs hn hx0 hle hsp h1 (h x' hsp)
end
theorem set_get {α : Type} {l : List α} {i : Nat} {x y : α} (h : l[i]? = some x) : (l.set i y)[i]? = some y := by
  obtain ⟨hi, _⟩ := List.getElem?_eq_some_iff.1 h
  simp [hi]
/-- What the marks are. -/
def markI (k : Int) (n : Nat) : List Int := (List.range n).map fun (j : Nat) => k + (j : Int)
theorem markI_len (k : Int) (n : Nat) : (markI k n).length = n := by simp [markI]
theorem markI_get {k : Int} {n j : Nat} (h : j < n) : (markI k n)[j]? = some (k + (j : Int)) := by simp [markI, h]
theorem markI_eq {k : Int} {n : Nat} {m : List Int} (h1 : m.length = n) (h2 : ∀ j, j < n → m[j]? = some (k + (j : Int))) : m = markI k n := by
  apply List.ext_getElem?
  intro j
  rcases Nat.lt_or_ge j n with h | h
  · rw [h2 j h, markI_get h]
  · rw [List.getElem?_eq_none (by omega), List.getElem?_eq_none (by rw [markI_len]; omega)]
theorem held_ne {k : Int} {n i : Nat} {x : Int} (hx : (markI k n)[i]? = some x) : (!(x == k + (i : Int))) = false := by
  have hi : i < n := by have := (List.getElem?_eq_some_iff.1 hx).1; rwa [markI_len] at this
  rw [markI_get hi] at hx
  cases hx
  simp
theorem held_end {k : Int} {n i : Nat} (hle : i ≤ (markI k n).length) (hn : (markI k n).drop i = []) : i = n := by
  have := congrArg List.length hn
  simp [markI_len] at this hle
  omega
theorem mark_step {k : Int} {i : Nat} {m : List Int} (hm : ∀ j, j < i → m[j]? = some (k + (j : Int))) (hi : i < m.length) : ∀ j, j < i + 1 → (m.set i (k + (i : Int)))[j]? = some (k + (j : Int)) := by
  intro j hj
  by_cases h : i = j
  · subst h; simp [hi]
  · rw [List.getElem?_set_ne h]; exact hm j (by omega)
theorem kstep {k : Int} {i : Nat} (h0 : 0 ≤ k) (h1 : k ≤ 1073741824) (hi : i ≤ 134217728) : Value.int .i64 (IntKind.i64.wrap (k + (i : Int) + 1)) = .int .i64 (k + ((i + 1 : Nat) : Int)) := by
  rw [w64_of (by omega) (by omega)]; congr 1; omega
theorem kstep3 {k : Int} {i : Nat} (h0 : 0 ≤ k) (h1 : k ≤ 1073741824) (hi : i ≤ 134217728) :
    Value.int .i64 (IntKind.i64.wrap (IntKind.i64.wrap (IntKind.i64.wrap (k + 3 * (i : Int) + 1) + 1) + 1)) = .int .i64 (k + 3 * ((i + 1 : Nat) : Int)) := by
  rw [w64_of (n := k + 3 * (i : Int) + 1) (by omega) (by omega), w64_of (n := k + 3 * (i : Int) + 1 + 1) (by omega) (by omega), w64_of (by omega) (by omega)]; congr 1; omega
theorem kx_nn (n : Nat) : decide ((1 : Int) + (n : Int) < 0) = false := by simp; omega
theorem kx_nn3 (n : Nat) : decide ((1 : Int) + 3 * (n : Int) < 0) = false := by simp; omega
theorem ge_of_dec {i n : Nat} (h : decide ((i : Int) < (n : Int)) = false) : n ≤ i := by
  have : ¬ (i : Int) < (n : Int) := by simpa using h
  omega
/-- What an owned slice reads as, its value known. -/
theorem OwS.reshape {α : Type} {E k n c : Nat} {O : List Value → α → List Ck → Prop} {R : World → List Value → α → Prop} {A : Option Addr} {l : List α} {ch : List Ck} (e : Elem k O R) (h : OwS E k O (.slice A n c) l ch) :
    n = l.length ∧ ((.slice A n c : Value) = .slice A l.length c) ∧ (0 < n → A = some (adr A)) ∧ ∀ w : World, (∀ c ∈ ch, c.In w) → RdL w k R A l := by
  obtain ⟨A', c', he, hA, hr⟩ := h.shape e
  cases he
  exact ⟨rfl, rfl, hA, hr⟩
/-- An owned slice of plain elements: empty, or one block. -/
theorem OwS.open {α : Type} {f : α → List Value} {E k n c : Nat} {A : Option Addr} {l : List α} {ch : List Ck} (h : OwS E k (PlO f) (.slice A n c) l ch) :
    (n = 0 ∧ c = 0 ∧ l = [] ∧ ch = []) ∨ ∃ g pre rest, A = some ⟨g, pre.length, none⟩ ∧ n = l.length ∧ ch = [⟨g, E, pre ++ (l.flatMap f ++ rest)⟩] ∧ l.length ≤ c ∧ c ≤ maxLen ∧ (l.flatMap f ++ rest).length = c * k := by
  obtain ⟨pre, h⟩ := h
  rcases h with ⟨A', he, rfl, rfl⟩ | ⟨g, cap, cs, rest, chs, he, ho, rfl, h1, h2, h3⟩
  · cases he; exact .inl ⟨rfl, rfl, rfl, rfl⟩
  · cases he
    obtain ⟨rfl, rfl⟩ := ho.plain_eq
    exact .inr ⟨g, pre, rest, rfl, rfl, rfl, h1, h2, h3⟩
theorem OwS.close {α : Type} {f : α → List Value} {E k n c g : Nat} {pre rest : List Value} {l m : List α} (hk : ∀ x, (f x).length = k) (hn : n = l.length) (hm : m.length = l.length) (h1 : l.length ≤ c) (h2 : c ≤ maxLen) (h3 : (l.flatMap f ++ rest).length = c * k) :
    OwS E k (PlO f) (.slice (some ⟨g, pre.length, none⟩) n c) m [⟨g, E, pre ++ (m.flatMap f ++ rest)⟩] := by
  have hl : ∀ m : List α, (m.flatMap f).length = m.length * k := by
    intro m
    induction m with
    | nil => simp
    | cons y m ih => rw [List.flatMap_cons, List.length_append, ih, hk, List.length_cons, Nat.add_mul]; omega
  refine ⟨pre, .inr ⟨g, c, m.flatMap f, rest, [], by rw [hn, hm], Ows.plain m, rfl, by omega, h2, ?_⟩⟩
  rw [← h3, List.length_append, List.length_append, hl, hl, hm]
end SL
end Go.Proofs.Ytbhnekiclbfmgaa
