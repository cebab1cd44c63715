/- Putting a stream into a table: what both ways give. No program in sight. -/
import Derived.Test.YtbhnekiclbfmgaaIns
namespace Go.Proofs.Ytbhnekiclbfmgaa
open SL Go.RowKit
def gtFrom (id : Int) : Nat → List Stream → Int
  | _, [] => -1
  | i, s :: l => bif decide (id < s.id) then (i : Int) else gtFrom id (i + 1) l
def leHead (id : Int) : List Stream → Nat
  | [] => 0
  | s :: l => bif decide (id < s.id) then 0 else leHead id l + 1
theorem leHead_le (id : Int) : ∀ l : List Stream, leHead id l ≤ l.length
  | [] => Nat.le_refl _
  | s :: l => by
    unfold leHead
    cases decide (id < s.id) with
    | true => exact Nat.zero_le _
    | false => have := leHead_le id l; simp only [cond_false, List.length_cons]; omega
theorem gt_from (id : Int) : ∀ (l : List Stream) (i : Nat), (gtFrom id i l = -1 ∧ leHead id l = l.length) ∨ gtFrom id i l = ((i + leHead id l : Nat) : Int)
  | [], _ => .inl ⟨rfl, rfl⟩
  | s :: l, i => by
    unfold gtFrom leHead
    cases decide (id < s.id) with
    | true => exact .inr rfl
    | false =>
      simp only [cond_false, List.length_cons]
      rcases gt_from id l (i + 1) with ⟨h1, h2⟩ | h1
      · exact .inl ⟨h1, by omega⟩
      · have e : i + 1 + leHead id l = i + (leHead id l + 1) := by omega
        exact .inr (by rw [h1, e])
theorem gt_cases (id : Int) (l : List Stream) : (gtFrom id 0 l = -1 ∧ leHead id l = l.length) ∨ gtFrom id 0 l = (leHead id l : Int) := by
  rcases gt_from id l 0 with h | h
  · exact .inl h
  · exact .inr (by rw [Nat.zero_add] at h; exact h)
def insGo (s : Stream) : Bool → List Stream → List Stream
  | pl, [] => bif pl then [] else [s]
  | pl, y :: l => bif !pl && decide (s.id < y.id) then s :: y :: insGo s true l else y :: insGo s pl l
theorem ins_true (s : Stream) : ∀ l : List Stream, insGo s true l = l
  | [] => rfl
  | y :: l => by unfold insGo; simp [ins_true s l]
theorem ins_eq (s : Stream) : ∀ l : List Stream, insGo s false l = l.take (leHead s.id l) ++ s :: l.drop (leHead s.id l)
  | [] => rfl
  | y :: l => by
    unfold insGo leHead
    cases h : decide (s.id < y.id) with
    | true => simp [ins_true]
    | false => simp [ins_eq s l]
theorem put_end (s : Stream) (l : List Stream) (h : leHead s.id l = l.length) : l ++ [s] = insGo s false l := by
  rw [ins_eq, h, List.take_length, List.drop_length]
theorem ins_len (s : Stream) : ∀ (pl : Bool) (l : List Stream), (insGo s pl l).length ≤ l.length + 1
  | pl, [] => by cases pl <;> simp [insGo]
  | pl, y :: l => by
    unfold insGo
    cases h : (!pl && decide (s.id < y.id)) with
    | true => rw [ins_true]; simp
    | false => have := ins_len s pl l; simp only [cond_false, List.length_cons]; omega
theorem ins_all {s : Stream} {N : Nat} (hs : s.le N) : ∀ (pl : Bool) (l : List Stream), (∀ y ∈ l, y.le N) → ∀ y ∈ insGo s pl l, y.le N
  | pl, [], _ => by
    cases pl with
    | true => intro y hy; cases hy
    | false => intro y hy; obtain rfl := List.mem_singleton.1 hy; exact hs
  | pl, z :: l, h => by
    have hz := h z (List.mem_cons_self ..)
    have hl : ∀ y ∈ l, y.le N := fun y hy => h y (List.mem_cons_of_mem _ hy)
    unfold insGo
    cases (!pl && decide (s.id < z.id)) with
    | true =>
      rw [ins_true]; intro y hy
      rcases List.mem_cons.1 hy with rfl | hy
      · exact hs
      · exact h y hy
    | false =>
      intro y hy
      rcases List.mem_cons.1 hy with rfl | hy
      · exact hz
      · exact ins_all hs pl l hl y hy
theorem set_all {x : Stream} {n N : Nat} {l : List Stream} (h : ∀ y ∈ l, y.le N) (hx : x.le N) : ∀ y ∈ l.set n x, y.le N := fun y hy => by
  rcases List.mem_or_eq_of_mem_set hy with h1 | rfl
  · exact h y h1
  · exact hx
theorem at_neg {a : Int} (h : a = -1) : decide (0 ≤ a) = false := by rw [h]; rfl
theorem at_pos {a : Int} {n : Nat} (h : a = (n : Int)) : decide (0 ≤ a) = true := by rw [h]; simp
theorem set_take {l : List Stream} {n i : Nat} {x y : Stream} (hy : l[i]? = some y) (h : ((i : Int) == (n : Int)) = false) : (l.set n x)[i]? = some y := by
  have hne : ¬ (i : Int) = (n : Int) := by simpa using h
  rw [List.getElem?_set_ne (by omega), hy]
theorem set_take' {l : List Stream} {n i : Nat} {x y : Stream} (hy : l[i]? = some y) (h : ((i : Int) == (n : Int)) = true) : (l.set n x)[i]? = some x := by
  have he : (i : Int) = (n : Int) := by simpa using h
  have hn : i = n := by omega
  subst hn
  exact set_get hy
namespace SL
theorem Sat.permX {w0 w : World} {X X' : List Nat} {H : List Ck} (h : Sat w0 X w H) (hp : X.Perm X') : Sat w0 X' w H :=
  ⟨h.os, h.tape, h.output, h.size, fun b hb hn => h.keep b hb (fun hm => hn (hp.mem_iff.1 hm)), h.nd, fun c hc => (h.own c hc).imp (fun h1 => hp.mem_iff.1 h1) id, h.at_⟩
theorem CH.permG {P : Program} {f : FuncId} {vs : List Value} {w : World} {G G' : List Ck} {post : Value → List Ck → Prop} (h : CH P f vs w G post) (hp : G.Perm G') : CH P f vs w G' post :=
  Calls.mono h fun _ _ ⟨v, G2, he, h1, h2⟩ => ⟨v, G2, he, h1, h2.permX (hp.map Ck.b)⟩
theorem take_blk {B X F' : List Ck} {b : Ck} : (B ++ ((b :: X) ++ F')).Perm ((b :: B) ++ (X ++ F')) := by
  simp only [List.cons_append]
  exact List.perm_middle
/-- An owned table, opened at an element. -/
theorem OwS.openAt {α : Type} {k E nn c n : Nat} {O : List Value → α → List Ck → Prop} {A : Option Addr} {l : List α} {ch : List Ck} {y : α} (h : OwS E k O (.slice A nn c) l ch) (hy : l[n]? = some y) :
    ∃ g pre rs c1 mm c2 h1 cy h2, A = some ⟨g, pre.length, none⟩ ∧ nn = l.length ∧ Ows O (l.take n) c1 h1 ∧ O mm y cy ∧ Ows O (l.drop (n + 1)) c2 h2 ∧ ch = ⟨g, E, pre ++ ((c1 ++ (mm ++ c2)) ++ rs)⟩ :: (h1 ++ (cy ++ h2)) ∧ l.length ≤ c ∧ c ≤ maxLen ∧ ((c1 ++ (mm ++ c2)) ++ rs).length = c * k := by
  rcases h.openG with ⟨_, _, rfl, _⟩ | ⟨g, pre, rs, cells, chs, rfl, rfl, hO, rfl, g1, g2, g3⟩
  · simp at hy
  · obtain ⟨c1, c2, h1, h2, rfl, rfl, hO1, hO2⟩ := hO.split n
    have hd := drop_cons hy
    rw [hd] at hO2
    obtain ⟨cs, cR, cy, hR, rfl, rfl, h3, h4⟩ := hO2.uncons
    exact ⟨g, pre, rs, c1, cs, cR, h1, cy, hR, rfl, rfl, hO1, h3, h4, rfl, g1, g2, g3⟩
theorem splice_el {pre c1 mm c2 rs vs : List Value} {q : Nat} (hq : q = pre.length + c1.length) (h : vs.length = mm.length) : splice (pre ++ ((c1 ++ (mm ++ c2)) ++ rs)) q vs = pre ++ ((c1 ++ (vs ++ c2)) ++ rs) := by
  have h1 := splice_all (a := pre ++ c1) (m := mm) (b := c2 ++ rs) (vs := vs) (q := q) (by rw [List.length_append]; exact hq) h
  simpa [List.append_assoc] using h1
theorem set_split {α : Type} {l : List α} {n : Nat} {x y : α} (h : l[n]? = some y) : l.set n x = l.take n ++ x :: l.drop (n + 1) := by
  have hn := (List.getElem?_eq_some_iff.1 h).1
  rw [List.set_eq_take_append_cons_drop, if_pos hn]
end SL
end Go.Proofs.Ytbhnekiclbfmgaa
