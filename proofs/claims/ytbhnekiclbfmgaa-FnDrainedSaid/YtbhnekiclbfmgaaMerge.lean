/- Priorities read from text: pieces between commas, trimmed, one after the other. No program in sight. -/
import Derived.Test.YtbhnekiclbfmgaaSls
import Derived.Lib.Split
import Derived.Lib.SplitLaws
import Derived.Lib.TrimByte
namespace Go.Proofs.Ytbhnekiclbfmgaa
open SL Go.RowKit
def cutFrom (c : UInt8) : List UInt8 → List UInt8 → List (List UInt8)
  | p, [] => [p]
  | p, b :: l => bif b == c then p :: cutFrom c [] l else cutFrom c (p ++ [b]) l
def pieces (l : List UInt8) : List (List UInt8) := cutFrom 44 [] l
def onHead (p : List UInt8) : List (List UInt8) → List (List UInt8)
  | [] => []
  | x :: xs => (p ++ x) :: xs
theorem splitK_ne (c : UInt8) : ∀ (k : Nat) (l : List UInt8), Lib.splitK [c] 0 k l ≠ []
  | 0, _ => by simp [Lib.splitK]
  | k + 1, l => by unfold Lib.splitK; split <;> simp
theorem cut_split (c : UInt8) : ∀ (l p : List UInt8), cutFrom c p l = onHead p (Lib.splitK [c] 0 (l.count c) l)
  | [], p => by simp [cutFrom, Lib.splitK, onHead]
  | b :: l, p => by
    by_cases h : b = c
    · subst h
      have ih := cut_split b l []
      have hc : (b :: l).count b = l.count b + 1 := by simp
      rw [hc]
      have hi : Lib.index (b :: l) [b] = 0 := by simp [Lib.index]
      simp only [cutFrom, beq_self_eq_true, cond_true, ih, Lib.splitK, hi]
      cases hs : Lib.splitK [b] 0 (l.count b) l with
      | nil => exact absurd hs (splitK_ne b _ l)
      | cons x xs => simp [onHead, hs]
    · have hb : (b == c) = false := by simpa using h
      have ih := cut_split c l (p ++ [b])
      have hc : (b :: l).count c = l.count c := by simp [List.count_cons, hb]
      rw [hc]
      simp only [cutFrom, hb, cond_false, ih]
      cases hn : l.count c with
      | zero => simp [Lib.splitK, onHead]
      | succ k =>
        have hp : ([c].isPrefixOf (b :: l)) = false := by
          have : (c == b) = false := by simpa using fun e : c = b => h e.symm
          simp [List.isPrefixOf, this]
        have hi : Lib.index (b :: l) [c] = if Lib.index l [c] == -1 then -1 else Lib.index l [c] + 1 := by
          rw [Lib.index]; simp only [hp, Bool.false_eq_true, if_false]
        have hge : ∀ l : List UInt8, -1 ≤ Lib.index l [c] := by
          intro l
          induction l with
          | nil => simp [Lib.index]
          | cons y l ih => rw [Lib.index]; split; · omega
                           · split <;> omega
        unfold Lib.splitK
        rw [hi]
        by_cases hm : Lib.index l [c] = -1
        · simp [hm, onHead]
        · have h1 : (Lib.index l [c] == -1) = false := by simpa using hm
          have h2 := hge l
          have h3 : ((Lib.index l [c] + 1) == -1) = false := by rw [beq_eq_false_iff_ne]; omega
          have h4 : (Lib.index l [c] + 1).toNat = (Lib.index l [c]).toNat + 1 := by omega
          simp only [h1, Bool.false_eq_true, if_false, h3, h4, onHead, List.length_singleton]
          simp [Nat.add_assoc, Nat.add_comm 1]
theorem pieces_split (l : List UInt8) : pieces l = Lib.splitK [44] 0 (Lib.count l [44]) l := by
  unfold pieces
  rw [cut_split, Lib.count_one]
  cases hs : Lib.splitK [44] 0 (l.count 44) l with
  | nil => exact absurd hs (splitK_ne 44 _ l)
  | cons x xs => simp [onHead]
def trimL (l : List UInt8) : List UInt8 := l.dropWhile (· == 32)
def trimR : List UInt8 → List UInt8
  | [] => []
  | b :: l => bif (trimR l).isEmpty && b == 32 then [] else b :: trimR l
def trim (l : List UInt8) : List UInt8 := trimR (trimL l)
theorem dropWhile_append_of {α : Type} (p : α → Bool) : ∀ (l m : List α), (l ++ m).dropWhile p = if (l.dropWhile p).isEmpty then m.dropWhile p else l.dropWhile p ++ m
  | [], m => by simp
  | a :: l, m => by
    rw [List.cons_append, List.dropWhile_cons, List.dropWhile_cons]
    cases h : p a with
    | true => simpa using dropWhile_append_of p l m
    | false => simp
theorem trimR_eq : ∀ l : List UInt8, Lib.trimRightB l 32 = trimR l
  | [] => rfl
  | b :: l => by
    have ih := trimR_eq l
    unfold Lib.trimRightB at ih ⊢
    rw [List.reverse_cons, dropWhile_append_of]
    unfold trimR
    rw [← ih]
    cases h : (l.reverse.dropWhile (· == 32)) with
    | nil =>
      cases hb : b == 32 <;> simp [hb, List.dropWhile_cons]
    | cons y ys =>
      have hne : (ys.reverse ++ [y]).isEmpty = false := by cases ys.reverse <;> rfl
      simp [hne]
theorem trimL_R : ∀ l : List UInt8, trimL (trimR l) = trimR (trimL l)
  | [] => rfl
  | b :: l => by
    have ih := trimL_R l
    cases hb : b == 32 with
    | true =>
      have h1 : trimL (b :: l) = trimL l := by simp [trimL, List.dropWhile_cons, hb]
      have h2 : trimR (b :: l) = bif (trimR l).isEmpty && b == 32 then [] else b :: trimR l := rfl
      rw [h1, ← ih, h2]
      cases he : (trimR l).isEmpty with
      | true =>
        have h3 : trimR l = [] := by simpa using he
        rw [h3, hb]; rfl
      | false =>
        rw [hb]
        show (b :: trimR l).dropWhile (· == 32) = (trimR l).dropWhile (· == 32)
        rw [List.dropWhile_cons, hb]; rfl
    | false =>
      have h1 : trimL (b :: l) = b :: l := by simp [trimL, List.dropWhile_cons, hb]
      rw [h1]
      have h2 : trimR (b :: l) = b :: trimR l := by simp [trimR, hb]
      rw [h2]
      simp [trimL, List.dropWhile_cons, hb]
theorem trim_lib (l : List UInt8) : Lib.trimB l 32 = trim l := by
  show Lib.trimLeftB (Lib.trimRightB l 32) 32 = _
  rw [trimR_eq]
  exact trimL_R l
theorem trimR_snoc (l : List UInt8) (b : UInt8) : trimR (l ++ [b]) = if b == 32 then trimR l else l ++ [b] := by
  induction l with
  | nil => cases h : b == 32 <;> simp [trimR, h]
  | cons a l ih =>
    rw [List.cons_append, trimR, ih]
    cases h : b == 32 with
    | true => simp [trimR]
    | false =>
      have hne : (l ++ [b]).isEmpty = false := by cases l <;> rfl
      simp [hne]
/-! one piece -/
def stepP (p : Priority) (t : List UInt8) : Priority :=
  bif t == [105] || t == [105, 61, 63, 49] then { p with incremental := true }
  else bif t == [105, 61, 63, 48] then { p with incremental := false }
  else match t with
    | [a, b, c] => bif (a == 117 && b == 61) && (decide (48 ≤ c.toNat) && decide (c.toNat ≤ 55)) then { p with urgency := (c.toNat : Int) - 48 } else p
    | _ => p
def mergeFrom (p : Priority) (L : List (List UInt8)) : Priority := L.foldl (fun p t => stepP p (trim t)) p
def mergePriority (base : Priority) (l : List UInt8) : Priority := mergeFrom (bif isPriority base then base else defaultPriority) (pieces l)
/-! lists of strings, steps -/
abbrev mkS (t : List UInt8) : ByteArray := ⟨t.toArray⟩
theorem cut_len (c : UInt8) : ∀ (l p : List UInt8), (cutFrom c p l).length ≤ l.length + 1
  | [], p => by simp [cutFrom]
  | b :: l, p => by
    simp only [cutFrom, List.length_cons]
    cases b == c with
    | true => simpa using cut_len c l []
    | false => exact Nat.le_succ_of_le (cut_len c l (p ++ [b]))
theorem cut_mem (c : UInt8) : ∀ (l p t : List UInt8), t ∈ cutFrom c p l → t.length ≤ p.length + l.length
  | [], p, t, h => by simp [cutFrom] at h; simp [h]
  | b :: l, p, t, h => by
    simp only [cutFrom] at h
    cases hb : b == c with
    | true =>
      rw [hb] at h
      rcases List.mem_cons.1 (by simpa using h) with rfl | h
      · simp
      · have := cut_mem c l [] t h; simp at this ⊢; omega
    | false =>
      rw [hb] at h
      have := cut_mem c l (p ++ [b]) t (by simpa using h); simp at this ⊢; omega
theorem pieces_len (l : List UInt8) : (pieces l).length ≤ l.length + 1 := cut_len 44 l []
theorem pieces_mem {l t : List UInt8} {i : Nat} (h : (pieces l)[i]? = some t) : t.length ≤ l.length := by
  have := cut_mem 44 l [] t (List.mem_of_getElem? h); simpa using this
theorem cut_done {l p : List UInt8} {o : List (List UInt8)} {i : Nat} (h : pieces l = o ++ cutFrom 44 p (l.drop i)) (hn : l.drop i = []) : (pieces l).map mkS = o.map mkS ++ [mkS p] := by
  rw [h, hn]; simp [cutFrom]
theorem trimL_step {t : List UInt8} {x : UInt8} (hx : t[0]? = some x) (hb : (x == 32) = true) : trimL t = trimL (t.drop 1) := by
  cases t with
  | nil => simp at hx
  | cons a t => simp at hx; subst hx; simp [trimL, List.dropWhile_cons, hb]
theorem trimL_stop {t : List UInt8} {x : UInt8} (hx : t[0]? = some x) (hb : (x == 32) = false) : trimL t = t := by
  cases t with
  | nil => simp at hx
  | cons a t => simp at hx; subst hx; simp [trimL, List.dropWhile_cons, hb]
theorem trimL_none {t : List UInt8} (h : t.length = 0) : trimL t = t := by
  rw [List.eq_nil_of_length_eq_zero h]; rfl
theorem trimR_none {t : List UInt8} (h : t.length = 0) : trimR t = t := by
  rw [List.eq_nil_of_length_eq_zero h]; rfl
theorem last_split {t : List UInt8} {x : UInt8} (hx : t[t.length - 1]? = some x) : t = t.take (t.length - 1) ++ [x] := by
  obtain ⟨hi, rfl⟩ := List.getElem?_eq_some_iff.1 hx
  have := List.take_append_drop (t.length - 1) t
  rw [List.drop_eq_getElem_cons hi, show t.length - 1 + 1 = t.length by omega, List.drop_length] at this
  exact this.symm
theorem trimR_step {t : List UInt8} {x : UInt8} (hx : t[t.length - 1]? = some x) (hb : (x == 32) = true) : trimR t = trimR (t.take (t.length - 1)) := by
  have h := last_split hx
  have h2 := trimR_snoc (t.take (t.length - 1)) x
  rw [← h, hb] at h2
  simpa using h2
theorem trimR_stop {t : List UInt8} {x : UInt8} (hx : t[t.length - 1]? = some x) (hb : (x == 32) = false) : trimR t = t := by
  have h := last_split hx
  have h2 := trimR_snoc (t.take (t.length - 1)) x
  rw [← h, hb] at h2
  simpa using h2
theorem str_get {L : List (List UInt8)} {i : Nat} {x : ByteArray} (h : (L.map mkS)[i]? = some x) : ∃ t, L[i]? = some t ∧ x = mkS t := by
  rw [List.getElem?_map] at h
  cases hl : L[i]? with
  | none => simp [hl] at h
  | some t => simp [hl] at h; exact ⟨t, rfl, h.symm⟩
theorem map_nil {L : List (List UInt8)} {i : Nat} (h : (L.map mkS).drop i = []) : L.drop i = [] := by
  rw [← List.map_drop] at h; simpa using h
theorem merge_step {p p' : Priority} {L : List (List UInt8)} {i : Nat} {t : List UInt8} (h : L[i]? = some t) (hs : stepP p (trim t) = p') : mergeFrom p (L.drop i) = mergeFrom p' (L.drop (i + 1)) := by
  rw [drop_cons h, ← hs]; rfl
theorem merge_done {p : Priority} {L : List (List UInt8)} {i : Nat} (h : (L.map mkS).drop i = []) : mergeFrom p (L.drop i) = p := by
  rw [map_nil h]; rfl
theorem trim_len (t : List UInt8) : (trim t).length ≤ t.length := by
  have h1 : ∀ l : List UInt8, (trimR l).length ≤ l.length := by
    intro l
    induction l with
    | nil => simp [trimR]
    | cons a l ih =>
      unfold trimR
      cases (trimR l).isEmpty && a == 32 with
      | true => simp
      | false => simpa using ih
  have h2 : (trimL t).length ≤ t.length := (List.dropWhile_sublist _).length_le
  have := h1 (trimL t)
  show (trimR (trimL t)).length ≤ _
  omega
section
variable {p : Priority} {t : List UInt8} {a b c : UInt8}
theorem step_on (h : (t == [105]) = true) : stepP p t = { p with incremental := true } := by simp [stepP, h]
theorem step_on2 (h0 : (t == [105]) = false) (h : (t == [105, 61, 63, 49]) = true) : stepP p t = { p with incremental := true } := by simp [stepP, h]
theorem step_off (h0 : (t == [105]) = false) (h1 : (t == [105, 61, 63, 49]) = false) (h : (t == [105, 61, 63, 48]) = true) : stepP p t = { p with incremental := false } := by simp only [stepP, h0, h1, h]; rfl
theorem step_len (h0 : (t == [105]) = false) (h1 : (t == [105, 61, 63, 49]) = false) (h2 : (t == [105, 61, 63, 48]) = false) (h : ((t.length : Int) == 3) = false) : stepP p t = p := by
  simp only [stepP, h0, h1, h2]
  match t, h with
  | [], _ => rfl
  | [_], _ => rfl
  | [_, _], _ => rfl
  | [_, _, _], h => simp at h
  | _ :: _ :: _ :: _ :: _, _ => rfl
theorem step_three (h0 : (t == [105]) = false) (h1 : (t == [105, 61, 63, 49]) = false) (h2 : (t == [105, 61, 63, 48]) = false) (e : t = [a, b, c]) :
    stepP p t = bif (a == 117 && b == 61) && (decide (48 ≤ c.toNat) && decide (c.toNat ≤ 55)) then { p with urgency := (c.toNat : Int) - 48 } else p := by
  simp only [stepP, h0, h1, h2]; subst e; rfl
theorem u_of {v : Bool} (h : ([a, b] == [(117 : UInt8), 61]) = v) : (a == 117 && b == 61) = v := by rw [← h]; simp [Bool.and_comm]
theorem dig_lo {v : Bool} (h : decide ((48 : Int) ≤ (c.toNat : Int)) = v) : decide (48 ≤ c.toNat) = v := by rw [← h]; simp; omega
theorem dig_hi {v : Bool} (h : decide ((c.toNat : Int) ≤ (55 : Int)) = v) : decide (c.toNat ≤ 55) = v := by rw [← h]; simp; omega
theorem step_u (h0 : (t == [105]) = false) (h1 : (t == [105, 61, 63, 49]) = false) (h2 : (t == [105, 61, 63, 48]) = false) (e : t = [a, b, c]) (h : ([a, b] == [(117 : UInt8), 61]) = false) : stepP p t = p := by
  rw [step_three h0 h1 h2 e, u_of h]; rfl
theorem step_lo (h0 : (t == [105]) = false) (h1 : (t == [105, 61, 63, 49]) = false) (h2 : (t == [105, 61, 63, 48]) = false) (e : t = [a, b, c]) (h : decide ((48 : Int) ≤ (c.toNat : Int)) = false) : stepP p t = p := by
  rw [step_three h0 h1 h2 e, dig_lo h]; simp
theorem step_hi (h0 : (t == [105]) = false) (h1 : (t == [105, 61, 63, 49]) = false) (h2 : (t == [105, 61, 63, 48]) = false) (e : t = [a, b, c]) (h : decide ((c.toNat : Int) ≤ (55 : Int)) = false) : stepP p t = p := by
  rw [step_three h0 h1 h2 e, dig_hi h]; simp
theorem step_set (h0 : (t == [105]) = false) (h1 : (t == [105, 61, 63, 49]) = false) (h2 : (t == [105, 61, 63, 48]) = false) (e : t = [a, b, c]) (hu : ([a, b] == [(117 : UInt8), 61]) = true) (hl : decide ((48 : Int) ≤ (c.toNat : Int)) = true) (hh : decide ((c.toNat : Int) ≤ (55 : Int)) = true) :
    stepP p t = { p with urgency := IntKind.i64.wrap (IntKind.u8.wrap ((c.toNat : Int) - 48)) } := by
  rw [step_three h0 h1 h2 e, u_of hu, dig_lo hl, dig_hi hh]
  have h3 := of_decide_eq_true hl
  have h4 := of_decide_eq_true hh
  have h5 : IntKind.u8.wrap ((c.toNat : Int) - 48) = (c.toNat : Int) - 48 := by simp [IntKind.wrap, IntKind.signed, IntKind.bits]; omega
  have h6 : IntKind.i64.wrap ((c.toNat : Int) - 48) = (c.toNat : Int) - 48 := w64_of (by omega) (by omega)
  rw [h5, h6]; rfl
end
end Go.Proofs.Ytbhnekiclbfmgaa
