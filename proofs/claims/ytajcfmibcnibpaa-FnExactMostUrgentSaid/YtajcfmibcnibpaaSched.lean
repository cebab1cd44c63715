/- Schedules: the most urgent, the next stream, the order served. No program in sight. -/
import Derived.Test.YtajcfmibcnibpaaElems
import Derived.Test.YtajcfmibcnibpaaSlh
namespace Go.Proofs.Ytajcfmibcnibpaa
open SL Go.RowKit
theorem SL.gw_loop1 {C : Cx} {k : List Item} {env : Env} {B F : List Ck} {c : Code} (h : GW C (.code c :: .inLoop c :: k) env B F) : GW C (.code (.loop c) :: k) env B F :=
  fun E a w hd hf hs => Good.step (fun _ _ => step_loop) (h E a w hd hf hs)
def leastFrom : Int → List Candidate → Int
  | n, [] => n
  | n, c :: l => leastFrom (min n c.priority.urgency) l
def urgent (l : List Candidate) : List Candidate := l.filter fun c => c.priority.urgency == leastFrom 7 l
theorem urgent_len (l : List Candidate) : (urgent l).length ≤ l.length := List.length_filter_le _ _
def mostUrgent (l : List Candidate) : List Int := bif areCandidates l then (urgent l).map (·.id) else []
def muFrom : Int → List Int → List Candidate → List Int
  | _, o, [] => o
  | b, o, c :: l =>
    bif decide (c.priority.urgency < b) then muFrom c.priority.urgency [c.id] l
    else bif c.priority.urgency == b then muFrom b (o ++ [c.id]) l else muFrom b o l
theorem leastFrom_le : ∀ (l : List Candidate) (n : Int), leastFrom n l ≤ n
  | [], _ => Int.le_refl _
  | c :: l, n => Int.le_trans (leastFrom_le l _) (Int.min_le_left _ _)
theorem leastFrom_mem_le : ∀ (l : List Candidate) (n : Int), ∀ c ∈ l, leastFrom n l ≤ c.priority.urgency
  | c :: l, n, y, hy => by
    rcases List.mem_cons.1 hy with rfl | hy
    · exact Int.le_trans (leastFrom_le l _) (Int.min_le_right _ _)
    · exact leastFrom_mem_le l _ y hy
theorem muFrom_eq : ∀ (l : List Candidate) (b : Int) (o : List Int), muFrom b o l = (if leastFrom b l = b then o else []) ++ (l.filter fun c => c.priority.urgency == leastFrom b l).map (·.id)
  | [], b, o => by simp [muFrom, leastFrom]
  | c :: l, b, o => by
    by_cases h1 : c.priority.urgency < b
    · have hm : min b c.priority.urgency = c.priority.urgency := by omega
      have hle := leastFrom_le l c.priority.urgency
      have hne : ¬ leastFrom c.priority.urgency l = b := by omega
      simp only [muFrom, leastFrom, h1, decide_true, cond_true, hm, muFrom_eq l, if_neg hne, List.nil_append, List.filter_cons]
      by_cases h2 : leastFrom c.priority.urgency l = c.priority.urgency
      · simp [h2]
      · have h3 : ¬ c.priority.urgency = leastFrom c.priority.urgency l := fun e => h2 e.symm
        simp [h2, h3]
    · have hm : min b c.priority.urgency = b := by omega
      have hle := leastFrom_le l b
      by_cases h2 : c.priority.urgency = b
      · have h4 : (c.priority.urgency == b) = true := by simpa using h2
        simp only [muFrom, leastFrom, decide_eq_false h1, cond_false, h4, cond_true, hm, muFrom_eq l, List.filter_cons]
        by_cases h5 : leastFrom b l = b
        · simp [h5, h2]
        · have h6 : ¬ c.priority.urgency = leastFrom b l := by omega
          simp [h5, h6]
      · have h4 : (c.priority.urgency == b) = false := by simpa using h2
        have h6 : ¬ c.priority.urgency = leastFrom b l := by omega
        simp [muFrom, leastFrom, decide_eq_false h1, h4, hm, muFrom_eq l, List.filter_cons, h6]
theorem areFrom_pri : ∀ (l : List Candidate) (p : Option Int), areFrom p l = true → ∀ c ∈ l, 0 ≤ c.priority.urgency ∧ c.priority.urgency ≤ 7
  | c :: l, p, h, y, hy => by
    simp only [areFrom, Bool.and_eq_true] at h
    rcases List.mem_cons.1 hy with rfl | hy
    · have := h.1.1.2; simpa [isPriority, within] using this
    · exact areFrom_pri l _ h.2 y hy
theorem leastFrom_78 : ∀ (l : List Candidate), (∀ c ∈ l, c.priority.urgency ≤ 7) → l ≠ [] → leastFrom 8 l = leastFrom 7 l
  | [], _, h => absurd rfl h
  | c :: l, h, _ => by
    have := h c (by simp)
    simp only [leastFrom, show min 8 c.priority.urgency = min 7 c.priority.urgency by omega]
theorem mostUrgent_s {l : List Candidate} (h : areCandidates l = true) : muFrom 8 [] l = mostUrgent l := by
  rw [muFrom_eq, mostUrgent, h]
  cases l with
  | nil => rfl
  | cons c l => simp [urgent, leastFrom_78 (c :: l) (fun c hc => (areFrom_pri _ _ h c hc).2) (by simp)]
/-! ids -/
theorem areFrom_gt : ∀ (l : List Candidate) (q : Int), areFrom (some q) l = true → ∀ c ∈ l, q < c.id
  | c :: l, q, h, y, hy => by
    simp only [areFrom, Bool.and_eq_true, Bool.not_eq_true', decide_eq_false_iff_not] at h
    rcases List.mem_cons.1 hy with rfl | hy
    · omega
    · have := areFrom_gt l _ h.2 y hy; omega
theorem areFrom_tail {c : Candidate} {l : List Candidate} {p : Option Int} (h : areFrom p (c :: l) = true) : areFrom (some c.id) l = true := by
  simp only [areFrom, Bool.and_eq_true] at h; exact h.2
theorem areFrom_nodup : ∀ (l : List Candidate) (p : Option Int), areFrom p l = true → (l.map (·.id)).Nodup
  | [], _, _ => by simp
  | c :: l, p, h => by
    have h1 := areFrom_tail h
    rw [List.map_cons, List.nodup_cons]
    refine ⟨fun hm => ?_, areFrom_nodup l _ h1⟩
    obtain ⟨y, hy, he⟩ := List.mem_map.1 hm
    have := areFrom_gt l _ h1 y hy
    omega
theorem areFrom_sub (P : Candidate → Bool) : ∀ (l : List Candidate) (p q : Option Int), (∀ x, q = some x → ∀ c ∈ l, x < c.id) → areFrom p l = true → areFrom q (l.filter P) = true
  | [], _, _, _, _ => rfl
  | c :: l, p, q, hq, h => by
    have h1 := areFrom_tail h
    rw [List.filter_cons]
    cases hP : P c with
    | false => exact areFrom_sub P l (some c.id) q (fun x hx y hy => hq x hx y (by simp [hy])) h1
    | true =>
      simp only [areFrom, Bool.and_eq_true] at h
      simp only [if_true, areFrom, Bool.and_eq_true]
      refine ⟨⟨h.1.1, ?_⟩, areFrom_sub P l (some c.id) (some c.id) (fun x hx y hy => ?_) h1⟩
      · cases q with
        | none => rfl
        | some x => have := hq x rfl c (by simp); simp; omega
      · cases hx; exact areFrom_gt l _ h1 y hy
theorem are_urgent {l : List Candidate} (h : areCandidates l = true) : areCandidates (urgent l) = true := areFrom_sub _ l none none (fun x hx => by cases hx) h
theorem count_le_one {l : List Int} (h : l.Nodup) (x : Int) : l.count x ≤ 1 := List.nodup_iff_count.1 h x
theorem mostUrgent_nodup (l : List Candidate) : (mostUrgent l).Nodup := by
  unfold mostUrgent
  cases h : areCandidates l with
  | false => simp
  | true => exact areFrom_nodup _ none (are_urgent h)
theorem mostUrgent_len (l : List Candidate) : (mostUrgent l).length ≤ l.length := by
  unfold mostUrgent
  cases areCandidates l with
  | false => simp
  | true => simpa using urgent_len l
/-! the next stream -/
def nsI (dflt : Int) : List Candidate → Int
  | [] => dflt
  | c :: l => bif !c.priority.incremental then c.id else nsI dflt l
def nextStream (l : List Candidate) (last : Int) : Int := bif areCandidates l && !((l.length : Int) == 0) then nsI (plainNext (urgent l) last) (urgent l) else -1
def nsS (m : List Int) (last : Int) : List Int → List Candidate → Int
  | so, [] => nextId so last
  | so, c :: l => bif decide (0 < m.count c.id) && !c.priority.incremental then c.id else nsS m last (so ++ List.replicate (m.count c.id) c.id) l
theorem count_id (P : Candidate → Bool) {l : List Candidate} (hn : (l.map (·.id)).Nodup) : ∀ c ∈ l, ((l.filter P).map (·.id)).count c.id = if P c then 1 else 0 := by
  induction l with
  | nil => intro c hc; cases hc
  | cons d l ih =>
    rw [List.map_cons, List.nodup_cons] at hn
    intro c hc
    have hz : ∀ x : Int, x ∉ l.map (·.id) → ((l.filter P).map (·.id)).count x = 0 := fun x hx => by
      rw [List.count_eq_zero]
      intro hm
      obtain ⟨y, hy, he⟩ := List.mem_map.1 hm
      exact hx (List.mem_map.2 ⟨y, (List.mem_filter.1 hy).1, he⟩)
    rcases List.mem_cons.1 hc with rfl | hc
    · rw [List.filter_cons]
      cases hP : P c with
      | false => simpa using hz _ hn.1
      | true => simp [hz _ hn.1]
    · have hne : ¬ d.id = c.id := fun e => hn.1 (e ▸ List.mem_map.2 ⟨c, hc, rfl⟩)
      rw [List.filter_cons]
      cases hP : P d with
      | false => simpa using ih hn.2 c hc
      | true =>
        simp only [if_true, List.map_cons, List.count_cons]
        rw [ih hn.2 c hc]
        have : (d.id == c.id) = false := by simpa using hne
        simp [this]
theorem nsS_eq (P : Candidate → Bool) (m : List Int) (last : Int) : ∀ (l : List Candidate) (so : List Int), (∀ c ∈ l, m.count c.id = if P c then 1 else 0) →
    nsS m last so l = nsI (nextId (so ++ (l.filter P).map (·.id)) last) (l.filter P)
  | [], so, _ => by simp [nsS, nsI]
  | c :: l, so, h => by
    have hc := h c (by simp)
    have ih := fun so => nsS_eq P m last l so fun y hy => h y (by simp [hy])
    simp only [nsS, hc, List.filter_cons]
    cases hP : P c with
    | false => simp [ih]
    | true => cases hi : c.priority.incremental <;> simp [nsI, hi, ih]
theorem nextStream_s (l : List Candidate) (last : Int) : nsS (mostUrgent l) last [] l = nextStream l last := by
  unfold nextStream
  cases h : areCandidates l with
  | false =>
    have hm : mostUrgent l = [] := by simp [mostUrgent, h]
    rw [hm]
    have key : ∀ (l : List Candidate) (so : List Int), so = [] → nsS [] last so l = -1 := by
      intro l
      induction l with
      | nil => intro so hs; subst hs; rfl
      | cons c l ih => intro so hs; subst hs; simpa [nsS] using ih [] rfl
    simpa using key l [] rfl
  | true =>
    have hm : mostUrgent l = (l.filter fun c => c.priority.urgency == leastFrom 7 l).map (·.id) := by simp [mostUrgent, h, urgent]
    have h1 := nsS_eq (fun c => c.priority.urgency == leastFrom 7 l) (mostUrgent l) last l [] (by rw [hm]; exact count_id _ (areFrom_nodup l none h))
    rw [h1, List.nil_append]
    have h2 : plainNext (urgent l) last = nextId ((urgent l).map (·.id)) last := by simp [plainNext, are_urgent h]
    cases l with
    | nil => rfl
    | cons c l =>
      have h3 : (((c :: l).length : Int) == 0) = false := by simp; omega
      rw [h3]
      simp only [Bool.not_false, Bool.true_and, cond_true, h2]
      rfl
theorem held_end {k : Int} {n i : Nat} (hle : i ≤ (markI k n).length) (hn : (markI k n).drop i = []) : i = n := by
  have := congrArg List.length hn
  simp [markI_len] at this hle
  omega
/-! the order served -/
def serveFrom (l : List Candidate) : Nat → Int → List Int
  | 0, _ => []
  | k + 1, last => nextStream l last :: serveFrom l k (nextStream l last)
def serveOrder (l : List Candidate) (last n : Int) : List Int := bif areCandidates l && !((l.length : Int) == 0) then serveFrom l (min n 100).toNat last else []
theorem count_take {m : List Int} {k : Nat} {x : Int} (h : m[k]? = some x) : (m.take (k + 1)).count x = (m.take k).count x + 1 := by
  rw [List.take_add_one, h]; simp
theorem count_take_ne {m : List Int} {k : Nat} {x y : Int} (h : m[k]? = some y) (hn : (y == x) = false) : (m.take (k + 1)).count x = (m.take k).count x := by
  rw [List.take_add_one, h]
  simp [List.count_cons, hn]
theorem count_take_le (m : List Int) (k : Nat) (x : Int) : (m.take k).count x ≤ m.count x := (List.take_sublist k m).count_le x
theorem serve_step (l : List Candidate) {K i : Nat} (last : Int) (h : i < K) : serveFrom l (K - i) last = nextStream l last :: serveFrom l (K - (i + 1)) (nextStream l last) := by
  have : K - i = (K - (i + 1)) + 1 := by omega
  rw [this]; rfl
theorem serve_end (l : List Candidate) {K i : Nat} (last : Int) (h : K ≤ i) : serveFrom l (K - i) last = [] := by
  rw [Nat.sub_eq_zero_of_le h]; rfl
theorem serveOrder_T {l : List Candidate} (last n : Int) (h1 : areCandidates l = true) (h2 : 0 < l.length) : serveOrder l last n = serveFrom l (min n 100).toNat last := by
  have h3 : ((l.length : Int) == 0) = false := by rw [beq_eq_false_iff_ne]; omega
  unfold serveOrder; rw [h1, h3]; rfl
theorem serveOrder_F {l : List Candidate} (last n : Int) (h1 : areCandidates l = false) : serveOrder l last n = [] := by
  unfold serveOrder; rw [h1]; rfl
theorem serveOrder_E (last n : Int) : serveOrder [] last n = [] := rfl
theorem serveFrom_len (l : List Candidate) : ∀ (k : Nat) (last : Int), (serveFrom l k last).length = k
  | 0, _ => rfl
  | k + 1, last => by simp [serveFrom, serveFrom_len l k]
theorem serveOrder_len (l : List Candidate) (last n : Int) : (serveOrder l last n).length ≤ 100 := by
  unfold serveOrder
  cases areCandidates l && !((l.length : Int) == 0) with
  | false => simp
  | true => simp only [cond_true, serveFrom_len]; omega
theorem gt_pos {n : Nat} (h : 0 < n) : decide ((0 : Int) < (n : Int)) = true := decide_eq_true (by omega)
end Go.Proofs.Ytajcfmibcnibpaa
