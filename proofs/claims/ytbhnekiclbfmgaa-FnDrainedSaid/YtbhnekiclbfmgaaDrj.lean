/- Chunks put together. No program in sight. -/
import Derived.Test.YtbhnekiclbfmgaaDrp
namespace Go.Proofs.Ytbhnekiclbfmgaa
open SL
def joinStep (out : List Chunk) (c : Chunk) : List Chunk :=
  match out.getLast? with
  | none => out ++ [c]
  | some l => bif chunkEnd l == c.offset then out.dropLast ++ [⟨l.offset, l.data ++ c.data⟩] else out ++ [c]
def joinGo : List Chunk → List Chunk → List Chunk
  | out, [] => out
  | out, c :: t => joinGo (joinStep out c) t
def rStep (out : List Range) (r : Range) : List Range :=
  match out.getLast? with
  | none => out ++ [r]
  | some l => bif l.high == r.low then out.dropLast ++ [⟨l.low, r.high⟩] else out ++ [r]
def rGo : List Range → List Range → List Range
  | out, [] => out
  | out, r :: t => rGo (rStep out r) t
theorem seg_app {txt : List UInt8} {a b c : Int} (h0 : 0 ≤ a) (h1 : a ≤ b) (h2 : b ≤ c) : seg txt a b ++ seg txt b c = seg txt a c := by
  obtain ⟨x, rfl⟩ : ∃ x : Nat, a = (x : Int) := ⟨a.toNat, by omega⟩
  obtain ⟨y, rfl⟩ : ∃ y : Nat, b = ((x + y : Nat) : Int) := ⟨(b - x).toNat, by omega⟩
  obtain ⟨z, rfl⟩ : ∃ z : Nat, c = ((x + y + z : Nat) : Int) := ⟨(c - ((x + y : Nat) : Int)).toNat, by omega⟩
  simp only [seg]
  rw [show ((x : Int)).toNat = x by simp, show (((x + y : Nat) : Int) - (x : Int)).toNat = y by omega, show (((x + y : Nat) : Int)).toNat = x + y by omega, show (((x + y + z : Nat) : Int) - ((x + y : Nat) : Int)).toNat = z by omega,
    show (((x + y + z : Nat) : Int) - (x : Int)).toNat = y + z by omega, ← List.drop_drop, List.take_add]
/-- In order, and none before b. -/
def Ord : Int → List Range → Prop
  | _, [] => True
  | b, r :: l => b ≤ r.low ∧ r.low < r.high ∧ Ord r.high l
theorem mkS_app (a b : List UInt8) : mkS a ++ mkS b = mkS (a ++ b) := by
  apply ByteArray.ext
  simp
theorem step_ck {txt : List UInt8} (ht : txt.length ≤ 16) {out : List Range} {r : Range} (hr : 0 ≤ r.low ∧ r.low < r.high) (ho : ∀ x ∈ out, 0 ≤ x.low ∧ x.low < x.high ∧ x.high ≤ txt.length) :
    joinStep (chOf txt out) (ckOf txt r) = chOf txt (rStep out r) := by
  unfold joinStep rStep
  rw [show (chOf txt out).getLast? = out.getLast?.map (ckOf txt) from List.getLast?_map]
  cases hl : out.getLast? with
  | none => simp [chOf]
  | some l =>
    have hm := ho l (List.mem_of_getLast? hl)
    show (bif chunkEnd (ckOf txt l) == r.low then _ else _) = chOf txt (bif l.high == r.low then _ else _)
    rw [ck_end hm.1 hm.2.1 hm.2.2 ht]
    cases he : (l.high == r.low) with
    | false => simp [chOf]
    | true =>
      have e : l.high = r.low := by simpa using he
      simp only [cond_true]
      simp only [chOf, List.map_append, List.map_dropLast, List.map_cons, List.map_nil]
      congr 2
      show Chunk.mk l.low (mkS (seg txt l.low l.high) ++ mkS (seg txt r.low r.high)) = ckOf txt ⟨l.low, r.high⟩
      rw [mkS_app, e, seg_app hm.1 (by omega) (by omega)]; rfl
theorem vf_snoc {x : Range} : ∀ {o : List Range} {b : Int}, Vf b (o ++ [x]) ↔ Vf b o ∧ b < x.low ∧ (∀ y ∈ o, y.high < x.low) ∧ x.low < x.high ∧ x.high ≤ maxQuic
  | [], b => by simp [Vf]
  | y :: o, b => by
    have ih := vf_snoc (x := x) (o := o) (b := y.high)
    show (b < y.low ∧ y.low < y.high ∧ y.high ≤ maxQuic ∧ Vf y.high (o ++ [x])) ↔ (b < y.low ∧ y.low < y.high ∧ y.high ≤ maxQuic ∧ Vf y.high o) ∧ _
    rw [ih]
    constructor
    · rintro ⟨h1, h2, h3, h4, h5, h6, h7, h8⟩
      refine ⟨⟨h1, h2, h3, h4⟩, by omega, fun z hz => ?_, h7, h8⟩
      rcases List.mem_cons.1 hz with rfl | hz
      · exact h5
      · exact h6 z hz
    · rintro ⟨⟨h1, h2, h3, h4⟩, h5, h6, h7, h8⟩
      exact ⟨h1, h2, h3, h4, h6 y (by simp), fun z hz => h6 z (by simp [hz]), h7, h8⟩
theorem lastq_split {α : Type} {o : List α} {l : α} (h : o.getLast? = some l) : o = o.dropLast ++ [l] := by
  have h1 : o ≠ [] := by rintro rfl; cases h
  have h2 := List.dropLast_concat_getLast h1
  rw [List.getLast?_eq_some_getLast h1] at h
  cases h
  exact h2.symm
structure StepOk (out : List Range) (b : Int) : Prop where
  v : Vf (-1) out
  h : ∀ y ∈ out, y.high ≤ b
theorem rStep_ok {out : List Range} {b : Int} {r : Range} (h : StepOk out b) (hb : b ≤ r.low) (h0 : 0 ≤ r.low) (h1 : r.low < r.high) (h2 : r.high ≤ maxQuic) :
    StepOk (rStep out r) r.high ∧ ∀ n, Cov (rStep out r) n ↔ Cov out n ∨ (r.low ≤ n ∧ n < r.high) := by
  have one : ∀ {x : Range} {n : Int}, Cov [x] n ↔ (x.low ≤ n ∧ n < x.high) := fun {x n} => by
    rw [cov_cons]; exact ⟨fun h => h.resolve_right cov_nil, .inl⟩
  have app : (∀ y ∈ out, y.high < r.low) → StepOk (out ++ [r]) r.high ∧ ∀ n, Cov (out ++ [r]) n ↔ Cov out n ∨ (r.low ≤ n ∧ n < r.high) := fun hy => by
    refine ⟨⟨vf_snoc.2 ⟨h.v, by omega, hy, h1, h2⟩, fun y hm => ?_⟩, fun n => by rw [cov_append, one]⟩
    rcases List.mem_append.1 hm with hm | hm
    · have := hy y hm; omega
    · rw [List.mem_singleton.1 hm]; exact Int.le_refl _
  unfold rStep
  cases hl : out.getLast? with
  | none =>
    have : out = [] := List.getLast?_eq_none_iff.1 hl
    exact app (by rw [this]; simp)
  | some l =>
    have hs := lastq_split hl
    have hv := h.v
    rw [hs] at hv
    obtain ⟨v1, v2, v3, v4, v5⟩ := vf_snoc.1 hv
    have hlm := h.h l (List.mem_of_getLast? hl)
    show StepOk (bif l.high == r.low then _ else _) _ ∧ ∀ n, Cov (bif l.high == r.low then _ else _) n ↔ _
    cases he : (l.high == r.low) with
    | false =>
      have he' : l.high ≠ r.low := by simpa using he
      refine app fun y hy => ?_
      rw [hs] at hy
      rcases List.mem_append.1 hy with hy | hy
      · have := v3 y hy; omega
      · rw [List.mem_singleton.1 hy]; omega
    | true =>
      have e : l.high = r.low := by simpa using he
      simp only [cond_true]
      refine ⟨⟨vf_snoc.2 ⟨v1, v2, v3, by show l.low < r.high; omega, h2⟩, fun y hm => ?_⟩, fun n => ?_⟩
      · rcases List.mem_append.1 hm with hm | hm
        · have := v3 y hm; omega
        · rw [List.mem_singleton.1 hm]; exact Int.le_refl _
      · rw [cov_append, one]
        conv => rhs; rw [hs, cov_append, one]
        by_cases hC : Cov out.dropLast n
        · simp only [hC, true_or]
        · simp only [hC, false_or]; omega
theorem rGo_ok : ∀ {l out : List Range} {b : Int}, StepOk out b → 0 ≤ b → Ord b l → (∀ x ∈ l, x.high ≤ maxQuic) → Vf (-1) (rGo out l) ∧ ∀ n, Cov (rGo out l) n ↔ Cov out n ∨ Cov l n
  | [], out, b, h, _, _, _ => ⟨h.v, fun n => ⟨.inl, fun h => h.resolve_right cov_nil⟩⟩
  | r :: l, out, b, h, hb, ho, hm => by
    obtain ⟨o1, o2, o3⟩ := ho
    obtain ⟨s1, s2⟩ := rStep_ok h o1 (by omega) o2 (hm r (by simp))
    obtain ⟨g1, g2⟩ := rGo_ok s1 (by omega) o3 fun x hx => hm x (by simp [hx])
    refine ⟨g1, fun n => ?_⟩
    show Cov (rGo (rStep out r) l) n ↔ _
    rw [g2, s2, cov_cons, or_assoc]
theorem go_ck {txt : List UInt8} (ht : txt.length ≤ 16) : ∀ {l out : List Range}, (∀ x ∈ out, 0 ≤ x.low ∧ x.low < x.high ∧ x.high ≤ txt.length) → (∀ x ∈ l, 0 ≤ x.low ∧ x.low < x.high ∧ x.high ≤ txt.length) →
    joinGo (chOf txt out) (chOf txt l) = chOf txt (rGo out l)
  | [], _, _, _ => rfl
  | r :: l, out, ho, hl => by
    have hr := hl r (by simp)
    show joinGo (joinStep (chOf txt out) (ckOf txt r)) (chOf txt l) = _
    rw [step_ck ht ⟨hr.1, hr.2.1⟩ ho]
    refine go_ck ht (fun x hx => ?_) fun x hx => hl x (by simp [hx])
    unfold rStep at hx
    cases hg : out.getLast? with
    | none => rw [hg] at hx; rcases List.mem_append.1 hx with hx | hx
              · exact ho x hx
              · rw [List.mem_singleton.1 hx]; exact hr
    | some q =>
      rw [hg] at hx
      have hq := ho q (List.mem_of_getLast? hg)
      have hx' : x ∈ (bif q.high == r.low then out.dropLast ++ [⟨q.low, r.high⟩] else out ++ [r]) := hx
      cases he : (q.high == r.low) with
      | false =>
        rw [he] at hx'
        rcases List.mem_append.1 hx' with hx | hx
        · exact ho x hx
        · rw [List.mem_singleton.1 hx]; exact hr
      | true =>
        rw [he] at hx'
        have e : q.high = r.low := by simpa using he
        rcases List.mem_append.1 hx' with hx | hx
        · exact ho x ((List.dropLast_subset _ hx))
        · rw [List.mem_singleton.1 hx]; exact ⟨hq.1, by show q.low < r.high; omega, hr.2.2⟩
/-! ### what an insertion puts together -/
def piecesOf (o e : Int) (D : List UInt8) : Int → List Chunk → List Chunk
  | f, [] => bif decide (f < e) then [⟨f, mkS (seg D (f - o) (e - o))⟩] else []
  | f, c :: t => (bif decide (f < min c.offset e) then [⟨f, mkS (seg D (f - o) (min c.offset e - o))⟩] else []) ++ (c :: piecesOf o e D (max f (chunkEnd c)) t)
def rPieces (e : Int) : Int → List Range → List Range
  | f, [] => bif decide (f < e) then [⟨f, e⟩] else []
  | f, r :: t => (bif decide (f < min r.low e) then [⟨f, min r.low e⟩] else []) ++ (r :: rPieces e (max f r.high) t)
theorem seg_seg {txt : List UInt8} {o e a b : Int} (h0 : 0 ≤ o) (h1 : o ≤ a) (h2 : a ≤ b) (h3 : b ≤ e) : seg (seg txt o e) (a - o) (b - o) = seg txt a b := by
  simp only [seg]
  rw [List.drop_take, List.drop_drop, List.take_take, show o.toNat + (a - o).toNat = a.toNat by omega, show min (b - o - (a - o)).toNat ((e - o).toNat - (a - o).toNat) = (b - a).toNat by omega]
theorem pieces_ck {txt : List UInt8} (ht : txt.length ≤ 16) {o e : Int} (h0 : 0 ≤ o) (he : e ≤ txt.length) : ∀ {l : List Range} {f : Int}, o ≤ f → (∀ x ∈ l, 0 ≤ x.low ∧ x.low < x.high ∧ x.high ≤ txt.length) →
    piecesOf o e (seg txt o e) f (chOf txt l) = chOf txt (rPieces e f l)
  | [], f, hf, _ => by
    show (bif decide (f < e) then _ else _) = chOf txt (bif decide (f < e) then _ else _)
    cases h : decide (f < e) with
    | false => rfl
    | true =>
      have := of_decide_eq_true h
      simp only [cond_true]
      rw [seg_seg h0 hf (by omega) (Int.le_refl _)]; rfl
  | r :: t, f, hf, hl => by
    have hr := hl r (by simp)
    have ih := pieces_ck ht h0 he (l := t) (f := max f r.high) (by omega) fun x hx => hl x (by simp [hx])
    show (bif decide (f < min r.low e) then [⟨f, mkS (seg (seg txt o e) (f - o) (min r.low e - o))⟩] else []) ++ (ckOf txt r :: piecesOf o e (seg txt o e) (max f (chunkEnd (ckOf txt r))) (chOf txt t)) = chOf txt ((bif decide (f < min r.low e) then [⟨f, min r.low e⟩] else []) ++ (r :: rPieces e (max f r.high) t))
    rw [ck_end hr.1 hr.2.1 hr.2.2 ht, ih]
    cases h : decide (f < min r.low e) with
    | false => rfl
    | true =>
      have := of_decide_eq_true h
      simp only [cond_true]
      rw [seg_seg h0 hf (by omega) (by omega)]; rfl
theorem pieces_ord {e : Int} : ∀ {l : List Range} {f b c : Int}, Vf c l → b ≤ f → b ≤ c + 1 → Ord b (rPieces e f l)
  | [], f, b, c, _, hb, _ => by
    show Ord b (bif decide (f < e) then [⟨f, e⟩] else [])
    cases h : decide (f < e) with
    | false => trivial
    | true => exact ⟨hb, of_decide_eq_true h, trivial⟩
  | r :: t, f, b, c, hv, hb, hc => by
    have ih := pieces_ord (e := e) (f := max f r.high) (b := r.high) hv.2.2.2 (by omega) (by omega)
    have h1 := hv.1
    have h2 := hv.2.1
    show Ord b ((bif decide (f < min r.low e) then [⟨f, min r.low e⟩] else []) ++ (r :: rPieces e (max f r.high) t))
    cases h : decide (f < min r.low e) with
    | false => exact ⟨by omega, h2, ih⟩
    | true =>
      have := of_decide_eq_true h
      exact ⟨hb, this, by show min r.low e ≤ r.low; omega, h2, ih⟩
theorem pieces_cov {e : Int} : ∀ {l : List Range} {f n : Int}, (∀ x ∈ l, x.low < x.high) → (Cov (rPieces e f l) n ↔ Cov l n ∨ (f ≤ n ∧ n < e))
  | [], f, n, _ => by
    show Cov (bif decide (f < e) then [⟨f, e⟩] else []) n ↔ _
    rw [cov_if]
    constructor
    · rintro ⟨_, h⟩; exact .inr h
    · rintro (h | h)
      · exact absurd h cov_nil
      · exact ⟨by omega, h⟩
  | r :: t, f, n, hl => by
    have ih := pieces_cov (e := e) (l := t) (f := max f r.high) (n := n) fun x hx => hl x (by simp [hx])
    have hr := hl r (by simp)
    show Cov ((bif decide (f < min r.low e) then [⟨f, min r.low e⟩] else []) ++ (r :: rPieces e (max f r.high) t)) n ↔ _
    rw [cov_append, cov_if, cov_cons, ih, cov_cons]
    by_cases hC : Cov t n
    · simp only [hC, true_or, or_true]
    · simp only [hC, false_or, or_false]; omega
/-- An insertion adds to what was received. -/
theorem ins_law {W : Nat} {txt : List UInt8} {s : Sender} (h : VC W s) (ht : txt.length = W) {r : Range} (hr : isRange r = true) (hW : r.high ≤ W) :
    joinGo [] (piecesOf r.low r.high (seg txt r.low r.high) r.low (chOf txt s.acked)) = chOf txt (addRange s.acked r) := by
  have h16 := h.hW
  have hr' := hr
  simp only [isRange, Bool.and_eq_true, decide_eq_true_eq] at hr'
  have hl : ∀ x ∈ s.acked, 0 ≤ x.low ∧ x.low < x.high ∧ x.high ≤ txt.length := fun x hx => by
    have h1 := h.va.isRange (by omega) x hx
    simp only [isRange, Bool.and_eq_true, decide_eq_true_eq] at h1
    have h2 := h.xa x hx
    exact ⟨h1.1.1, h1.1.2, by omega⟩
  rw [pieces_ck (by omega) hr'.1.1 (by omega) (Int.le_refl _) hl]
  have ho := pieces_ord (e := r.high) (f := r.low) (b := 0) h.va hr'.1.1 (by omega)
  have hc := fun n => pieces_cov (e := r.high) (l := s.acked) (f := r.low) (n := n) fun x hx => (hl x hx).2.1
  have hp : ∀ x ∈ rPieces r.high r.low s.acked, 0 ≤ x.low ∧ x.low < x.high ∧ x.high ≤ txt.length := by
    have key : ∀ {l : List Range} {b : Int}, 0 ≤ b → Ord b l → (∀ n, Cov l n → n < txt.length) → ∀ x ∈ l, 0 ≤ x.low ∧ x.low < x.high ∧ x.high ≤ txt.length := by
      intro l
      induction l with
      | nil => intro _ _ _ _ x hx; cases hx
      | cons y l ih =>
        intro b hb ho hn x hx
        have hy := hn (y.high - 1) (cov_cons.2 (.inl ⟨by have := ho.2.1; omega, by omega⟩))
        have hb1 := ho.1; have hb2 := ho.2.1
        rcases List.mem_cons.1 hx with rfl | hx
        · exact ⟨by omega, hb2, by omega⟩
        · exact ih (by omega) ho.2.2 (fun n hn' => hn n (cov_cons.2 (.inr hn'))) x hx
    refine key (Int.le_refl 0) ho fun n hn => ?_
    rcases (hc n).1 hn with h1 | h1
    · have := h.xa.cov_lt h1; omega
    · omega
  have e := go_ck (txt := txt) (by omega) (l := rPieces r.high r.low s.acked) (out := []) (by simp) hp
  show joinGo (chOf txt []) _ = _
  rw [e]
  congr 1
  obtain ⟨g1, g2⟩ := rGo_ok (l := rPieces r.high r.low s.acked) (out := []) (b := 0) ⟨trivial, by simp⟩ (Int.le_refl 0) ho fun x hx => by have := (hp x hx).2.2; unfold maxQuic; omega
  refine canon g1 (addRange_vf h.va) fun n => ?_
  rw [g2, hc, add_cov h.va hr]
  exact ⟨fun h => h.resolve_left cov_nil, .inr⟩
end Go.Proofs.Ytbhnekiclbfmgaa
