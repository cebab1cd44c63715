/- What the law of a drained sender asks for. -/
import Derived.Test.YtbhnekiclbfmgaaSli
namespace Go.Proofs.Ytbhnekiclbfmgaa
namespace SL
open Go.RowKit
section
variable {C : Cx} {env : Env} {B F : List Ck} {ops : Array Oper} {rest : List Oper}
variable {K : Env → List Ck → Act → World → Prop} {d E kk bytes : Nat} {zs : List Value} {ty T t yt : TypeId} {pos : String} {af : Array Edge} {x y : Operand}
theorem rw_remE {IK : IntKind} {p q r : Int} (hd : Nat.blt d C.n = true) (hx : ev env x = some (.int IK p)) (hy : ev env y = some (.int IK q)) (hq : q ≠ 0) (e : p.tmod q = r) (h : RW C ops rest K ((d, .int IK r) :: env) B F) :
    RW C ops (⟨some d, .binOp .rem t x y yt, ty, pos, af, none⟩ :: rest) K env B F := by subst e; exact rw_rem hd hx hy hq h
theorem rd_drop {α : Type} {k c m : Nat} {R : World → List Value → α → Prop} {A : Option Addr} {l : List α} (hl : l.length ≤ c) (hA : 0 < l.length → A = some (adr A)) (w : World) (h : RdL w k R A l) :
    RdL w k R (if c = m then A else A.map (·.add (m * k))) (l.drop m) := by
  by_cases h1 : (l.drop m).length = 0
  · rw [List.eq_nil_of_length_eq_zero h1]; exact RdL.nil _ _ _ _
  · rw [List.length_drop] at h1
    have hc : ¬ c = m := by omega
    rw [if_neg hc]
    have hA' := hA (by omega)
    refine ⟨fun _ => by rw [hA']; exact ⟨_, rfl⟩, fun i z hz => ?_⟩
    obtain ⟨cs, g1, g2⟩ := h.2 (m + i) z (by rw [List.getElem?_drop] at hz; exact hz)
    refine ⟨cs, g1, ?_⟩
    rw [hA']
    show At w (((adr A).add (m * k)).add (i * k)) cs
    rw [add_add, ← Nat.add_mul]; exact g2
theorem rd_take {α : Type} {k m : Nat} {R : World → List Value → α → Prop} {A : Option Addr} {l : List α} (w : World) (h : RdL w k R A l) : RdL w k R A (l.take m) := by
  refine ⟨fun h0 => h.1 (by rw [List.length_take] at h0; omega), fun i z hz => ?_⟩
  rw [List.getElem?_take] at hz
  split at hz
  · exact h.2 i z hz
  · cases hz
theorem ow_cap {α : Type} {O : List Value → α → List Ck → Prop} {n c : Nat} {A : Option Addr} {l : List α} {ch : List Ck} (hO : OwA E kk O (.slice A n c) l ch) : n = l.length ∧ l.length ≤ c ∧ (0 < l.length → A = some (adr A)) := by
  rcases hO with ⟨A', h1, rfl, _⟩ | ⟨g, cap, cs, rs, chs, h1, _, _, h3, _, _⟩
  · cases h1; exact ⟨rfl, Nat.le_refl _, fun h => absurd h (by simp)⟩
  · cases h1; exact ⟨rfl, h3, fun _ => rfl⟩
/-- The first k of an owned slice. -/
theorem rw_partHi {α : Type} {f : α → List Value} {n c k : Nat} {A : Option Addr} {l : List α} {ch : List Ck} {IK : IntKind} {p : Int} (hd : Nat.blt d C.n = true) (hT : TyM C.P T E kk bytes zs) (hO : OwA E kk (PlO f) (.slice A n c) l ch) (hk : k < l.length)
    (hx : ev env x = some (.slice A n c)) (hy : ev env y = some (.int IK p)) (hp : p = (k : Int)) (h : RW C ops rest K ((d, .slice A (l.take k).length c) :: env) B F) :
    RW C ops (⟨some d, .slice T x none (some y) none, ty, pos, af, none⟩ :: rest) K env B F := by
  obtain ⟨rfl, hc, hA⟩ := ow_cap hO
  obtain ⟨a, ha⟩ : ∃ a, A = some a := ⟨_, hA (by omega)⟩
  obtain ⟨b, off, fl⟩ := a
  have hfl : fl = none := by
    rcases hO with ⟨A', h1, rfl, _⟩ | ⟨g, cap, cs, rs, chs, h1, _, _, h3, _, _⟩
    · simp at hk
    · cases h1; cases ha; rfl
  subst hfl ha
  have hn : (l.take k).length = k := by rw [List.length_take]; omega
  rw [hn] at h
  exact rw_sliceHi hd hT hx hy hp (by omega) (by omega) h
/-- An owned slice without its first m. -/
theorem rw_partLo {α : Type} {f : α → List Value} {n c m : Nat} {A : Option Addr} {l : List α} {ch : List Ck} {IK : IntKind} {p : Int} (hd : Nat.blt d C.n = true) (hT : TyM C.P T E kk bytes zs) (hO : OwA E kk (PlO f) (.slice A n c) l ch) (hm : m ≤ l.length)
    (hx : ev env x = some (.slice A n c)) (hy : ev env y = some (.int IK p)) (hp : p = (m : Int)) (h : RW C ops rest K ((d, .slice (if c = m then A else A.map (·.add (m * kk))) (l.drop m).length (c - m)) :: env) B F) :
    RW C ops (⟨some d, .slice T x (some y) none none, ty, pos, af, none⟩ :: rest) K env B F := by
  subst hp
  obtain ⟨rfl, hc, hA⟩ := ow_cap hO
  have g1 : sliced A m l.length c kk = .slice (if c = m then A else A.map (·.add (m * kk))) (l.drop m).length (c - m) := by simp [sliced]
  rw [← g1] at h
  refine rw_step hd (fun ρ hρ E' w hs => ⟨w, ?_, hs⟩) h
  have h1 := run_slice_l (P := C.P) (w := w) T A l.length c (und_elem hT.und) IK (m : Int) (by omega) (by omega)
  obtain ⟨ti, z, hi', hz, hsz, hby, hzs⟩ := hT.spec
  have h2 : (sizeOf (C.P.elem T)).run C.P w = .ok kk w := by rw [elem_of hT.und]; exact run_sizeOf_of (by simp [hi', hsz]) w
  have h3 : (Instr.sliceAt T (.slice A l.length c) (some (.int IK (m : Int))) none none).run C.P w = .ok (sliced A m l.length c kk) w := by
    rw [run_sliceAt_slice w T _ _ _ _ (und_elem hT.und), h1, h2]; simp [Result.andThen]
  simp [execOp, hρ x _ hx, hρ y _ hy, h3]
theorem rd_lo {α : Type} {f : α → List Value} {n c m : Nat} {A : Option Addr} {l : List α} {ch : List Ck} (e : Elem kk (PlO f) (Pl f)) (hO : OwA E kk (PlO f) (.slice A n c) l ch) (w : World) (hin : ∀ c ∈ ch, c.In w) : RdL w kk (Pl f) (if c = m then A else A.map (·.add (m * kk))) (l.drop m) := by
  obtain ⟨rfl, hc, hA⟩ := ow_cap hO
  obtain ⟨_, _, _, hrd⟩ := (OwA.s hO).reshape e
  exact rd_drop hc hA w (hrd w hin)
theorem rd_hi {α : Type} {f : α → List Value} {n c m : Nat} {A : Option Addr} {l : List α} {ch : List Ck} (e : Elem kk (PlO f) (Pl f)) (hO : OwA E kk (PlO f) (.slice A n c) l ch) (w : World) (hin : ∀ c ∈ ch, c.In w) : RdL w kk (Pl f) A (l.take m) := by
  obtain ⟨rfl, hc, hA⟩ := ow_cap hO
  obtain ⟨_, _, _, hrd⟩ := (OwA.s hO).reshape e
  exact rd_take w (hrd w hin)
variable {k : List Item}
theorem gw_caseB {t : Bool} {j : Nat} (_ : look env j = some (.bool t)) (h1 : t = true → GW C k env B F) (h2 : t = false → GW C k env B F) : GW C k env B F := by
  cases t
  · exact h2 rfl
  · exact h1 rfl
theorem gw_key2 {P : Prop} {c : Code} (d : Nat) (e' : Env) (_ : Sub e' env) (h1 : P → GW C k ((d, .bool true) :: e') B F) (h2 : GW C k ((d, .bool false) :: e') B F)
    (h3 : (P → GW C k ((d, .bool true) :: e') B F) → GW C k ((d, .bool false) :: e') B F → GW C (.code c :: k) env B F) : GW C (.code c :: k) env B F := h3 h1 h2
end
end SL
open SL
theorem ePiece : Elem 3 (PlO Piece.cells) (Pl Piece.cells) := Elem.plain (fun _ => rfl) (fun p u hu => by
  simp only [Piece.cells, List.mem_cons, List.not_mem_nil, or_false] at hu
  rcases hu with rfl | rfl | rfl <;> rfl)
def abc : List UInt8 := [97, 98, 99, 100, 101, 102, 103, 104, 105, 106, 107, 108, 109, 110, 111, 112]
def atV (l : List UInt8) (i : Nat) : Int := match l[i]? with
  | some u => IntKind.i64.wrap ((u.toNat : Nat) : Int)
  | none => Int.tmod (IntKind.i64.wrap (IntKind.i64.wrap ((i : Int) * 37) + IntKind.i64.wrap ((l.length : Int) * 11))) 256
theorem atV_some {l : List UInt8} {i : Nat} {u : UInt8} (h : l[i]? = some u) : atV l i = IntKind.i64.wrap ((u.toNat : Nat) : Int) := by unfold atV; rw [h]
theorem atV_none {l : List UInt8} {i : Nat} (h : l.length ≤ i) : atV l i = Int.tmod (IntKind.i64.wrap (IntKind.i64.wrap ((i : Int) * 37) + IntKind.i64.wrap ((l.length : Int) * 11))) 256 := by
  unfold atV; rw [List.getElem?_eq_none h]
theorem atV_nn {l : List UInt8} (hl : l.length ≤ 1048576) {i : Nat} (hi : i ≤ 1000) : 0 ≤ atV l i := by
  unfold atV
  cases l[i]? with
  | some u =>
    have := u.toNat_lt
    have e : IntKind.i64.wrap ((u.toNat : Nat) : Int) = (u.toNat : Int) := w64_id (by omega) (by omega)
    show 0 ≤ IntKind.i64.wrap _
    rw [e]; omega
  | none =>
    have e1 : IntKind.i64.wrap ((i : Int) * 37) = (i : Int) * 37 := w64_id (by omega) (by omega)
    have e2 : IntKind.i64.wrap ((l.length : Int) * 11) = (l.length : Int) * 11 := w64_id (by omega) (by omega)
    show 0 ≤ Int.tmod _ 256
    have e3 : IntKind.i64.wrap ((i : Int) * 37 + (l.length : Int) * 11) = (i : Int) * 37 + (l.length : Int) * 11 := w64_id (by omega) (by omega)
    rw [e1, e2, e3]
    exact Int.tmod_nonneg 256 (by omega)
theorem at_rem {l : List UInt8} (hl : l.length ≤ 1048576) {i : Nat} (hi : i ≤ 1000) {m : Nat} (hm : 0 < m) : ∃ k : Nat, (atV l i).tmod (m : Int) = (k : Int) ∧ k < m := by
  have h0 := atV_nn hl hi
  have h1 := Int.tmod_nonneg (m : Int) h0
  have h2 := Int.tmod_lt_of_pos (atV l i) (show (0 : Int) < (m : Int) by omega)
  exact ⟨((atV l i).tmod (m : Int)).toNat, by omega, by omega⟩
theorem at_most {l : List UInt8} (hl : l.length ≤ 1048576) {i : Nat} (hi : i ≤ 1000) : 1 ≤ IntKind.i64.wrap (1 + (atV l i).tmod 5) ∧ IntKind.i64.wrap (1 + (atV l i).tmod 5) ≤ 5 := by
  obtain ⟨k, h1, h2⟩ := at_rem hl hi (m := 5) (by omega)
  have h1 : (atV l i).tmod 5 = (k : Int) := h1
  have e : IntKind.i64.wrap (1 + (k : Int)) = 1 + (k : Int) := w64_id (by omega) (by omega)
  rw [h1, e]; omega
theorem abc_len {n : Nat} (h : n < 17) : (abc.take n).length = n := by
  rw [List.length_take]; show min n 16 = n; omega
/-! ### an insertion is a small one -/
theorem vf_half : ∀ {l : List Range} {b e : Int}, Vf b l → Hb e l → b ≤ e → 2 * (l.length : Int) ≤ e - b
  | [], _, _, _, _, h => by simp; omega
  | r :: t, b, e, hv, hb, h => by
    have ih := vf_half hv.2.2.2 hb.cons.2 (by have := hb.cons.1; omega)
    have h1 := hv.1; have h2 := hv.2.1
    simp only [List.length_cons]; omega
theorem rp_past {e : Int} : ∀ {l : List Range} {f : Int}, e ≤ f → (rPieces e f l).length = l.length
  | [], f, h => by
    show (bif decide (f < e) then [(⟨f, e⟩ : Range)] else []).length = 0
    rw [show decide (f < e) = false by rw [decide_eq_false_iff_not]; omega]; rfl
  | r :: t, f, h => by
    have ih := rp_past (e := e) (l := t) (f := max f r.high) (by omega)
    show ((bif decide (f < min r.low e) then [(⟨f, min r.low e⟩ : Range)] else []) ++ (r :: rPieces e (max f r.high) t)).length = _
    rw [show decide (f < min r.low e) = false by rw [decide_eq_false_iff_not]; omega]
    simp only [cond_false, List.nil_append, List.length_cons, ih]
theorem rp_len {e : Int} : ∀ {l : List Range} {f : Int}, (∀ x ∈ l, x.low < x.high ∧ (x.high ≤ f ∨ e ≤ x.low)) → (rPieces e f l).length ≤ l.length + 1
  | [], f, _ => by
    show (bif decide (f < e) then [(⟨f, e⟩ : Range)] else []).length ≤ 1
    cases decide (f < e) <;> simp
  | r :: t, f, h => by
    have hr := h r (by simp)
    show ((bif decide (f < min r.low e) then [(⟨f, min r.low e⟩ : Range)] else []) ++ (r :: rPieces e (max f r.high) t)).length ≤ _
    rcases hr.2 with h1 | h1
    · rw [show decide (f < min r.low e) = false by rw [decide_eq_false_iff_not]; omega, show max f r.high = f by omega]
      have ih := rp_len (l := t) (f := f) fun x hx => h x (by simp [hx])
      simp only [cond_false, List.nil_append, List.length_cons]; omega
    · have := rp_past (e := e) (l := t) (f := max f r.high) (by omega)
      rw [List.length_append, List.length_cons, this, List.length_cons]
      cases decide (f < min r.low e) <;> simp <;> omega
theorem ord_mem : ∀ {l : List Range} {b : Int}, Ord b l → 0 ≤ b → ∀ x ∈ l, 0 ≤ x.low ∧ x.low < x.high
  | [], _, _, _, _, h => by cases h
  | r :: t, b, ho, hb, x, h => by
    have h1 := ho.1; have h2 := ho.2.1
    rcases List.mem_cons.1 h with rfl | h
    · exact ⟨by omega, h2⟩
    · exact ord_mem ho.2.2 (by omega) x h
theorem ord_next : ∀ {l : List Range} {b : Int}, Ord b l → ∀ (i : Nat) (x y : Range), l[i]? = some x → l[i + 1]? = some y → x.low < y.low
  | [], _, _, _, _, _, h, _ => by simp at h
  | [r], _, _, 0, _, _, _, h => by simp at h
  | [r], _, _, _ + 1, _, _, h, _ => by simp at h
  | r :: s :: t, b, ho, 0, x, y, hx, hy => by
    have hx : r = x := by simpa using hx
    have hy : s = y := by simpa using hy
    subst hx hy
    have h1 := ho.2.1; have h2 := ho.2.2.1
    omega
  | r :: s :: t, b, ho, i + 1, x, y, hx, hy => ord_next (l := s :: t) ho.2.2 i x y (by simpa using hx) (by simpa using hy)
/-- What is put together has at most 12 pieces, in order, none long. -/
theorem ins_facts2 {W : Nat} {txt : List UInt8} {s : Sender} {o e : Int} (h : VC W s) (ht : txt.length = W) (h0 : 0 ≤ o) (_ : o < e) (h2 : e ≤ W) (hd : ∀ x ∈ s.acked, x.high ≤ o ∨ e ≤ x.low) :
    (piecesOf o e (seg txt o e) o (chOf txt s.acked)).length ≤ 12 ∧ SortedC (piecesOf o e (seg txt o e) o (chOf txt s.acked)) ∧ ∀ c ∈ piecesOf o e (seg txt o e) o (chOf txt s.acked), c.data.size ≤ 16 := by
  have h16 := h.hW
  have hl : ∀ x ∈ s.acked, 0 ≤ x.low ∧ x.low < x.high ∧ x.high ≤ txt.length := fun x hx => by
    have h1 := h.va.isRange (by omega) x hx
    simp only [isRange, Bool.and_eq_true, decide_eq_true_eq] at h1
    have h2 := h.xa x hx
    exact ⟨h1.1.1, h1.1.2, by omega⟩
  rw [pieces_ck (by omega) h0 (by omega) (Int.le_refl _) hl]
  have ho := pieces_ord (e := e) (f := o) (b := 0) h.va h0 (by omega)
  have hc := fun n => pieces_cov (e := e) (l := s.acked) (f := o) (n := n) fun x hx => (hl x hx).2.1
  have hm := ord_mem ho (Int.le_refl 0)
  have hh : ∀ x ∈ rPieces e o s.acked, x.high ≤ txt.length := fun x hx => by
    have hx1 := (hm x hx).2
    have := (hc (x.high - 1)).1 ⟨x, hx, by omega, by omega⟩
    rcases this with h3 | h3
    · have := h.xa.cov_lt h3; omega
    · omega
  refine ⟨?_, fun i x y hx hy => ?_, fun c hc' => ?_⟩
  · have a := rp_len (e := e) (l := s.acked) (f := o) fun x hx => ⟨(hl x hx).2.1, hd x hx⟩
    have b := vf_half h.va h.xa (by omega)
    simp only [chOf, List.length_map]; omega
  · simp only [chOf, List.getElem?_map, Option.map_eq_some_iff] at hx hy
    obtain ⟨r, hr, rfl⟩ := hx
    obtain ⟨q, hq, rfl⟩ := hy
    have a := ord_next ho i r q hr hq
    have b := hm r (List.mem_of_getElem? hr)
    have c := hm q (List.mem_of_getElem? hq)
    have d := hh q (List.mem_of_getElem? hq)
    refine ⟨b.1, a, ?_⟩
    show q.low ≤ maxQuic
    unfold maxQuic; omega
  · obtain ⟨r, hr, rfl⟩ := List.mem_map.1 hc'
    have b := hm r hr
    have := ck_size b.1 b.2 (hh r hr)
    have := hh r hr
    omega
theorem disj_range {l : List Range} {o e : Int} (hv : Vf (-1) l) (ho : o < e) (h : ∀ n, o ≤ n → n < e → ¬ Cov l n) : ∀ x ∈ l, x.high ≤ o ∨ e ≤ x.low := fun x hx => by
  have h1 := hv.isRange (by omega) x hx
  simp only [isRange, Bool.and_eq_true, decide_eq_true_eq] at h1
  by_cases ha : x.high ≤ o
  · exact .inl ha
  by_cases hb : e ≤ x.low
  · exact .inr hb
  exfalso
  exact h (max o x.low) (by omega) (by omega) ⟨x, hx, by omega, by omega⟩
theorem ck_le {W : Nat} {txt : List UInt8} {s : Sender} (h : VC W s) (ht : txt.length = W) : (chOf txt s.acked).length ≤ 12 ∧ ∀ c ∈ chOf txt s.acked, c.data.size ≤ 16 := by
  have h16 := h.hW
  have b := vf_half h.va h.xa (by omega)
  refine ⟨by simp only [chOf, List.length_map]; omega, fun c hc => ?_⟩
  obtain ⟨r, hr, rfl⟩ := List.mem_map.1 hc
  have h1 := h.va.isRange (by omega) r hr
  simp only [isRange, Bool.and_eq_true, decide_eq_true_eq] at h1
  have h2 := h.xa r hr
  have := ck_size h1.1.1 h1.1.2 (show r.high ≤ txt.length by omega)
  omega
theorem rc_le {W : Nat} {txt : List UInt8} {s : Sender} (h : VC W s) (ht : txt.length = W) (hi : Int) : (recvOf txt s hi).le 1048576 := by
  obtain ⟨h1, h2⟩ := ck_le h ht
  exact ⟨Nat.le_trans h1 (by decide), fun c hc => Nat.le_trans (h2 c hc) (by decide)⟩
theorem data_list {txt : List UInt8} {q : Piece} (h : PieceOk txt q) : q.data.data.toList = seg txt q.offset (q.offset + (q.data.data.toList.length : Int)) := congrArg (fun b : ByteArray => b.data.toList) h.data
/-- A piece that comes may be received; what it makes. -/
theorem recv_ok2 {W : Nat} {txt : List UInt8} {s : Sender} {ps : List Piece} {hi : Int} {q : Piece} {k : Nat} (h : Inv W txt s ps hi) (hq : ps[k]? = some q) :
    RecOk (recvOf txt s hi) q.offset q.data.data.toList q.fin ∧
    recvM (recvOf txt s hi) q.offset (w64 (q.offset + (q.data.data.toList.length : Int))) q.data.data.toList q.fin = recvOf txt (ackP s q) (max hi (q.offset + (q.data.size : Int))) := by
  have o := out_ok h.ps hq
  have hs := setOk h hq
  have h16 := h.vs.hW; have ht := h.ht
  have hW := o.ok.hW; have h00 := o.ok.h0
  have hv := h.vs.toVC
  have hi0 := h.hi.h0; have hiW := h.hi.hW; have hrf := hv.rfin
  have hlen : q.data.data.toList.length = q.data.size := rfl
  have hdl : q.data.data.toList = seg txt q.offset (q.offset + (q.data.size : Int)) := data_list o.ok
  have he : w64 (q.offset + (q.data.data.toList.length : Int)) = q.offset + (q.data.size : Int) := o.ok.w (by omega)
  have hst := recv_step h o
  have hbuf := congrArg (fun r : Receiver => r.buffer) hst
  obtain ⟨c1, c2⟩ := ck_le hv ht
  have hA := (ack_step h o).vs.toVC
  obtain ⟨d1, d2⟩ := ck_le hA (by rw [ht])
  have hins : q.data.data.toList.length ≠ 0 → (piecesOf q.offset (q.offset + (q.data.data.toList.length : Int)) q.data.data.toList q.offset (chOf txt s.acked)).length ≤ 12 ∧
      SortedC (piecesOf q.offset (q.offset + (q.data.data.toList.length : Int)) q.data.data.toList q.offset (chOf txt s.acked)) ∧
      ∀ c ∈ piecesOf q.offset (q.offset + (q.data.data.toList.length : Int)) q.data.data.toList q.offset (chOf txt s.acked), c.data.size ≤ 16 := fun hne => by
    rw [hlen, hdl]
    refine ins_facts2 hv ht h00 (by omega) (by omega) (disj_range hv.va (by omega) fun n a b hc => ?_)
    have hf := o.cov n ⟨a, b⟩
    rcases hv.part n (by omega) (by omega) with ⟨_, x, _⟩ | ⟨_, _, x⟩ | ⟨_, x, _⟩
    · exact x hf
    · exact x hc
    · exact x hf
  have emax : max q.offset (recvOf txt s hi).buffer.next = q.offset := by show max q.offset 0 = _; omega
  refine ⟨⟨recv_ok hv ht h.hi, ⟨recv_buf hv ht hi, c1, c2, h00, by rw [hlen]; omega, rfl, fun hne => ?_, fun hne => ?_, fun hne => ?_⟩, ?_, ?_, ?_⟩, ?_⟩
  · rw [emax]; exact (hins hne).1
  · rw [emax]; exact (hins hne).2.1
  · rw [emax]; exact (hins hne).2.2
  · rw [he]
    show (!((bif s.fin == 3 then s.ring.fin else -1) == -1) && decide ((bif s.fin == 3 then s.ring.fin else -1) < q.offset + (q.data.size : Int)) || q.fin && (!((bif s.fin == 3 then s.ring.fin else -1) == -1) && !(q.offset + (q.data.size : Int) == (bif s.fin == 3 then s.ring.fin else -1)) || decide (q.offset + (q.data.size : Int) < hi))) = false
    have e1 : decide (s.ring.fin < q.offset + (q.data.size : Int)) = false := by rw [decide_eq_false_iff_not]; omega
    cases hf : q.fin with
    | false => cases s.fin == 3 <;> simp [e1]
    | true =>
      have hs2 := o.fin hf
      have e2 : (s.fin == 3) = false := by rw [beq_eq_false_iff_ne]; omega
      have hf2 := o.ok.fin hf
      have e3 : decide (q.offset + (q.data.size : Int) < hi) = false := by rw [decide_eq_false_iff_not]; omega
      rw [e2, e3]; rfl
  · show ((bif s.fin == 3 then (bif s.ring.base == s.ring.fin then (2 : Int) else 1) else 0) == 0 || (bif s.fin == 3 then (bif s.ring.base == s.ring.fin then (2 : Int) else 1) else 0) == 1) = true
    cases h3 : (s.fin == 3) with
    | false => rfl
    | true =>
      cases hb : (s.ring.base == s.ring.fin) with
      | false => rfl
      | true =>
        exfalso
        refine hs.s3 ?_
        rw [h.vs.st]; unfold following; rw [h3, hb]; rfl
  · rw [he, hdl]
    have : insM (recvOf txt s hi).buffer q.offset (q.offset + (q.data.size : Int)) (seg txt q.offset (q.offset + (q.data.size : Int))) = (recvOf txt (ackP s q) (max hi (q.offset + (q.data.size : Int)))).buffer := hbuf
    rw [this]
    exact ⟨Nat.le_trans d1 (by decide), fun c hc => Nat.le_trans (d2 c hc) (by decide)⟩
  · rw [he, hdl]; exact hst
/-- All was received. -/
theorem take_end {W : Nat} {txt : List UInt8} {s : Sender} {ps : List Piece} {hi : Int} (h : Inv W txt s ps hi) (h3 : s.state = 3) :
    ps = [] ∧ isReceiver (recvOf txt s hi) = true ∧ (recvOf txt s hi).state = 2 ∧ TakeOk (recvOf txt s hi).buffer txt := by
  obtain ⟨e1, e2, e3⟩ := the_end h h3
  have h16 := h.vs.hW; have ht := h.ht
  have hv := h.vs.toVC
  refine ⟨e1, recv_ok hv ht h.hi, e2, ⟨rc_le hv ht hi, ?_, by omega, fun hne => ?_⟩⟩
  · rw [recv_ready hv ht hi, h.vs.base, e3, ht]
    by_cases hW : W = 0
    · rw [if_pos hW, hW]; rfl
    · rw [if_neg hW]
      have hvf : Vf (-1) [(⟨0, (W : Int)⟩ : Range)] := ⟨by show (-1 : Int) < 0; omega, by show (0 : Int) < W; omega, by show (W : Int) ≤ maxQuic; unfold maxQuic; omega, trivial⟩
      rw [gap_cons hvf]; simp
  · show (chOf txt s.acked)[0]? = some ⟨0, mkS txt⟩
    rw [e3, if_neg (by omega)]
    show some (ckOf txt ⟨0, (W : Int)⟩) = _
    unfold ckOf seg
    have : (List.drop (0 : Int).toNat txt).take ((W : Int) - 0).toNat = txt := by
      rw [show (0 : Int).toNat = 0 from rfl, List.drop_zero, show ((W : Int) - 0).toNat = txt.length by omega, List.take_length]
    show some (Chunk.mk 0 (mkS ((List.drop (0 : Int).toNat txt).take ((W : Int) - 0).toNat))) = _
    rw [this]
theorem next_ok2 {W : Nat} {txt : List UInt8} {s : Sender} {ps : List Piece} {hi : Int} (h : Inv W txt s ps hi) {m : Int} (hm : 1 ≤ m ∧ m ≤ 5) (hf : (nextI s m 100).2 = true) : s.state ≠ 3 ∧ NextOk W txt s (nextI s m 100).1 := by
  have h3 : s.state ≠ 3 := fun e => by
    have : isActive s = false := by unfold isActive; rw [e]; simp [within]
    rw [nextI_not this] at hf; cases hf
  exact ⟨h3, next_ok h.vs h3 h.ht h.rc hm hf⟩
end Go.Proofs.Ytbhnekiclbfmgaa
