/- Tables: models and plain laws. -/
import Derived.Test.YtbhnekiclbfmgaaGreatStr
import Derived.Test.YtbhnekiclbfmgaaGreatPut
namespace Go.Proofs.YtbhnekiclbfmgaaGreat
open SL Go.RowKit
/-! ### checks of tables -/
def okP : Option Int → Stream → Bool
  | none, _ => true
  | some q, x => decide (q < x.id)
def areGo (f : Stream → Bool) : Option Int → List Stream → Bool
  | _, [] => true
  | p, x :: t => f x && okP p x && areGo f (some x.id) t
def pv (l : List Stream) : Nat → Option Int
  | 0 => none
  | k + 1 => (l[k]?).map (·.id)
theorem are_step {f : Stream → Bool} {l : List Stream} {i : Nat} {x : Stream} (hd : l.drop i = x :: l.drop (i + 1)) (hx : l[i]? = some x) :
    areGo f (pv l i) (l.drop i) = (f x && okP (pv l i) x && areGo f (pv l (i + 1)) (l.drop (i + 1))) := by
  rw [hd, areGo, show pv l (i + 1) = some x.id by simp [pv, hx]]
theorem okP_zero {l : List Stream} {i : Nat} {x : Stream} (h : i = 0) : okP (pv l i) x = true := by
  subst h; rfl
theorem pv_pos {l : List Stream} {i : Nat} {y : Stream} (h : 0 < i) (hy : l[i - 1]? = some y) : pv l i = some y.id := by
  obtain ⟨k, rfl⟩ : ∃ k, i = k + 1 := ⟨i - 1, by omega⟩
  have : l[k]? = some y := by simpa using hy
  simp [pv, this]
theorem okP_pos {l : List Stream} {i : Nat} {x y : Stream} {b : Bool} (h0 : 0 < i) (hy : l[i - 1]? = some y) (h : decide (x.id ≤ y.id) = b) : okP (pv l i) x = !b := by
  subst h
  rw [pv_pos h0 hy]
  show decide (y.id < x.id) = !decide (x.id ≤ y.id)
  by_cases h : x.id ≤ y.id
  · simp [h, Int.not_lt.2 h]
  · simp [h, Int.not_le.1 h]
theorem are_same : ∀ {l : List Stream} {p : Option Int}, (∀ x ∈ l, FineSt x) → areGo isStream p l = areGo isStreamS p l
  | [], _, _ => rfl
  | x :: t, p, h => by
    rw [areGo, areGo, stream_same (h x (by simp)), are_same fun y hy => h y (by simp [hy])]
theorem are_mem {f : Stream → Bool} : ∀ {l : List Stream} {p : Option Int}, areGo f p l = true → ∀ x ∈ l, f x = true
  | [], _, _, _, hx => by cases hx
  | x :: t, p, h, y, hy => by
    simp only [areGo, Bool.and_eq_true] at h
    rcases List.mem_cons.1 hy with rfl | hy
    · exact h.1.1
    · exact are_mem h.2 y hy
/-! ### totals -/
def totS (f : Stream → Int) : Int → List Stream → Int
  | n, [] => n
  | n, x :: t => totS f (min (w64 (n + f x)) 4611686018427387904) t
def sumS (f : Stream → Int) : Int → List Stream → Int
  | n, [] => n
  | n, x :: t => sumS f (w64 (n + f x)) t
theorem tot_sum {f : Stream → Int} : ∀ {l : List Stream} {n : Int}, (∀ x ∈ l, 0 ≤ f x ∧ f x ≤ 100) → 0 ≤ n → n + 100 * l.length ≤ 1000000 → totS f n l = sumS f n l
  | [], _, _, _, _ => rfl
  | x :: t, n, h, h0, hn => by
    have hx := h x (by simp)
    simp only [List.length_cons] at hn
    rw [totS, sumS, w64_id (by omega) (by omega), show min (n + f x) 4611686018427387904 = n + f x by omega]
    exact tot_sum (fun y hy => h y (by simp [hy])) (by omega) (by omega)
theorem sent_small {s : Stream} (hF : FineSt s) (h : isStreamS s = true) : 0 ≤ s.send.sent ∧ s.send.sent ≤ 100 := by
  have h1 := hF.1.eK
  have hs : isSenderS s.send = true := by
    simp only [isStreamS, isStreamW, Bool.and_eq_true] at h
    exact h.1.1.1.1.1.1.1.1.1.1.1.1.2
  have hb : senderBase s.send = true := by
    simp only [isSenderS, Bool.and_eq_true] at hs
    exact hs.1
  simp only [senderBase, within, Bool.and_eq_true, decide_eq_true_eq] at hb
  omega
theorem high_small {s : Stream} (hF : FineSt s) (h : isStreamS s = true) : 0 ≤ s.recv.highest ∧ s.recv.highest ≤ 100 := by
  have h1 := hF.2.h
  have hs : isReceiver s.recv = true := by
    simp only [isStreamS, isStreamW, Bool.and_eq_true] at h
    exact h.1.1.1.1.1.1.1.1.1.1.2
  simp only [isReceiver, isQuic, within, Bool.and_eq_true, decide_eq_true_eq] at hs
  omega
theorem tot_if {f : Stream → Int} {a : Bool} {l : List Stream} {i : Nat} {n : Int} (h : l.drop i = []) : (bif a then totS f n (l.drop i) else n) = n := by
  rw [h]; cases a <;> rfl
/-! ### candidates -/
def candGo (w : Stream → Bool) : List Stream → List Candidate
  | [] => []
  | x :: t => bif w x then ⟨x.id, x.priority⟩ :: candGo w t else candGo w t
theorem cand_len {w : Stream → Bool} : ∀ l : List Stream, (candGo w l).length ≤ l.length
  | [] => Nat.le_refl _
  | x :: t => by
    have := cand_len (w := w) t
    unfold candGo
    cases w x <;> simp <;> omega
def wantsI (x : Stream) : Bool := isStream x && x.canSend && (nextI x.send 1 x.credit.limit).2
def wantsS (x : Stream) : Bool := isStreamS x && x.canSend && nextOkS (isSenderS x.send) x.send 1 x.credit.limit
theorem cand_same : ∀ {l : List Stream}, (∀ x ∈ l, FineSt x) → candGo wantsI l = candGo wantsS l
  | [], _ => rfl
  | x :: t, h => by
    rw [candGo, candGo, show wantsI x = wantsS x from wants_same (h x (by simp)), cand_same fun y hy => h y (by simp [hy])]
/-! ### putting -/
def FineL (l : List Stream) : Prop := ∀ x ∈ l, FineSt x
def putS (l : List Stream) (x : Stream) : List Stream := bif decide (findStream l x.id < 0) then insGo x false l else l.set (findStream l x.id).toNat x
theorem putS_F {l : List Stream} {x : Stream} (h : findStream l x.id = -1) : putS l x = insGo x false l := by
  rw [putS, find_neg h]; rfl
theorem putS_T {l : List Stream} {x : Stream} {n : Nat} (h : findStream l x.id = (n : Int)) : putS l x = l.set n x := by
  rw [putS, find_pos h, h]; rfl
theorem mem_ins {s y : Stream} : ∀ {pl : Bool} {l : List Stream}, y ∈ insGo s pl l → y = s ∨ y ∈ l
  | true, [], h => by simp [insGo] at h
  | false, [], h => by simp [insGo] at h; exact .inl h
  | pl, z :: l, h => by
    unfold insGo at h
    cases hc : (!pl && decide (s.id < z.id)) with
    | true =>
      rw [hc] at h
      simp only [cond_true, List.mem_cons, ins_true] at h
      rcases h with h | h | h
      · exact .inl h
      · exact .inr (by simp [h])
      · exact .inr (by simp [h])
    | false =>
      rw [hc] at h
      simp only [cond_false, List.mem_cons] at h
      rcases h with h | h
      · exact .inr (by simp [h])
      · rcases mem_ins h with h | h
        · exact .inl h
        · exact .inr (by simp [h])
theorem ins_mem {s : Stream} : ∀ {l : List Stream}, s ∈ insGo s false l
  | [] => by simp [insGo]
  | z :: l => by
    unfold insGo
    cases hc : (!false && decide (s.id < z.id)) with
    | true => simp
    | false => simp [ins_mem (l := l)]
theorem FineL.put {l : List Stream} {x : Stream} (h : FineL l) (hx : FineSt x) : FineL (putS l x) := by
  intro y hy
  unfold putS at hy
  cases hc : decide (findStream l x.id < 0) with
  | true =>
    rw [hc] at hy
    rcases mem_ins hy with rfl | hy
    · exact hx
    · exact h y hy
  | false =>
    rw [hc] at hy
    rcases List.mem_or_eq_of_mem_set hy with hy | rfl
    · exact h y hy
    · exact hx
theorem FineL.snoc {l : List Stream} {x : Stream} (h : FineL l) (hx : FineSt x) : FineL (l ++ [x]) := fun y hy => by
  rcases List.mem_append.1 hy with hy | hy
  · exact h y hy
  · rw [List.mem_singleton.1 hy]; exact hx
theorem snoc_len (l : List Stream) (x : Stream) : (l ++ [x]).length ≤ l.length + 1 := by simp
theorem put_len (l : List Stream) (x : Stream) : (putS l x).length ≤ l.length + 1 := by
  unfold putS
  cases decide (findStream l x.id < 0) with
  | true => exact ins_len x false l
  | false => show (l.set _ x).length ≤ _; rw [List.length_set]; omega
theorem FineL.le {l : List Stream} (h : FineL l) : ∀ y ∈ l, y.le 1048576 := fun y hy => (h y hy).le
theorem findFrom_nonneg {id : Int} : ∀ {l : List Stream} {i : Nat} {x : Stream}, x ∈ l → x.id = id → 0 ≤ findFrom id i l
  | [], _, _, h, _ => by cases h
  | y :: t, i, x, h, hi => by
    unfold findFrom
    cases hc : (y.id == id) with
    | true => simp
    | false =>
      rcases List.mem_cons.1 h with rfl | h
      · rw [hi] at hc; simp at hc
      · exact findFrom_nonneg h hi
theorem put_mem (l : List Stream) (x : Stream) : x ∈ putS l x := by
  rcases find_cases l x.id with h | ⟨n, s, h1, h2⟩
  · rw [putS_F h]; exact ins_mem
  · rw [putS_T h1]
    exact List.mem_set (List.getElem?_eq_some_iff.1 h2).1 _
theorem put_found (l : List Stream) (x : Stream) : decide (findStream (putS l x) x.id < 0) = false := by
  rw [decide_eq_false_iff_not]
  exact Int.not_lt.2 (findFrom_nonneg (put_mem l x) rfl)
theorem tables_refl : ∀ l : List Stream, eqTables l l = true
  | [] => rfl
  | x :: t => by rw [eqTables, eqStreams_refl, tables_refl t]; rfl
/-- What a draw hands back: a table that it owns, and the cursor, moved on. -/
def DrewL (b : Nat) (A : Option Addr) (n c : Nat) (v : Value) (H : List Ck) : Prop :=
  ∃ (L : List Stream) (ch : List Ck) (i : Nat) (h : Int), OwA 46 39 OwStream v L ch ∧ FineL L ∧ L.length ≤ 24 ∧ i ≤ n ∧ H = cur b A n c i h :: ch
/-! ### a table copied cell by cell -/
structure Row where
  c : List Value
  n : c.length = 39
  o : ∀ u ∈ c, u.oneCell' = true
theorem eRow : Elem 39 (PlO Row.c) (Pl Row.c) := .plain (fun x => x.n) (fun x => x.o)
def RowsOf (o : List Stream) (rows : List Row) (ch : List Ck) : Prop :=
  rows.length = o.length ∧ ∀ (i : Nat) (x : Stream), o[i]? = some x → ∃ r, rows[i]? = some r ∧ ∃ chx, chx ⊆ ch ∧ OwStream r.c x chx
theorem rows_ex {o : List Stream} {cs : List Value} {chs : List Ck} (h : Ows OwStream o cs chs) : ∃ rows, rows.flatMap Row.c = cs ∧ RowsOf o rows chs := by
  induction h with
  | nil => exact ⟨[], rfl, rfl, fun i x h => by simp at h⟩
  | @cons x l cs cells ch chs hx _ ih =>
    obtain ⟨rows, h1, h2, h3⟩ := ih
    refine ⟨(⟨cs, eStream.len hx, eStream.one hx⟩ : Row) :: rows, by rw [List.flatMap_cons, h1], by simp [h2], fun i y hy => ?_⟩
    cases i with
    | zero => simp at hy; subst hy; exact ⟨_, rfl, ch, List.subset_append_left _ _, hx⟩
    | succ i =>
      obtain ⟨r, hr, chx, hs, ho⟩ := h3 i y (by simpa using hy)
      exact ⟨r, by simpa using hr, chx, fun c hc => List.mem_append_right _ (hs hc), ho⟩
theorem rows_of {E : Nat} {v : Value} {o : List Stream} {ch : List Ck} (h : OwA E 39 OwStream v o ch) :
    ∃ (rows : List Row) (A : Option Addr) (c : Nat), v = .slice A rows.length c ∧ RowsOf o rows ch ∧ ∀ w : World, (∀ c ∈ ch, c.In w) → RdL w 39 (Pl Row.c) A rows := by
  rcases h with ⟨A, rfl, rfl, rfl⟩ | ⟨g, cap, cs, rest, chs, rfl, ho, rfl, h1, h2, h3⟩
  · exact ⟨[], A, 0, rfl, ⟨rfl, fun i x h => by simp at h⟩, fun w _ => RdL.nil _ _ _ _⟩
  · obtain ⟨rows, rfl, hR⟩ := rows_ex ho
    have hO : OwA E 39 (PlO Row.c) (.slice (some ⟨g, 0, none⟩) rows.length cap) rows [⟨g, E, [] ++ (rows.flatMap Row.c ++ rest)⟩] :=
      .inr ⟨g, cap, _, rest, [], rfl, Ows.plain rows, rfl, by rw [hR.1]; exact h1, h2, h3⟩
    obtain ⟨A, c, he, _, hr⟩ := (OwA.s hO).shape eRow
    refine ⟨rows, A, c, ?_, ⟨hR.1, fun i x hx => ?_⟩, fun w hin => hr w fun c hc => hin c (by rw [List.mem_singleton.1 hc]; simp)⟩
    · rw [← he, hR.1]; rfl
    · obtain ⟨r, h5, chx, h6, h7⟩ := hR.2 i x hx
      exact ⟨r, h5, chx, fun c hc => List.mem_cons_of_mem _ (h6 hc), h7⟩
theorem rows_rd {E : Nat} {v : Value} {o : List Stream} {rows : List Row} {ch ch2 : List Ck} {w : World} (hr : RowsOf o rows ch) (h2 : OwS E 39 (PlO Row.c) v rows ch2)
    (h3 : ∀ c ∈ ch, c.In w) (h4 : ∀ c ∈ ch2, c.In w) : RdS w 39 RdStream v o := by
  obtain ⟨A, c, e, hrd⟩ := h2.rd eRow h4
  refine ⟨A, c, by rw [e, hr.1], fun h0 => hrd.1 (by rw [hr.1]; exact h0), fun i x hx => ?_⟩
  obtain ⟨r, h5, chx, h6, h7⟩ := hr.2 i x hx
  exact ⟨r.c, eStream.rd h7 (fun c hc => h3 c (h6 hc)), hrd.plain h5⟩
/-! ### what the law FnTables asks of a table -/
theorem tot_same {f : Stream → Int} {o : List Stream} (hF : FineL o) : (bif areGo isStream none o then totS f 0 o else 0) = (bif areGo isStreamS none o then totS f 0 o else 0) := by
  rw [are_same hF]
theorem sent_tot {o : List Stream} {n : Int} (hF : FineL o) (hlo : o.length ≤ 24) (h : areGo isStreamS none o = true) (hn : n = sumS (·.send.sent) 0 o) : (bif areGo isStream none o then totS (·.send.sent) 0 o else 0) = n := by
  rw [tot_same hF, h, hn]
  exact tot_sum (fun x hx => sent_small (hF x hx) (are_mem h x hx)) (Int.le_refl 0) (by omega)
theorem high_tot {o : List Stream} {n : Int} (hF : FineL o) (hlo : o.length ≤ 24) (h : areGo isStreamS none o = true) (hn : n = sumS (·.recv.highest) 0 o) : (bif areGo isStream none o then totS (·.recv.highest) 0 o else 0) = n := by
  rw [tot_same hF, h, hn]
  exact tot_sum (fun x hx => high_small (hF x hx) (are_mem h x hx)) (Int.le_refl 0) (by omega)
theorem cand_eq {o : List Stream} (hF : FineL o) : (bif areGo isStreamS none o then candGo wantsS o else []) = (bif areGo isStream none o then candGo wantsI o else []) := by
  rw [are_same hF, cand_same hF]
theorem cand_if_len {o : List Stream} {b : Bool} {w : Stream → Bool} (hlo : o.length ≤ 24) : (bif b then candGo w o else []).length ≤ 24 := by
  cases b with
  | true => exact Nat.le_trans (cand_len o) hlo
  | false => exact Nat.zero_le _
theorem st_cell {w : World} {A : Option Addr} {o : List Stream} {i j : Nat} {x : Stream} {u : Value} (h : RdL w 39 RdStream A o) (hx : o[i]? = some x) (hu : ∀ cs, RdStream w cs x → cs[j]? = some u) : w.cell? (((adr A).add (i * 39)).add j) = some u := by
  obtain ⟨cs, hR, hq⟩ := h.get hx
  exact hq.2 j u (hu cs hR)
theorem st_sent {w : World} {A : Option Addr} {o : List Stream} {i : Nat} {x : Stream} (h : RdL w 39 RdStream A o) (hx : o[i]? = some x) : w.cell? ((((adr A).add (i * 39)).add 1).add 10) = some (.int .i64 x.send.sent) :=
  st_cell (j := 11) h hx fun cs hR => by obtain ⟨_, _, _, _, _, rfl, _⟩ := hR; rfl
theorem st_high {w : World} {A : Option Addr} {o : List Stream} {i : Nat} {x : Stream} (h : RdL w 39 RdStream A o) (hx : o[i]? = some x) : w.cell? ((((adr A).add (i * 39)).add 17).add 4) = some (.int .i64 x.recv.highest) :=
  st_cell (j := 21) h hx fun cs hR => by obtain ⟨_, _, _, _, _, rfl, _⟩ := hR; rfl
namespace SL
/-! ### equality of a struct that holds a number and a struct of a number and a bool -/
def nfs (P : Program) (T T2 : Nat) : Bool :=
  match (P.fieldsOf T).toList with
  | [f1, f2] => !(f1.name == "_") && f1.offset == 0 && kindOf P f1.type == some 0 && !(f2.name == "_") && f2.offset == 1 && f2.type == T2
  | _ => false
structure TyN (P : Program) (T T2 : Nat) : Prop where
  und : isSt (P.underlying T) = true
  fs : nfs P T T2 = true
  stood : P.stoodInHeld T = false
  guard : P.eqGuardType P.depth T = false
theorem run_eqN {P : Program} {T T2 : Nat} (h : TyN P T T2) (h2 : TyQ P T2 [0, 1]) (hs : TyS P T2 2) (a b : Int) (c : Bool) (w : World) :
    (Op.equalIn 10000 T (.agg [.int .i64 a, .int .i64 b, .bool c].toArray) (.agg [.int .i64 a, .int .i64 b, .bool c].toArray)).run P w = .ok true w := by
  have hu : P.underlying T = some (.struct (P.fieldsOf T)) := by
    have h1 := h.und
    unfold Program.fieldsOf
    cases hu : P.underlying T with
    | none => rw [hu] at h1; cases h1
    | some d => rw [hu] at h1; cases d <;> simp [isSt] at h1 <;> rfl
  rw [run_equalIn_struct w 9999 T _ _ hu h.stood]
  have hf := h.fs
  unfold nfs at hf
  split at hf
  · rename_i f1 f2 he
    simp only [Bool.and_eq_true, Bool.not_eq_true', beq_eq_false_iff_ne, beq_iff_eq] at hf
    obtain ⟨⟨⟨⟨⟨n1, o1⟩, k1⟩, n2⟩, o2⟩, t2⟩ := hf
    rw [he]
    have p1 := run_part (P := P) k1 (xs := [Value.int .i64 a, .int .i64 b, .bool c].toArray) (o := f1.offset) (v := .int .i64 a) (by rw [o1]; rfl) w
    have e1 := run_eqPrim (P := P) k1 (x := .int .i64 a) (y := .int .i64 a) rfl rfl 9998 w
    have p2 : (part T2 [Value.int .i64 a, .int .i64 b, .bool c].toArray f2.offset).run P w = .ok (.agg [.int .i64 b, .bool c].toArray) w := by
      rw [o2]
      simp [part, run_isAgg_s hs, run_sizeOf_of hs.sz]
    have e2 : (Op.equalIn 9999 T2 (.agg [.int .i64 b, .bool c].toArray) (.agg [.int .i64 b, .bool c].toArray)).run P w = .ok true w := by
      have hu2 : P.underlying T2 = some (.struct (P.fieldsOf T2)) := by
        have h1 := h2.und
        unfold Program.fieldsOf
        cases hu : P.underlying T2 with
        | none => rw [hu] at h1; cases h1
        | some d => rw [hu] at h1; cases d <;> simp [isSt] at h1 <;> rfl
      rw [run_equalIn_struct w 9998 T2 _ _ hu2 h2.stood]
      have := run_eqFields (P := P) (xs := [Value.int .i64 b, .bool c]) (ys := [.int .i64 b, .bool c]) w 9997 (P.fieldsOf T2).toList [0, 1] 0 h2.fs rfl rfl
      simpa [eqC, veq] using this
    simp [Op.eqFields, n1, n2, Sem.run_bind, p1, e1, p2, t2, e2, veq]
  · cases hf
section
variable {C : Cx} {k : List Item} {env : Env} {B F : List Ck} {ops : Array Oper} {rest : List Oper}
variable {K : Env → List Ck → Act → World → Prop} {d : Nat} {ty : TypeId} {pos : String} {af : Array Edge} {x y : Operand} {T T2 yt : TypeId}
theorem rw_neqNF {a b : Int} {c : Bool} (hd : Nat.blt d C.n = true) (hT : TyN C.P T T2) (h2 : TyQ C.P T2 [0, 1]) (hs : TyS C.P T2 2)
    (hx : ev env x = some (.agg [.int .i64 a, .int .i64 b, .bool c].toArray)) (hy : ev env y = some (.agg [.int .i64 a, .int .i64 b, .bool c].toArray))
    (h : RW C ops rest K ((d, .bool false) :: env) B F) : RW C ops (⟨some d, .binOp .neq T x y yt, ty, pos, af, none⟩ :: rest) K env B F := by
  refine rw_bin hd hx hy (fun w => ?_) h
  simp only [Sem.run_bind, run_eqGuard_agg w _ _ _ _ _ _ hT.guard, Result.andThen_ok, run_neq_struct, run_eqN hT h2 hs]
  rfl
end
end SL
end Go.Proofs.YtbhnekiclbfmgaaGreat
