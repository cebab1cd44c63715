/- Slices that a call owns: making, growing, writing, reading. -/
import Derived.Test.YtbhnekiclbfmgaaSlm
import Derived.Great.BuildSlice
import Derived.Laws.MakeOwn
namespace Go.Proofs.Ytbhnekiclbfmgaa
namespace SL
open Go.RowKit

/-- A slice type: its element has k cells, these bytes, these zero cells. -/
structure TyM (P : Program) (T E k bytes : Nat) (zs : List Value) : Prop where
  und : P.underlying T = some (.slice E)
  info : (P.info? E).map (fun i => (i.size, i.bytes, i.zero.map (·.cells.toList))) = some (k, bytes, some zs)
  pos : Nat.blt 0 k = true
  few : Nat.ble bytes 1048576 = true
  len : Nat.beq zs.length k = true
theorem TyM.spec {P : Program} {T E k bytes : Nat} {zs : List Value} (h : TyM P T E k bytes zs) : ∃ i z, P.info? E = some i ∧ i.zero = some z ∧ i.size = k ∧ i.bytes = bytes ∧ z.cells.toList = zs := by
  have h1 := h.info
  cases hi : P.info? E with
  | none => simp [hi] at h1
  | some i =>
    cases hz : i.zero with
    | none => simp [hi, hz] at h1
    | some z =>
      simp [hi, hz] at h1
      exact ⟨i, z, rfl, hz, h1.1, h1.2.1, h1.2.2⟩

/-! ### elements -/
structure Elem {α : Type} (k : Nat) (O : List Value → α → List Ck → Prop) (R : World → List Value → α → Prop) : Prop where
  len : ∀ {cs x ch}, O cs x ch → cs.length = k
  one : ∀ {cs x ch}, O cs x ch → ∀ u ∈ cs, u.oneCell' = true
  rd : ∀ {w cs x ch}, O cs x ch → (∀ c ∈ ch, c.In w) → R w cs x
  keeps : Keeps R
def PlO {α : Type} (f : α → List Value) : List Value → α → List Ck → Prop := fun cs x ch => cs = f x ∧ ch = []
theorem Elem.plain {α : Type} {k : Nat} {f : α → List Value} (h1 : ∀ x, (f x).length = k) (h2 : ∀ x, ∀ u ∈ f x, u.oneCell' = true) : Elem k (PlO f) (Pl f) :=
  ⟨fun h => by rw [h.1]; exact h1 _, fun h => by rw [h.1]; exact h2 _, fun h _ => h.1, Pl.keeps⟩
inductive Ows {α : Type} (O : List Value → α → List Ck → Prop) : List α → List Value → List Ck → Prop
  | nil : Ows O [] [] []
  | cons {x l cs cells ch chs} : O cs x ch → Ows O l cells chs → Ows O (x :: l) (cs ++ cells) (ch ++ chs)
section
variable {α : Type} {k : Nat} {O : List Value → α → List Ck → Prop} {R : World → List Value → α → Prop} {l l' : List α} {cells cells' : List Value} {chs chs' : List Ck}
theorem Ows.one {x : α} {cs : List Value} {ch : List Ck} (h : O cs x ch) : Ows O [x] cs ch := by
  have := Ows.cons h .nil
  simpa using this
theorem Ows.append (h : Ows O l cells chs) (h' : Ows O l' cells' chs') : Ows O (l ++ l') (cells ++ cells') (chs ++ chs') := by
  induction h with
  | nil => simpa using h'
  | cons hx _ ih => simpa [List.append_assoc] using Ows.cons hx ih
theorem Ows.length (e : Elem k O R) (h : Ows O l cells chs) : cells.length = l.length * k := by
  induction h with
  | nil => simp
  | cons hx _ ih => simp [e.len hx, ih, Nat.add_mul]; omega
theorem Ows.ones (e : Elem k O R) (h : Ows O l cells chs) : ∀ u ∈ cells, u.oneCell' = true := by
  induction h with
  | nil => simp
  | cons hx _ ih =>
    intro u hu
    rcases List.mem_append.1 hu with hu | hu
    · exact e.one hx u hu
    · exact ih u hu
theorem Ows.get (e : Elem k O R) (h : Ows O l cells chs) : ∀ {i : Nat} {x : α}, l[i]? = some x → ∃ a cs b ca ch cb, cells = a ++ (cs ++ b) ∧ a.length = i * k ∧ O cs x ch ∧ chs = ca ++ (ch ++ cb) ∧
    Ows O (l.take i) a ca ∧ Ows O (l.drop (i + 1)) b cb := by
  induction h with
  | nil => intro i x h; simp at h
  | @cons x l cs cells ch chs hx ht ih =>
    intro i y hy
    cases i with
    | zero => simp at hy; subst hy; exact ⟨[], cs, cells, [], ch, chs, rfl, by simp, hx, rfl, .nil, ht⟩
    | succ i =>
      simp only [List.getElem?_cons_succ] at hy
      obtain ⟨a, cs', b, ca, ch', cb, rfl, h2, h3, rfl, h5, h6⟩ := ih hy
      exact ⟨cs ++ a, cs', b, ch ++ ca, ch', cb, by simp, by simp [e.len hx, h2, Nat.add_mul]; omega, h3, by simp, by simpa using .cons hx h5, by simpa using h6⟩
theorem Ows.plain {f : α → List Value} : ∀ (l : List α), Ows (PlO f) l (l.flatMap f) []
  | [] => .nil
  | x :: l => by have := Ows.cons (O := PlO f) (x := x) ⟨rfl, rfl⟩ (Ows.plain l); simpa using this
theorem Ows.plain_eq {f : α → List Value} (h : Ows (PlO f) l cells chs) : cells = l.flatMap f ∧ chs = [] := by
  induction h with
  | nil => exact ⟨rfl, rfl⟩
  | cons hx _ ih => obtain ⟨rfl, rfl⟩ := hx; obtain ⟨rfl, rfl⟩ := ih; simp

/-- An owned slice: its block holds 'pre', the elements, and spare cells. -/
def OwG {α : Type} (E k : Nat) (O : List Value → α → List Ck → Prop) (pre : List Value) (v : Value) (l : List α) (ch : List Ck) : Prop :=
  (∃ A, v = .slice A 0 0 ∧ l = [] ∧ ch = []) ∨
  ∃ g cap cs rest chs, v = .slice (some ⟨g, pre.length, none⟩) l.length cap ∧ Ows O l cs chs ∧ ch = ⟨g, E, pre ++ (cs ++ rest)⟩ :: chs ∧ l.length ≤ cap ∧ cap ≤ maxLen ∧ (cs ++ rest).length = cap * k
abbrev OwA {α : Type} (E k : Nat) (O : List Value → α → List Ck → Prop) (v : Value) (l : List α) (ch : List Ck) : Prop := OwG E k O [] v l ch
def OwS {α : Type} (E k : Nat) (O : List Value → α → List Ck → Prop) (v : Value) (l : List α) (ch : List Ck) : Prop := ∃ pre, OwG E k O pre v l ch
theorem OwA.s {E : Nat} {v : Value} {ch : List Ck} (h : OwA E k O v l ch) : OwS E k O v l ch := ⟨_, h⟩

theorem at_of_block {w : World} {g E : Nat} {a cs b : List Value} (h : (⟨g, E, a ++ (cs ++ b)⟩ : Ck).In w) : At w ⟨g, a.length, none⟩ cs := by
  refine ⟨h.lt, fun j u hj => ?_⟩
  rw [addr_add, h.cell]
  have hlt : j < cs.length := (List.getElem?_eq_some_iff.1 hj).1
  simp only []
  rw [List.getElem?_append_right (by omega), List.getElem?_append_left (by omega)]
  simpa using hj
theorem OwG.rd (e : Elem k O R) {E : Nat} {pre : List Value} {v : Value} {ch : List Ck} {w : World} (h : OwG E k O pre v l ch) (hin : ∀ c ∈ ch, c.In w) : RdS w k R v l := by
  rcases h with ⟨A, rfl, rfl, rfl⟩ | ⟨g, cap, cs, rest, chs, rfl, ho, rfl, h1, h2, h3⟩
  · exact ⟨A, 0, rfl, RdL.nil _ _ _ _⟩
  · refine ⟨_, cap, rfl, fun _ => ⟨_, rfl⟩, fun i x hx => ?_⟩
    obtain ⟨a, cs', b, ca, ch', cb, rfl, h5, h6, rfl, _, _⟩ := ho.get e hx
    refine ⟨cs', e.rd h6 fun c hc => hin c (by simp [hc]), ?_⟩
    have h7 := hin ⟨g, E, pre ++ ((a ++ (cs' ++ b)) ++ rest)⟩ (by simp)
    have h8 : (⟨g, E, (pre ++ a) ++ (cs' ++ (b ++ rest))⟩ : Ck).In w := by simpa [List.append_assoc] using h7
    have h9 := at_of_block h8
    simp only [adr, addr_add]
    rw [← h5]
    simpa using h9
theorem OwS.rd (e : Elem k O R) {E : Nat} {v : Value} {ch : List Ck} {w : World} (h : OwS E k O v l ch) (hin : ∀ c ∈ ch, c.In w) : RdS w k R v l := by
  obtain ⟨pre, h⟩ := h
  exact h.rd e hin
theorem OwS.rdH (e : Elem k O R) {E : Nat} {v : Value} {ch : List Ck} {w0 w : World} {X : List Nat} {H : List Ck} (h : OwS E k O v l ch) (hs : Sat w0 X w H) (hsub : ch ⊆ H) : RdS w k R v l :=
  h.rd e fun c hc => hs.at_ c (hsub hc)
end

/-- The slice append builds. -/
theorem append_run {P : Program} {T E k bytes : Nat} {zs : List Value} (hT : TyM P T E k bytes zs) {α : Type} {O : List Value → α → List Ck → Prop} {R : World → List Value → α → Prop} (e : Elem k O R)
    {w0 : World} {X : List Nat} {w : World} {ch ch2 F : List Ck} {v : Value} {l l2 : List α} {news : List Value} {A : Option Addr} {c : Nat} {ty : TypeId}
    (hv : OwA E k O v l ch) (hn : Ows O l2 news ch2) (hat : 0 < l2.length → ∃ a, A = some a ∧ At w a news) (hb : l.length + l2.length ≤ 134217728)
    (hs : Sat w0 X w (ch ++ (ch2 ++ F))) :
    ∃ v' ch' w', (Builtin.append_ #[T, T] ty #[v, .slice A l2.length c]).run P w = .ok v' w' ∧ OwA E k O v' (l ++ l2) ch' ∧ Sat w0 X w' (ch' ++ F) := by
  obtain ⟨i, z, hi, hz, hsz, hby, hzs⟩ := hT.spec
  have hpos : 0 < k := by simpa using hT.pos
  have hfew : bytes ≤ 1048576 := by simpa using hT.few
  have hzl : z.cells.size = k := by have := Nat.eq_of_beq_eq_true hT.len; rw [← this, ← hzs]; simp
  have hnl := hn.length e
  have hmb : ∀ n : Nat, n ≤ 134217728 → n * bytes ≤ 140737488355328 := fun n hn' => Nat.le_trans (Nat.mul_le_mul hn' hfew) (by decide)
  rcases Nat.eq_zero_or_pos l2.length with h0 | h0
  · have hl2 : l2 = [] := List.eq_nil_of_length_eq_zero h0
    subst hl2
    cases hn
    have hcap : ∃ B sL sC, v = .slice B sL sC ∧ sL ≤ sC := by
      rcases hv with ⟨B, rfl, _⟩ | ⟨g, cap, cs, rest, chs, rfl, _, _, h1, _⟩
      · exact ⟨_, _, _, rfl, Nat.le_refl _⟩
      · exact ⟨_, _, _, rfl, h1⟩
    obtain ⟨B, sL, sC, hve, hle⟩ := hcap
    refine ⟨v, ch, w, ?_, by simpa using hv, by simpa using hs⟩
    subst hve
    have hf : (Builtin.firstCells k 0 (.slice A 0 c)).run P w = .ok #[] w := by
      cases A with
      | none => simp [Builtin.firstCells]
      | some a => simp [Builtin.firstCells, loadCells, loadCellsFrom]
    cases B with
    | none => simp [Builtin.append_, run_underlying hT.und, sizeOf, typeInfo, hi, hsz, Builtin.lenOf, hle, hf]
    | some b => simp [Builtin.append_, run_underlying hT.und, sizeOf, typeInfo, hi, hsz, Builtin.lenOf, hle, hf, storeCells]
  · obtain ⟨a, rfl, hat'⟩ := hat h0
    rcases hv with ⟨B, rfl, rfl, rfl⟩ | ⟨g, cap, cs, rest, chs, rfl, ho, rfl, h1, h2, h3⟩
    · -- nothing there yet
      have hsat : ∀ w1 : World, w1.os = w.os → w1.tape = w.tape → w1.output = w.output → w1.heap = w.heap → Sat w0 X w1 (ch2 ++ F) := fun w1 e1 e2 e3 e4 =>
        ⟨e1.trans hs.os, e2.trans hs.tape, e3.trans hs.output, by rw [e4]; exact hs.size, fun b hb hn => by rw [e4]; exact hs.keep b hb hn, by simpa using hs.nd, by simpa using hs.own, fun c hc => by
          have := hs.at_ c (by simpa using hc); unfold Ck.In at this ⊢; rw [e4]; exact this⟩
      have hge := grownCap_ge w l2.length 0 E
      have hle := grownCap_le_maxLen w l2.length 0 E (by simp only [maxLen]; omega)
      have hr : (Builtin.append_ #[T, T] ty #[.slice B 0 0, .slice (some a) l2.length c]).run P w =
          .ok (.slice (some ⟨w.heap.size, 0, none⟩) l2.length (grownCap w l2.length 0 E)) (w.drew.alloc (.cells (news ++ (Builtin.zeroCells z.cells (grownCap w l2.length 0 E - l2.length)).toList).toArray E)) := by
        have h48 : l2.length * i.bytes ≤ 281474976710656 := by rw [hby]; exact Nat.le_trans (hmb _ (by omega)) (by decide)
        cases B with
        | none =>
          rw [run_append_nil w T ty E i z hT.und hi hz a l2.length c news (by rw [hsz]; exact hnl) (fun j u hj => hat'.2 j u hj) h0 (by omega) h48]
          congr 3
          apply Array.ext'; simp
        | some b =>
          have := run_append_grow (P := P) w T ty E i z hT.und hi hz b 0 0 [] (by simp) (fun j u hj => by simp at hj) a l2.length c news (by rw [hsz]; exact hnl) (fun j u hj => hat'.2 j u hj) (by omega) (by omega)
            (by rw [Nat.zero_add, nextslicecap_zero h0]; exact h48)
          rw [Nat.zero_add] at this
          rw [this]
          congr 3
          apply Array.ext'; simp
      refine ⟨_, _, _, hr, ?_, ((hsat w.drew rfl rfl rfl rfl).alloc E (news ++ (Builtin.zeroCells z.cells (grownCap w l2.length 0 E - l2.length)).toList)).perm (H' := (⟨w.heap.size, E, news ++ (Builtin.zeroCells z.cells (grownCap w l2.length 0 E - l2.length)).toList⟩ :: ch2) ++ F) (.refl _)⟩
      refine .inr ⟨_, _, news, _, ch2, rfl, by simpa using hn, rfl, hge, hle, ?_⟩
      have hzc : (Builtin.zeroCells z.cells (grownCap w l2.length 0 E - l2.length)).toList.length = (grownCap w l2.length 0 E - l2.length) * k := by
        have := size_zeroCells z.cells (grownCap w l2.length 0 E - l2.length)
        simpa [hzl] using this
      rw [List.length_append, hnl, hzc, ← Nat.add_mul]
      congr 1; show l2.length + (_ - l2.length) = _; omega
    · -- onto what is owned
      have hin : (⟨g, E, [] ++ (cs ++ rest)⟩ : Ck).In w := hs.at_ _ (by simp)
      have hcl := ho.length e
      have hown : w.ownsRow 0 E k (.slice (some ⟨g, 0, none⟩) l.length cap) l.length cs := by
        refine ⟨hcl, .inr ⟨g, cap, _, rfl, Nat.zero_le _, hin, h1, h2, by simpa using h3, ?_⟩⟩
        rw [← hcl]; simp
      obtain ⟨v', w', hr, how, hgr, hnil, hblk⟩ := run_append_own_at (P := P) w 0 T ty E i z k bytes hT.und hi hz hsz hby hzl hpos _ l.length cs hown a l2.length c news hnl (fun j u hj => hat'.2 j u hj) (hn.ones e)
        (by simp only [maxLen]; omega) (hmb _ hb) (Nat.zero_le _)
      obtain ⟨hl', hcase⟩ := how
      rcases hcase with ⟨rfl, hz0⟩ | ⟨g', cap', cur, rfl, _, hg', h1', h2', h3', h4'⟩
      · omega
      · have hcur : cur.toList = (cs ++ news) ++ cur.toList.drop ((l.length + l2.length) * k) := by rw [← h4', List.take_append_drop]
        have hin' : (⟨g', E, [] ++ ((cs ++ news) ++ cur.toList.drop ((l.length + l2.length) * k))⟩ : Ck).In w' := by
          unfold Ck.In; rw [List.nil_append, ← hcur]; simpa using hg'
        have hsz' : w.heap.size ≤ w'.heap.size := hgr.size
        have hnd := hs.nd
        simp only [List.cons_append, List.map_cons, List.nodup_cons, List.map_append] at hnd
        refine ⟨_, ⟨g', E, [] ++ ((cs ++ news) ++ cur.toList.drop ((l.length + l2.length) * k))⟩ :: (chs ++ ch2), w', hr, .inr ⟨g', cap', cs ++ news, _, chs ++ ch2, by simp, ho.append hn, rfl, by simpa using h1', h2', ?_⟩, ?_⟩
        · rw [← hcur]; simpa using h3'
        · have hother : ∀ b, b < w.heap.size → b ≠ g → w'.heap[b]? = w.heap[b]? := fun b hb hbg => hgr.block b hb (by simp [Value.ownBlock]; exact hbg)
          have hgown : g' ∈ X ∨ w0.heap.size ≤ g' := by
            rcases hblk with h | h
            · simp [Value.ownBlock] at h; subst h; exact hs.own ⟨g', E, [] ++ (cs ++ rest)⟩ (by simp)
            · simp [Value.ownBlock] at h; subst h; exact .inr hs.size
          have hne : ∀ c ∈ chs ++ (ch2 ++ F), c.b ≠ g ∧ c.b < w.heap.size := fun c hc => by
            refine ⟨fun e => hnd.1 ?_, (hs.at_ c (by simp only [List.cons_append, List.mem_cons]; exact .inr hc)).lt⟩
            rw [← e]
            have : c.b ∈ (chs ++ (ch2 ++ F)).map Ck.b := List.mem_map.2 ⟨c, hc, rfl⟩
            simpa using this
          refine ⟨hgr.os.trans hs.os, hgr.tape.trans hs.tape, hgr.output.trans hs.output, Nat.le_trans hs.size hsz', fun b hb hn' => ?_, ?_, ?_, ?_⟩
          · rw [hother b (Nat.lt_of_lt_of_le hb hs.size) (fun e => ?_)]
            · exact hs.keep b hb hn'
            · subst e
              rcases hs.own ⟨b, E, [] ++ (cs ++ rest)⟩ (by simp) with h | h
              · exact hn' h
              · simp at h; omega
          · simp only [List.cons_append, List.map_cons, List.nodup_cons, List.append_assoc, List.map_append]
            refine ⟨fun hm => ?_, by simpa using hnd.2⟩
            have hm' : g' ∈ (chs ++ (ch2 ++ F)).map Ck.b := by simpa using hm
            obtain ⟨c, hc, hcb⟩ := List.mem_map.1 hm'
            rcases hblk with h | h
            · simp [Value.ownBlock] at h; exact (hne c hc).1 (hcb.trans h)
            · simp [Value.ownBlock] at h; have := (hne c hc).2; omega
          · intro c hc
            simp only [List.cons_append, List.mem_cons, List.append_assoc] at hc
            rcases hc with rfl | hc
            · exact hgown
            · exact hs.own c (by simp only [List.cons_append, List.mem_cons]; exact .inr hc)
          · intro c hc
            simp only [List.cons_append, List.mem_cons, List.append_assoc] at hc
            rcases hc with rfl | hc
            · simpa [List.append_assoc] using hin'
            · have h5 := hs.at_ c (by simp only [List.cons_append, List.mem_cons]; exact .inr hc)
              unfold Ck.In at h5 ⊢
              rw [hother _ (hne c hc).2 (hne c hc).1]
              exact h5

theorem made_flat {z : Array Value} {zs : List Value} {k : Nat} (hl : z.size = k) (hz : z.toList = zs) (hk : 0 < k) : ∀ n, ((Array.range (n * k)).map (z[· % z.size]!)).toList = (List.replicate n zs).flatten
  | 0 => by simp
  | n + 1 => by
    have ih := made_flat hl hz hk n
    apply List.ext_getElem?
    intro i
    subst hz
    rw [List.replicate_succ', List.flatten_append, ← ih]
    simp only [Array.toList_map, Array.toList_range, List.getElem?_map, List.getElem?_append, List.length_map, List.length_range, List.flatten_cons, List.flatten_nil, List.append_nil]
    by_cases h1 : i < n * k
    · simp [h1, show i < (n + 1) * k by rw [Nat.add_mul]; omega]
    · by_cases h2 : i < (n + 1) * k
      · have h3 : i % z.size = i - n * k := by
          rw [hl]
          have h4 : k * n = n * k := Nat.mul_comm k n
          rw [← Nat.sub_mul_mod (x := i) (k := n) (n := k) (by omega), h4, Nat.mod_eq_of_lt (by rw [Nat.add_mul] at h2; omega)]
        rw [if_neg h1, List.getElem?_range h2]
        simp only [Option.map_some, h3]
        have h5 : i - n * k < z.size := by rw [Nat.add_mul] at h2; omega
        rw [getElem!_pos z _ h5]
        simp [h5]
      · rw [if_neg h1]
        rw [List.getElem?_eq_none (by simpa using Nat.le_of_not_lt h2)]
        simp only [Option.map_none]
        symm
        apply List.getElem?_eq_none
        simp only [Array.length_toList]
        rw [Nat.add_mul] at h2; omega

theorem rdl_flat {α : Type} {w : World} {k : Nat} {f : α → List Value} {A : Option Addr} {l : List α} (hk : ∀ x, (f x).length = k) (h : RdL w k (Pl f) A l) (h0 : 0 < l.length) : ∃ a, A = some a ∧ At w a (l.flatMap f) := by
  obtain ⟨a, rfl⟩ := h.1 h0
  have hat : ∀ (i : Nat) (x : α), l[i]? = some x → At w (a.add (i * k)) (f x) := fun i x hx => h.plain hx
  refine ⟨a, rfl, ?_, ?_⟩
  · have := (hat 0 _ (List.getElem?_eq_getElem h0)).1
    rwa [block_add] at this
  · intro j u hj
    have key : ∀ (l : List α) (n : Nat) (j : Nat), (∀ (i : Nat) (x : α), l[i]? = some x → At w (a.add ((n + i) * k)) (f x)) → (l.flatMap f)[j]? = some u → w.cell? (a.add (n * k + j)) = some u := by
      intro l
      induction l with
      | nil => intro n j _ hj; simp at hj
      | cons x l ih =>
        intro n j hl hj
        simp only [List.flatMap_cons] at hj
        by_cases hlt : j < k
        · rw [List.getElem?_append_left (by rw [hk]; exact hlt)] at hj
          have := (hl 0 x rfl).2 j u hj
          rw [add_add] at this
          simpa using this
        · rw [List.getElem?_append_right (by rw [hk]; omega), hk] at hj
          have := ih (n + 1) (j - k) (fun i y hy => by
            have := hl (i + 1) y (by simpa using hy)
            rwa [show n + 1 + i = n + (i + 1) by omega]) hj
          rwa [show (n + 1) * k + (j - k) = n * k + j by rw [Nat.add_mul]; omega] at this
    have := key l 0 j (fun i x hx => by simpa using hat i x hx) hj
    simpa using this

section
variable {C : Cx} {k : List Item} {env : Env} {B F F2 ch ch2 : List Ck} {ops : Array Oper} {rest : List Oper}
variable {K : Env → List Ck → Act → World → Prop} {d : Nat} {ty : TypeId} {pos : String} {af : Array Edge} {x y z : Operand}
variable {T E kk bytes : Nat} {zs : List Value} {α : Type} {O : List Value → α → List Ck → Prop} {R : World → List Value → α → Prop} {v : Value} {l l2 : List α} {news : List Value} {A : Option Addr} {c m : Nat}

theorem rw_appendG (hd : Nat.blt d C.n = true) (hT : TyM C.P T E kk bytes zs) (e : Elem kk O R) (hx : ev env x = some v) (hy : ev env y = some (.slice A m c)) (hm : m = l2.length)
    (hv : OwA E kk O v l ch) (hn : Ows O l2 news ch2) (hat : ∀ w, Sat C.w0 C.X w (B ++ F) → 0 < l2.length → ∃ a, A = some a ∧ At w a news) (hF : F.Perm (ch ++ (ch2 ++ F2)))
    (hb : l.length + l2.length ≤ 134217728) (h : ∀ v' ch', OwA E kk O v' (l ++ l2) ch' → RW C ops rest K ((d, v') :: env) B (ch' ++ F2)) :
    RW C ops (⟨some d, .call ⟨.builtin .append, #[x, y], #[T, T]⟩, ty, pos, af, none⟩ :: rest) K env B F := by
  subst hm
  refine rw_stepE (fun v' B' F' => ∃ ch', OwA E kk O v' (l ++ l2) ch' ∧ B' = B ∧ F' = ch' ++ F2) hd (fun ρ hρ E' w hs => ?_) (fun v' B' F' ⟨ch', h1, h2, h3⟩ => by subst h2 h3; exact h v' ch' h1)
  have hp : (B ++ (F ++ E')).Perm (ch ++ (ch2 ++ (B ++ (F2 ++ E')))) := by
    have h1 : (B ++ (F ++ E')).Perm (B ++ ((ch ++ (ch2 ++ F2)) ++ E')) := (hF.append_right E').append_left B
    refine h1.trans ?_
    have h2 : (B ++ ((ch ++ (ch2 ++ F2)) ++ E')).Perm ((ch ++ ch2) ++ (B ++ (F2 ++ E'))) := by
      have h3 := (List.perm_append_comm (l₁ := B) (l₂ := ch ++ ch2)).append_right (F2 ++ E')
      simpa [List.append_assoc] using h3
    simpa [List.append_assoc] using h2
  obtain ⟨v', ch', w', hr, ho, hs'⟩ := append_run hT e (ty := ty) (c := c) hv hn (hat w hs.noE) hb (hs.perm hp)
  refine ⟨v', B, ch' ++ F2, w', ?_, hs'.perm ?_, ch', ho, rfl, rfl⟩
  · exact run_builtin (xs := [x, y]) (vs := [v, .slice A l2.length c]) (by simp [hρ x _ hx, hρ y _ hy]) (fun cs => by
      simp only [builtin, Sem.run_bind, hr, Result.andThen_ok, Sem.run_pure])
  · have h3 := (List.perm_append_comm (l₁ := ch') (l₂ := B)).append_right (F2 ++ E')
    simpa [List.append_assoc] using h3

/-- append of one element, which lies in a block of its own. -/
theorem rw_append1 {i b : Nat} {cs : List Value} {a : α} (hd : Nat.blt d C.n = true) (hT : TyM C.P T E kk bytes zs) (e : Elem kk O R) (hx : ev env x = some v) (hy : ev env y = some (.slice (some ⟨b, 0, none⟩) 1 1))
    (hB : B[i]? = some ⟨b, E, cs⟩) (hv : OwA E kk O v l ch) (hn : O cs a ch2) (hF : F.Perm (ch ++ (ch2 ++ F2)))
    (hb : l.length + 1 ≤ 134217728) (h : ∀ v' ch', OwA E kk O v' (l ++ [a]) ch' → RW C ops rest K ((d, v') :: env) B (ch' ++ F2)) :
    RW C ops (⟨some d, .call ⟨.builtin .append, #[x, y], #[T, T]⟩, ty, pos, af, none⟩ :: rest) K env B F :=
  rw_appendG hd hT e hx hy (l2 := [a]) rfl hv (Ows.one hn) (fun w hs _ => ⟨_, rfl, by
    have h1 : (⟨b, E, [] ++ (cs ++ [])⟩ : Ck).In w := by simpa using hs.at_ _ (List.mem_append_left F (List.mem_of_getElem? hB))
    exact at_of_block h1⟩) hF hb h
/-- append of a list of plain elements. -/
theorem rw_appendP {f : α → List Value} (hd : Nat.blt d C.n = true) (hT : TyM C.P T E kk bytes zs) (e : Elem kk (PlO f) (Pl f)) (hk : ∀ a, (f a).length = kk) (hx : ev env x = some v) (hy : ev env y = some (.slice A l2.length c))
    (hv : OwA E kk (PlO f) v l ch) (hrd : ∀ w, Sat C.w0 C.X w (B ++ F) → RdL w kk (Pl f) A l2) (hF : F.Perm (ch ++ F2))
    (hb : l.length + l2.length ≤ 134217728) (h : ∀ v' ch', OwA E kk (PlO f) v' (l ++ l2) ch' → RW C ops rest K ((d, v') :: env) B (ch' ++ F2)) :
    RW C ops (⟨some d, .call ⟨.builtin .append, #[x, y], #[T, T]⟩, ty, pos, af, none⟩ :: rest) K env B F :=
  rw_appendG hd hT e hx hy rfl hv (Ows.plain l2) (fun w hs h0 => rdl_flat hk (hrd w hs) h0) (by simpa using hF) hb h

/-- A slice literal without elements. -/
theorem rw_slice0 (hd : Nat.blt d C.n = true) (hT : TyM C.P T E kk bytes zs) (O : List Value → α → List Ck → Prop) (h : ∀ v, OwA E kk O v ([] : List α) [] → RW C ops rest K ((d, v) :: env) B F) :
    RW C ops (⟨some d, .buildSlice T 0 #[], ty, pos, af, none⟩ :: rest) K env B F := by
  refine rw_stepE (fun v' B' F' => (∃ A, v' = .slice A 0 0) ∧ B' = B ∧ F' = F) hd (fun ρ hρ E' w hs => ?_) (fun v' B' F' ⟨⟨A, h1⟩, h2, h3⟩ => by subst h1 h2 h3; exact h _ (.inl ⟨A, rfl, rfl, rfl⟩))
  obtain ⟨i, z, hi, hz, hsz, hby, hzs⟩ := hT.spec
  have h1 := (hs.alloc E []).weaken (H' := B ++ (F ++ E')) (List.sublist_cons_self _ _)
  refine ⟨.slice (some ⟨w.heap.size, 0, none⟩) 0 0, B, F, w.alloc (.cells #[] E), ?_, h1, ⟨_, rfl⟩, rfl, rfl⟩
  have h0 : (Array.range 0).map (fun _ => (default : Value)) = #[] := by simp [Array.range_zero']
  simp [execOp, Instr.buildSlice, run_underlying hT.und, sizeOf, typeInfo, hi, Instr.fill, newRow, h0]
/-- A slice literal. -/
theorem rw_slice {n : Nat} {xs : List (Nat × Operand)} {vs : List Value} (cs : List Value) (hd : Nat.blt d C.n = true) (hT : TyM C.P T E kk bytes zs) (hx : evs env (xs.map (·.2)) = some vs)
    (hf : fillL (fun i => some (i * kk, kk)) (List.replicate n zs).flatten ((xs.map (·.1)).zip vs) = some cs) (hn : Nat.blt 0 n = true) (hsm : Nat.ble (n * kk) 16777216 = true)
    (h : ∀ b, RW C ops rest K ((d, .slice (some ⟨b, 0, none⟩) n n) :: env) (⟨b, E, cs⟩ :: B) F) :
    RW C ops (⟨some d, .buildSlice T n xs.toArray, ty, pos, af, none⟩ :: rest) K env B F := by
  refine rw_stepE (fun v' B' F' => ∃ b, v' = .slice (some ⟨b, 0, none⟩) n n ∧ B' = ⟨b, E, cs⟩ :: B ∧ F' = F) hd (fun ρ hρ E' w hs => ?_) (fun v' B' F' ⟨b, h1, h2, h3⟩ => by subst h1 h2 h3; exact h b)
  obtain ⟨i, z, hi, hz, hsz, hby, hzs⟩ := hT.spec
  have hpos : 0 < kk := by simpa using hT.pos
  have hn' : 0 < n := by simpa using hn
  have hsm' : n * kk ≤ 16777216 := by simpa using hsm
  have hzl : z.cells.size = kk := by have := Nat.eq_of_beq_eq_true hT.len; rw [← this, ← hzs]; simp
  refine ⟨.slice (some ⟨w.heap.size, 0, none⟩) n n, ⟨w.heap.size, E, cs⟩ :: B, F, w.alloc (.cells cs.toArray E), ?_, hs.alloc E cs, w.heap.size, rfl, rfl, rfl⟩
  have hne : ¬ (n * i.size = 0) := by rw [hsz]; exact Nat.ne_of_gt (Nat.mul_pos hn' hpos)
  have hsm2 : ¬ (n * i.size > 2 ^ 24) := by rw [hsz]; omega
  have hm : (xs.map fun (i, x) => (i, ρ x)) = (xs.map (·.1)).zip vs := by
    rw [← evs_map hρ hx]
    clear hx hf
    induction xs with
    | nil => simp
    | cons i is ih => simpa using ih
  have hmade : ((Array.range (n * i.size)).map (z.cells[· % z.cells.size]!)).toList = (List.replicate n zs).flatten := by
    rw [hsz]; exact made_flat hzl hzs hpos n
  have hfill := fill_of (fun i' => some (i' * i.size, i.size)) ((xs.map (·.1)).zip vs) ((Array.range (n * i.size)).map (z.cells[· % z.cells.size]!)) cs (by rw [hmade, hsz]; exact hf)
  have := run_buildSlice (P := C.P) w T E n (xs.map fun (i, x) => (i, ρ x)).toArray cs.toArray i z hT.und hi hz hsm2 hne (by rw [hm]; exact hfill)
  simp only [execOp, List.map_toArray, this, Sem.run_bind, Result.andThen_ok, Sem.run_pure]
/-- make. -/
theorem rw_make {n : Nat} {IK IK' : IntKind} (hd : Nat.blt d C.n = true) (hT : TyM C.P T E kk bytes zs) (hx : ev env x = some (.int IK (n : Int))) (hy : ev env y = some (.int IK' (n : Int))) (hb : n ≤ 134217728)
    (h : ∀ b, RW C ops rest K ((d, .slice (some ⟨b, 0, none⟩) n n) :: env) (⟨b, E, (List.replicate n zs).flatten⟩ :: B) F) :
    RW C ops (⟨some d, .makeSlice T x y, ty, pos, af, none⟩ :: rest) K env B F := by
  refine rw_stepE (fun v' B' F' => ∃ b, v' = .slice (some ⟨b, 0, none⟩) n n ∧ B' = ⟨b, E, (List.replicate n zs).flatten⟩ :: B ∧ F' = F) hd (fun ρ hρ E' w hs => ?_) (fun v' B' F' ⟨b, h1, h2, h3⟩ => by subst h1 h2 h3; exact h b)
  obtain ⟨i, z, hi, hz, hsz, hby, hzs⟩ := hT.spec
  have hpos : 0 < kk := by simpa using hT.pos
  have hfew : bytes ≤ 1048576 := by simpa using hT.few
  have hzl : z.cells.size = kk := by have := Nat.eq_of_beq_eq_true hT.len; rw [← this, ← hzs]; simp
  refine ⟨.slice (some ⟨w.heap.size, 0, none⟩) n n, ⟨w.heap.size, E, (List.replicate n zs).flatten⟩ :: B, F, w.alloc (.cells (List.replicate n zs).flatten.toArray E), ?_, hs.alloc E _, w.heap.size, rfl, rfl, rfl⟩
  have h1 : (i.bytes : Int) * (n : Int) ≤ 281474976710656 := by
    have h2 : bytes * n ≤ 1048576 * 134217728 := Nat.mul_le_mul hfew hb
    have h3 : ((i.bytes * n : Nat) : Int) ≤ 281474976710656 := by rw [hby]; omega
    rwa [Int.natCast_mul] at h3
  have hr := run_make (P := C.P) w T E i z hT.und hi hz IK IK' n n (by omega) (Int.le_refl _) h1 (by omega)
  have hmade : madeCells z.cells (n * i.size) = (List.replicate n zs).flatten.toArray := by
    have := made_flat hzl hzs hpos n
    rw [hsz]; unfold madeCells; rw [← this]
  simp only [Int.toNat_natCast, hmade] at hr
  simp [execOp, hρ x _ hx, hρ y _ hy, hr]
/-- The address of an element of an owned slice. -/
theorem rw_indexAddrO {n cc : Nat} {p : Int} {b off : Nat} {IK : IntKind} (i : Nat) (hd : Nat.blt d C.n = true) (hT : TyE C.P T E kk) (hx : ev env x = some (.slice (some ⟨b, off, none⟩) n cc)) (hy : ev env y = some (.int IK p))
    (hp : p = (i : Int)) (hi : i < n)
    (h : RW C ops rest K ((d, .pointer (some ⟨b, off + i * kk, none⟩)) :: env) B F) :
    RW C ops (⟨some d, .indexAddr T x y, ty, pos, af, none⟩ :: rest) K env B F :=
  rw_indexAddr i hd hT hx hy hp rfl hi (by simpa [adr, addr_add] using h)
/-- A store at a place that is reckoned. -/
theorem rw_storeX {off i n : Nat} {b T' : Nat} {cs : List Value} {v : Value} (vs cs' : List Value) (hT : (C.P.info? T).map (·.size) = some n) (hx : ev env x = some (.pointer (some ⟨b, off, none⟩))) (hy : ev env y = some v)
    (hB : B[i]? = some ⟨b, T', cs⟩) (hvs : v.cells.toList = vs) (hn : vs.length = n) (hl : off + n ≤ cs.length) (h1 : ∀ u ∈ vs, u.oneCell' = true) (hcs : splice cs off vs = cs')
    (h : RW C ops rest K env (B.set i ⟨b, T', cs'⟩) F) :
    RW C ops (⟨none, .store T x y, ty, pos, af, none⟩ :: rest) K env B F :=
  rw_store vs cs' hT hx hy hB hvs (by simp [hn]) (by simpa using hl) (by simpa using h1) hcs h
end
theorem splice_made {n k : Nat} {cells cs zs : List Value} (hz : zs.length = k) (hc : cs.length = k) : splice (cells ++ (List.replicate (n + 1) zs).flatten) cells.length cs = (cells ++ cs) ++ (List.replicate n zs).flatten := by
  unfold splice
  rw [List.take_left, List.drop_append]
  simp [List.replicate_succ, hc, hz, Nat.add_sub_cancel_left, List.drop_eq_nil_of_le]
section
variable {C : Cx} {k : List Item} {env : Env} {B F : List Ck} {ops : Array Oper} {rest : List Oper}
variable {K : Env → List Ck → Act → World → Prop} {d : Nat} {ty : TypeId} {pos : String} {af : Array Edge} {x y z : Operand}
variable {T E kk bytes : Nat} {zs : List Value} {α : Type} {O : List Value → α → List Ck → Prop} {R : World → List Value → α → Prop} {l : List α} {cells : List Value} {chs : List Ck}
/-- A store into a slice that is being filled. -/
theorem rw_storeMade {b i n j : Nat} {v : Value} (vs : List Value) (hT : (C.P.info? E).map (·.size) = some kk) (hz : zs.length = kk) (hx : ev env x = some (.pointer (some ⟨b, 0 + i * kk, none⟩))) (hy : ev env y = some v)
    (hB : B[j]? = some ⟨b, E, cells ++ (List.replicate (n - i) zs).flatten⟩) (hvs : v.cells.toList = vs) (hn : vs.length = kk) (hcl : cells.length = i * kk) (hi : i < n) (h1 : ∀ u ∈ vs, u.oneCell' = true)
    (h : RW C ops rest K env (B.set j ⟨b, E, (cells ++ vs) ++ (List.replicate (n - (i + 1)) zs).flatten⟩) F) :
    RW C ops (⟨none, .store E x y, ty, pos, af, none⟩ :: rest) K env B F := by
  have h2 : n - i = (n - (i + 1)) + 1 := by omega
  refine rw_storeX vs _ hT hx hy hB hvs hn ?_ h1 ?_ h
  · rw [List.length_append, hcl, h2, List.replicate_succ]; simp [hz]
  · rw [h2, Nat.zero_add, ← hcl]; exact splice_made hz hn
theorem ows_made {b i : Nat} (e : Elem kk O R) (h : Ows O (l.take i) cells chs) (hi : i ≤ l.length) (hn : l.drop i = []) (hb : l.length ≤ 134217728) :
    OwS E kk O (.slice (some ⟨b, 0, none⟩) l.length l.length) l (⟨b, E, cells ++ (List.replicate (l.length - i) zs).flatten⟩ :: chs) := by
  have : i = l.length := by have := congrArg List.length hn; simp at this; omega
  subst this
  rw [List.take_length] at h
  refine ⟨[], .inr ⟨b, l.length, cells, _, chs, rfl, h, rfl, Nat.le_refl _, by simp only [maxLen]; omega, ?_⟩⟩
  simp [h.length e]
theorem ows_step {i : Nat} {a : α} {cs : List Value} {ch : List Ck} (h : Ows O (l.take i) cells chs) (ha : l[i]? = some a) (hc : O cs a ch) : Ows O (l.take (i + 1)) (cells ++ cs) (chs ++ ch) := by
  rw [List.take_add_one, ha]
  exact h.append (Ows.one hc)
end
/-- An owned slice, opened: its shape, and how it reads. -/
theorem OwS.shape {α : Type} {E k : Nat} {O : List Value → α → List Ck → Prop} {R : World → List Value → α → Prop} {v : Value} {l : List α} {ch : List Ck} (e : Elem k O R) (h : OwS E k O v l ch) :
    ∃ A c, v = .slice A l.length c ∧ (0 < l.length → A = some (adr A)) ∧ ∀ w : World, (∀ c ∈ ch, c.In w) → RdL w k R A l := by
  obtain ⟨pre, h⟩ := h
  have key : ∃ A c, v = .slice A l.length c ∧ (0 < l.length → A = some (adr A)) := by
    rcases h with ⟨A, rfl, rfl, rfl⟩ | ⟨g, cap, cs, rest, chs, rfl, ho, rfl, h1, h2, h3⟩
    · exact ⟨A, 0, rfl, fun h => by simp at h⟩
    · exact ⟨_, _, rfl, fun _ => rfl⟩
  obtain ⟨A, c, rfl, hA⟩ := key
  refine ⟨A, c, rfl, hA, fun w hin => ?_⟩
  obtain ⟨A', c', he, hr⟩ := h.rd e hin
  cases he
  exact hr
theorem At.cell {w : World} {q : Addr} {cs : List Value} (h : At w q cs) {j : Nat} {u : Value} (hj : cs[j]? = some u) : w.cell? (q.add j) = some u := h.2 j u hj
theorem At.cell0 {w : World} {q : Addr} {cs : List Value} (h : At w q cs) {u : Value} (hj : cs[0]? = some u) : w.cell? q = some u := by
  have := h.2 0 u hj; rwa [add_zero] at this
theorem At.cut {w : World} {q : Addr} {cs : List Value} (h : At w q cs) {off n : Nat} {vs : List Value} (hv : cut cs off n = vs) (j : Nat) (u : Value) (hj : vs[j]? = some u) : w.cell? ((q.add off).add j) = some u := by
  subst hv
  rw [add_add]
  refine h.2 _ _ ?_
  unfold SL.cut at hj
  rw [List.getElem?_take] at hj
  split at hj
  · simpa using hj
  · cases hj
theorem At.cut0 {w : World} {q : Addr} {cs : List Value} (h : At w q cs) {n : Nat} {vs : List Value} (hv : SL.cut cs 0 n = vs) (j : Nat) (u : Value) (hj : vs[j]? = some u) : w.cell? (q.add j) = some u := by
  have := h.cut hv j u hj; rwa [add_zero] at this
/-- A value that is a struct whose parts are owned. -/
def OwV {α : Type} (O : List Value → α → List Ck → Prop) (x : α) (v : Value) (ch : List Ck) : Prop := ∃ cs, v = .agg cs.toArray ∧ O cs x ch
theorem pullc (a b c : List Ck) : (a ++ (b ++ c)).Perm (b ++ (a ++ c)) := by
  rw [← List.append_assoc, ← List.append_assoc]
  exact List.perm_append_comm.append_right c
section
variable {C : Cx} {k : List Item} {env : Env} {B F F' : List Ck} {ops : Array Oper} {rest : List Oper} {K : Env → List Ck → Act → World → Prop}
theorem rw_F (e : F = F') (h : RW C ops rest K env B F') : RW C ops rest K env B F := e ▸ h
theorem gw_F (e : F = F') (h : GW C k env B F') : GW C k env B F := e ▸ h
theorem gw_FP (e : F.Perm F') (h : GW C k env B F') : GW C k env B F := gw_perm (e.append_left B) h
theorem dw_F {tl : Env → List Ck → Prop} {π : List (Nat × Kd)} (e : F = F') (h : DW C ops B tl π env F') : DW C ops B tl π env F := e ▸ h
theorem ret_cnP {fn : Func} {w : World} {n : Nat} {f : FuncId} {P : Program} {u : Value} {post : Value → List Ck → Prop} {ch G : List Ck} (hfn : P.funcs[f]? = some fn)
    (hv : Res ⟨P, f, n, w, [], fun e w' => ∃ v ch, e = .returned v ∧ post v ch ∧ Sat w [] w' ch⟩ env (B ++ F) u) (hp : post u ch) (hch : F.Perm G) (hG : G = ch ++ F') :
    GW ⟨P, f, n, w, [], fun e w' => ∃ v ch, e = .returned v ∧ post v ch ∧ Sat w [] w' ch⟩ (.code .ret :: k) env B F :=
  gw_ret fn hfn hv fun _ hs => ⟨u, ch, rfl, hp, (hs.perm ((hch.append_left B).trans (by rw [hG]; exact pullc _ _ _))).weaken (List.sublist_append_left _ _)⟩
theorem ret_cnPE {fn : Func} {w : World} {n : Nat} {f : FuncId} {P : Program} {u : Value} {post : Value → List Ck → Prop} {ch G : List Ck} (hfn : P.funcs[f]? = some fn)
    (hv : Res ⟨P, f, n, w, [], fun e w' => ∃ v ch, e = .returned v ∧ post v ch ∧ Sat w [] w' ch⟩ env (B ++ F) u) (hp : post u ch) (hch : F.Perm G) (hG : G = ch ++ F') :
    GW ⟨P, f, n, w, [], fun e w' => ∃ v ch, e = .returned v ∧ post v ch ∧ Sat w [] w' ch⟩ [] env B F :=
  gw_end fn hfn hv fun _ hs => ⟨u, ch, rfl, hp, (hs.perm ((hch.append_left B).trans (by rw [hG]; exact pullc _ _ _))).weaken (List.sublist_append_left _ _)⟩
end
end SL
end Go.Proofs.Ytbhnekiclbfmgaa
