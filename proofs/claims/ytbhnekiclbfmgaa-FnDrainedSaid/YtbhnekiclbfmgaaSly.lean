/- Small lemmas for the walks of what is drawn. -/
import Derived.Test.YtbhnekiclbfmgaaSlx
import Derived.Test.YtbhnekiclbfmgaaNewSS
import Derived.Test.YtbhnekiclbfmgaaCur
import Derived.Test.YtbhnekiclbfmgaaMerge
namespace Go.Proofs.Ytbhnekiclbfmgaa
namespace SL
open Go.RowKit
section
variable {C : Cx} {env : Env} {B F : List Ck} {ops : Array Oper} {rest : List Oper}
variable {K : Env → List Ck → Act → World → Prop} {d : Nat} {ty T : TypeId} {pos : String} {af : Array Edge} {x y : Operand}
theorem rw_makeOe {α : Type} {f : α → List Value} {a : α} {E kk bytes : Nat} {IK IK' : IntKind} {m : Int} (n : Nat) (hm : m = (n : Int)) (hd : Nat.blt d C.n = true) (hT : TyM C.P T E kk bytes (f a)) (hx : ev env x = some (.int IK m)) (hy : ev env y = some (.int IK' m)) (hb : n ≤ 134217728)
    (h : ∀ v ch, OwA E kk (PlO f) v (List.replicate n a) ch → RW C ops rest K ((d, v) :: env) B (ch ++ F)) :
    RW C ops (⟨some d, .makeSlice T x y, ty, pos, af, none⟩ :: rest) K env B F := by
  subst hm; exact rw_makeO hd hT hx hy hb h
end
theorem pos_of_len1 {n : Nat} (h : ((n : Int) == 1) = true) : 0 < n := by
  have : (n : Int) = 1 := by simpa using h
  omega
theorem byte_wrap {k : Nat} (hk : k ≤ 255) : Value.int .u8 (IntKind.u8.wrap ((k : Int).tmod 256)) = .int .u8 ((UInt8.ofNat k).toNat : Int) := by
  have h1 : (k : Int).tmod 256 = (k : Int) := by rw [Int.tmod_eq_emod_of_nonneg (by omega)]; omega
  have h2 : (UInt8.ofNat k).toNat = k := by rw [UInt8.toNat_ofNat']; omega
  rw [h1, h2, show IntKind.u8.wrap (k : Int) = (k : Int) % 256 from rfl, show (k : Int) % 256 = (k : Int) by omega]
theorem byte_cells {k : Nat} (hk : k ≤ 255) : [Value.int .u8 (IntKind.u8.wrap ((k : Int).tmod 256))] = [UInt8.ofNat k].map fun u => Value.int .u8 (u.toNat : Int) := by
  rw [byte_wrap hk]; rfl
theorem byte_quo {k : Nat} (hk : k ≤ 255) : IntKind.i64.wrap ((k : Int).tdiv 256) = 0 := by
  have h1 : (k : Int).tdiv 256 = 0 := by rw [Int.tdiv_eq_ediv_of_nonneg (by omega)]; omega
  rw [h1]; rfl
theorem and_nat (X : Int) : ∃ k : Nat, bits .and .i64 X 255 = (k : Int) ∧ k ≤ 255 := and_val X
section
variable {C : Cx} {env : Env} {B F : List Ck}
theorem res4 {fn : Func} {r1 r2 r3 r4 : ResultVar} {v1 v2 v3 v4 : Value} (hfn : C.P.funcs[C.f]? = some fn) (hr : fn.results = #[r1, r2, r3, r4]) (h1 : RV C env B r1 v1) (h2 : RV C env B r2 v2) (h3 : RV C env B r3 v3) (h4 : RV C env B r4 v4) :
    Res C env (B ++ F) (.tuple #[v1, v2, v3, v4]) := by
  intro fn' hfn' tm w hf hs
  rw [hfn] at hfn'; cases hfn'
  have h1 := h1 F tm w hf hs
  have h2 := h2 F tm w hf hs
  have h3 := h3 F tm w hf hs
  have h4 := h4 F tm w hf hs
  simp [results_eq, hr, h1, h2, h3, h4]
end
theorem conf_val (a b c d e f g h : Int) : Value.agg [.int .i64 a, .int .i64 b, .int .i64 c, .int .i64 d, .int .i64 e, .int .i64 f, .int .i64 g, .int .i64 h].toArray = .agg (Conf.cells ⟨a, b, c, d, e, f, g, h⟩).toArray := rfl
theorem conf_val4 (s : Bool) (i a b c d e f g h a' b' c' d' e' f' g' h' : Int) : ∃ (s' : Bool) (id : Int) (o p : Conf), Value.tuple #[.bool s, .int .i64 i, .agg [.int .i64 a, .int .i64 b, .int .i64 c, .int .i64 d, .int .i64 e, .int .i64 f, .int .i64 g, .int .i64 h].toArray,
    .agg [.int .i64 a', .int .i64 b', .int .i64 c', .int .i64 d', .int .i64 e', .int .i64 f', .int .i64 g', .int .i64 h'].toArray] = .tuple #[.bool s', .int .i64 id, .agg o.cells.toArray, .agg p.cells.toArray] := ⟨s, i, ⟨a, b, c, d, e, f, g, h⟩, ⟨a', b', c', d', e', f', g', h'⟩, rfl⟩
/-- The bytes can be read, and lie in none of the blocks X. -/
structure RdbX {α : Type} (f : α → List Value) (w : World) (A : Option Addr) (l : List α) (X : List Nat) : Prop where
  rd : RdL w 1 (Pl f) A l
  ne : 0 < l.length → (adr A).block ∉ X
  len : l.length ≤ 134217728
theorem Rdb.X {α : Type} {f : α → List Value} {w : World} {A : Option Addr} {l : List α} {b : Nat} (h : Rdb f w A l b) : RdbX f w A l [b] := ⟨h.rd, fun h0 hm => h.ne h0 (by simpa using hm), h.len⟩
theorem RdbX.b {α : Type} {f : α → List Value} {w : World} {A : Option Addr} {l : List α} {b : Nat} (h : RdbX f w A l [b]) : Rdb f w A l b := ⟨h.rd, fun h0 e => h.ne h0 (by simp [e]), h.len⟩
theorem RdbX.ext {α : Type} {f : α → List Value} {w : World} {A : Option Addr} {l : List α} (h : RdL w 1 (Pl f) A l) (hl : l.length ≤ 134217728) : RdbX f w A l [] := ⟨h, fun _ hm => (by cases hm), hl⟩
theorem RdbX.own {α : Type} {f : α → List Value} {w0 w : World} {A : Option Addr} {l : List α} {X : List Nat} {B F G R : List Ck} (h : RdbX f w0 A l X) (hs : Sat w0 X w (B ++ F)) (hp : F.Perm (G ++ R)) : RdbX f w A l (G.map Ck.b) := by
  have hlt : 0 < l.length → (adr A).block < w0.heap.size := fun h0 => by
    obtain ⟨x, hx⟩ := get_of_lt h0
    have h1 := (h.rd.plain hx).1
    rwa [block_add] at h1
  refine ⟨⟨h.rd.1, fun i x hx => ?_⟩, fun h0 hm => ?_, h.len⟩
  · obtain ⟨cs, h1, h2⟩ := h.rd.2 i x hx
    exact ⟨cs, h1, h2.satX hs (by rw [block_add]; exact h.ne (by have := (List.getElem?_eq_some_iff.1 hx).1; omega))⟩
  · obtain ⟨c, hc, hcb⟩ := List.mem_map.1 hm
    have hcm : c ∈ B ++ F := List.mem_append_right _ (hp.mem_iff.2 (List.mem_append_left _ hc))
    rcases hs.own c hcm with h2 | h2
    · rw [hcb] at h2; exact h.ne h0 h2
    · have := hlt h0; omega
/-- What a draw hands back that it owns, and the cursor, moved on. -/
def DrewO {α : Type} (O : List Value → α → List Ck → Prop) (Q : α → Prop) (b : Nat) (A : Option Addr) (n c : Nat) (v : Value) (H : List Ck) : Prop :=
  ∃ (cs : List Value) (x : α) (ch : List Ck) (i : Nat) (h : Int), v = .agg cs.toArray ∧ O cs x ch ∧ Q x ∧ i ≤ n ∧ H = cur b A n c i h :: ch
end SL
open SL Go.RowKit
theorem rdRing_mk {a0 a1 a2 : Int} {a3 : List Int} {w : World} {v0 : Value} (h0 : RdS w 1 (Pl intC) v0 a3) : RdRing w [.int .i64 a0, .int .i64 a1, .int .i64 a2, v0] ⟨a0, a1, a2, a3⟩ := ⟨v0, rfl, h0⟩
theorem rdSender_mk {a0 a1 a2 a3 a8 a9 a10 a11 : Int} {a4 : List Int} {a5 a6 a7 : List Range} {w : World} {v0 v1 v2 v3 : Value} (h0 : RdS w 1 (Pl intC) v0 a4) (h1 : RdS w 2 (Pl Range.cells) v1 a5) (h2 : RdS w 2 (Pl Range.cells) v2 a6) (h3 : RdS w 2 (Pl Range.cells) v3 a7) : RdSender w [.int .i64 a0, .int .i64 a1, .int .i64 a2, .int .i64 a3, v0, v1, v2, v3, .int .i64 a8, .int .i64 a9, .int .i64 a10, .int .i64 a11] ⟨a0, ⟨a1, a2, a3, a4⟩, a5, a6, a7, a8, a9, a10, a11⟩ := ⟨v0, v1, v2, v3, rfl, h0, h1, h2, h3⟩
theorem rdBuffer_mk {a0 : Int} {a1 : List Chunk} {w : World} {v0 : Value} (h0 : RdS w 2 (Pl Chunk.cells) v0 a1) : RdBuffer w [.int .i64 a0, v0] ⟨a0, a1⟩ := ⟨v0, rfl, h0⟩
theorem rdReceiver_mk {a0 a1 a3 a4 a5 : Int} {a2 : List Chunk} {w : World} {v0 : Value} (h0 : RdS w 2 (Pl Chunk.cells) v0 a2) : RdReceiver w [.int .i64 a0, .int .i64 a1, v0, .int .i64 a3, .int .i64 a4, .int .i64 a5] ⟨a0, ⟨a1, a2⟩, a3, a4, a5⟩ := ⟨v0, rfl, h0⟩
theorem rdStream_mk {a0 a1 a2 a3 a4 a9 a10 a11 a12 a13 a14 a15 a16 a17 a18 a20 a21 a22 a23 a24 a25 a26 a27 a28 a29 a37 : Int} {a5 : List Int} {a6 a7 a8 : List Range} {a19 : List Chunk} {a30 a31 a32 a33 a34 a35 a36 a38 : Bool} {w : World} {v0 v1 v2 v3 v4 : Value} (h0 : RdS w 1 (Pl intC) v0 a5) (h1 : RdS w 2 (Pl Range.cells) v1 a6) (h2 : RdS w 2 (Pl Range.cells) v2 a7) (h3 : RdS w 2 (Pl Range.cells) v3 a8) (h4 : RdS w 2 (Pl Chunk.cells) v4 a19) : RdStream w [.int .i64 a0, .int .i64 a1, .int .i64 a2, .int .i64 a3, .int .i64 a4, v0, v1, v2, v3, .int .i64 a9, .int .i64 a10, .int .i64 a11, .int .i64 a12, .int .i64 a13, .int .i64 a14, .int .i64 a15, .int .i64 a16, .int .i64 a17, .int .i64 a18, v4, .int .i64 a20, .int .i64 a21, .int .i64 a22, .int .i64 a23, .int .i64 a24, .int .i64 a25, .int .i64 a26, .int .i64 a27, .int .i64 a28, .int .i64 a29, .bool a30, .bool a31, .bool a32, .bool a33, .bool a34, .bool a35, .bool a36, .int .i64 a37, .bool a38] ⟨a0, ⟨a1, ⟨a2, a3, a4, a5⟩, a6, a7, a8, a9, a10, a11, a12⟩, ⟨a13, a14, a15, a16⟩, ⟨a17, ⟨a18, a19⟩, a20, a21, a22⟩, ⟨a23, a24, a25, a26, a27, a28⟩, ⟨a29, a30⟩, a31, a32, a33, a34, a35, a36, a37, a38⟩ := ⟨v0, v1, v2, v3, v4, rfl, h0, h1, h2, h3, h4⟩
theorem owRing_mk {a0 a1 a2 : Int} {a3 : List Int} {v0 : Value} {c0 : List Ck} (h0 : OwS 3 1 (PlO intC) v0 a3 c0) : OwRing [.int .i64 a0, .int .i64 a1, .int .i64 a2, v0] ⟨a0, a1, a2, a3⟩ (c0) :=
  ⟨v0, c0, rfl, h0, rfl⟩
theorem owSender_mk {a0 a1 a2 a3 a8 a9 a10 a11 : Int} {a4 : List Int} {a5 a6 a7 : List Range} {v0 v1 v2 v3 : Value} {c0 c1 c2 c3 : List Ck} (h0 : OwS 3 1 (PlO intC) v0 a4 c0) (h1 : OwS 61 2 (PlO Range.cells) v1 a5 c1) (h2 : OwS 61 2 (PlO Range.cells) v2 a6 c2) (h3 : OwS 61 2 (PlO Range.cells) v3 a7 c3) : OwSender [.int .i64 a0, .int .i64 a1, .int .i64 a2, .int .i64 a3, v0, v1, v2, v3, .int .i64 a8, .int .i64 a9, .int .i64 a10, .int .i64 a11] ⟨a0, ⟨a1, a2, a3, a4⟩, a5, a6, a7, a8, a9, a10, a11⟩ (c0 ++ (c1 ++ (c2 ++ (c3)))) :=
  ⟨v0, v1, v2, v3, c0, c1, c2, c3, rfl, h0, h1, h2, h3, rfl⟩
theorem owBuffer_mk {a0 : Int} {a1 : List Chunk} {v0 : Value} {c0 : List Ck} (h0 : OwS 92 2 (PlO Chunk.cells) v0 a1 c0) : OwBuffer [.int .i64 a0, v0] ⟨a0, a1⟩ (c0) :=
  ⟨v0, c0, rfl, h0, rfl⟩
theorem owReceiver_mk {a0 a1 a3 a4 a5 : Int} {a2 : List Chunk} {v0 : Value} {c0 : List Ck} (h0 : OwS 92 2 (PlO Chunk.cells) v0 a2 c0) : OwReceiver [.int .i64 a0, .int .i64 a1, v0, .int .i64 a3, .int .i64 a4, .int .i64 a5] ⟨a0, ⟨a1, a2⟩, a3, a4, a5⟩ (c0) :=
  ⟨v0, c0, rfl, h0, rfl⟩
theorem owStream_mk {a0 a1 a2 a3 a4 a9 a10 a11 a12 a13 a14 a15 a16 a17 a18 a20 a21 a22 a23 a24 a25 a26 a27 a28 a29 a37 : Int} {a5 : List Int} {a6 a7 a8 : List Range} {a19 : List Chunk} {a30 a31 a32 a33 a34 a35 a36 a38 : Bool} {v0 v1 v2 v3 v4 : Value} {c0 c1 c2 c3 c4 : List Ck} (h0 : OwS 3 1 (PlO intC) v0 a5 c0) (h1 : OwS 61 2 (PlO Range.cells) v1 a6 c1) (h2 : OwS 61 2 (PlO Range.cells) v2 a7 c2) (h3 : OwS 61 2 (PlO Range.cells) v3 a8 c3) (h4 : OwS 92 2 (PlO Chunk.cells) v4 a19 c4) : OwStream [.int .i64 a0, .int .i64 a1, .int .i64 a2, .int .i64 a3, .int .i64 a4, v0, v1, v2, v3, .int .i64 a9, .int .i64 a10, .int .i64 a11, .int .i64 a12, .int .i64 a13, .int .i64 a14, .int .i64 a15, .int .i64 a16, .int .i64 a17, .int .i64 a18, v4, .int .i64 a20, .int .i64 a21, .int .i64 a22, .int .i64 a23, .int .i64 a24, .int .i64 a25, .int .i64 a26, .int .i64 a27, .int .i64 a28, .int .i64 a29, .bool a30, .bool a31, .bool a32, .bool a33, .bool a34, .bool a35, .bool a36, .int .i64 a37, .bool a38] ⟨a0, ⟨a1, ⟨a2, a3, a4, a5⟩, a6, a7, a8, a9, a10, a11, a12⟩, ⟨a13, a14, a15, a16⟩, ⟨a17, ⟨a18, a19⟩, a20, a21, a22⟩, ⟨a23, a24, a25, a26, a27, a28⟩, ⟨a29, a30⟩, a31, a32, a33, a34, a35, a36, a37, a38⟩ (c0 ++ (c1 ++ (c2 ++ (c3 ++ (c4))))) :=
  ⟨v0, v1, v2, v3, v4, c0, c1, c2, c3, c4, rfl, h0, h1, h2, h3, h4, rfl⟩
def bytOf (n : Int) : UInt8 := UInt8.ofNat (bits .and .i64 n 255).toNat
theorem bytOf_eq {n : Int} {k : Nat} (h : bits .and .i64 n 255 = (k : Int)) : bytOf n = UInt8.ofNat k := by unfold bytOf; rw [h]; rfl
theorem gap_le {l : List Range} {e : Int} (h : Vf (-1) l) (hb : Hb e l) (he : 0 ≤ e) : firstGap l 0 ≤ e := by
  cases l with
  | nil => exact he
  | cons r l =>
    rw [gap_cons h]
    split
    · exact hb.cons.1
    · exact he
theorem isSenderS_base {s : Sender} (h : isSenderS s = true) : isRing s.ring = true ∧ 0 ≤ s.sent ∧ s.sent ≤ s.ring.fin := by
  unfold isSenderS at h
  simp only [Bool.and_eq_true] at h
  have h := h.1
  simp only [senderBase, within, Bool.and_eq_true, decide_eq_true_eq] at h
  exact ⟨h.1.1.1.1.1.1, h.1.1.2⟩
theorem sender_size {s : Sender} (h : isSenderS s = true) : ∃ n : Nat, s.ring.size = (n : Int) ∧ n ≤ 64 ∧ 0 ≤ s.sent ∧ s.sent ≤ s.ring.fin := by
  obtain ⟨h1, h2⟩ := isSenderS_base h
  obtain ⟨⟨h3, h4⟩, _⟩ := ring_size h1
  exact ⟨s.ring.size.toNat, by omega, by omega, h2⟩
theorem peek_ok {r : Ring} {o m : Int} (h1 : isRing r = true) (h2 : decide (o < r.base) = false) (h3 : decide (m < 0) = false) (h4 : decide (r.fin < o) = false) (h5 : decide (w64 (r.fin - o) < m) = false) :
    0 ≤ o ∧ 0 ≤ m ∧ m ≤ 64 ∧ o + m ≤ r.fin ∧ r.fin ≤ 4611686018427387903 := by
  have g := isRing_end h1; have q := ring_size h1
  have hb : r.fin - r.base ≤ r.size := by
    simp only [isRing, within, isQuic, Bool.and_eq_true, decide_eq_true_eq, maxQuic, w64_emod] at h1
    simp only [maxQuic] at g
    omega
  simp only [maxQuic] at g
  simp only [decide_eq_false_iff_not, w64_emod] at h2 h3 h4 h5
  omega
theorem peek_at {r : Ring} {o m : Int} {i : Nat} (h1 : isRing r = true) (hp : 0 ≤ o ∧ 0 ≤ m ∧ m ≤ 64 ∧ o + m ≤ r.fin ∧ r.fin ≤ 4611686018427387903) (h : decide ((i : Int) < m) = true) :
    ∃ k : Nat, (w64 (o + (i : Int))).tmod r.size = (k : Int) ∧ k < r.cells.length := by
  have h := of_decide_eq_true h
  obtain ⟨⟨h4, h5⟩, h6⟩ := ring_size h1
  exact place h4 h6 (by rw [w64_emod]; omega)
theorem ring_nz {r : Ring} (h : isRing r = true) : r.size ≠ 0 := by have := (ring_size h).1; omega
theorem size_of_list {r : Int} (h : r ∈ ([4, 8, 16] : List Int)) : ∃ n : Nat, r = (n : Int) ∧ isRingSize (n : Int) = true ∧ n ≤ 64 := by
  simp only [List.mem_cons, List.not_mem_nil, or_false] at h
  rcases h with rfl | rfl | rfl
  · exact ⟨4, rfl, by decide, by decide⟩
  · exact ⟨8, rfl, by decide, by decide⟩
  · exact ⟨16, rfl, by decide, by decide⟩
theorem newSender_fine {n : Nat} (h : n ≤ 64) : FineS 0 (newSender n) :=
  ⟨trivial, trivial, trivial, hb_nil _, hb_nil _, hb_nil _, Int.le_refl _, Int.le_refl _, by show (List.replicate n (0 : Int)).length ≤ 64; rw [List.length_replicate]; exact h⟩
theorem quic_small {n : Nat} (h : n < 8) : isQuic (n : Int) = true := by
  simp only [isQuic, within, Bool.and_eq_true, decide_eq_true_eq]; omega
end Go.Proofs.Ytbhnekiclbfmgaa
