/- Walks: draws. -/
import Derived.Test.YtbhnekiclbfmgaaFactsDa
import Derived.Test.YtbhnekiclbfmgaaOver
import Derived.Test.YtbhnekiclbfmgaaDraw
import Derived.Test.YtbhnekiclbfmgaaSh
import Derived.Test.YtbhnekiclbfmgaaSlq
import Derived.Test.YtbhnekiclbfmgaaSlh
import Derived.Test.YtbhnekiclbfmgaaElems
import Derived.Test.YtbhnekiclbfmgaaSlw
import Derived.Test.YtbhnekiclbfmgaaNewSS
import Derived.Test.YtbhnekiclbfmgaaPut
import Derived.Test.YtbhnekiclbfmgaaSlx
import Derived.Test.YtbhnekiclbfmgaaSls
import Derived.Test.YtbhnekiclbfmgaaMerge
import Derived.Test.YtbhnekiclbfmgaaSlt
import Derived.Test.YtbhnekiclbfmgaaSly
import Derived.Test.YtbhnekiclbfmgaaPk
import Derived.Test.YtbhnekiclbfmgaaDrw
import Derived.Test.YtbhnekiclbfmgaaSlk
import Derived.Test.YtbhnekiclbfmgaaDrb
import Derived.Test.YtbhnekiclbfmgaaSli
import Derived.Test.YtbhnekiclbfmgaaDrl
namespace Go.Proofs.Ytbhnekiclbfmgaa
open SL Go.RowKit
theorem impl_within (a b c : Int) (w : World) : CV Try.prog 63 [.int .i64 a, .int .i64 b, .int .i64 c] w (.bool (within a b c)) := by
  refine cv_of Try.func63 Z Z Z <| SQ <| RG <| AS Z Z <| ND <| SQ <| RG <| MV Z Z <| MV Z Z <| rw_leq Z Z Z <| MV Z Z <| ?_
  refine rw_caseL (j := 10) Z (fun h1 => ?_) (fun h1 => ?_)
  · refine ON Z Z Z <| MV Z Z <| ON Z Z Z <| MV Z Z <| ON Z Z Z <| rw_leq Z Z Z <| PT Z Z Z Z <| AS Z Z <| ND <| RT Try.func63 Z Z <| ?_
    simp only [within, h1] <;> rfl
  refine SKP Z <| PF Z Z Z Z <| AS Z Z <| ND <| RT Try.func63 Z Z <| ?_
  simp only [within, h1] <;> rfl

theorem impl_isRingSize (a : Int) (w : World) : CV Try.prog 44 [.int .i64 a] w (.bool (isRingSize a)) := by
  refine cv_of Try.func44 Z Z Z <| SQ <| RG <| AS Z Z <| ND <| SQ <| RG <| MV Z Z <| CV1 Z fun_impl_within Z (fun w hs => impl_within _ _ _ w) <| MV Z Z <| ?_
  refine rw_caseL (j := 5) Z (fun h1 => ?_) (fun h1 => ?_)
  · refine ON Z Z Z <| MV Z Z <| ON Z Z Z <| MV Z Z <| ON Z Z Z <| rw_sub Z Z Z <| ON Z Z Z <| rw_and Z Z Z <| ON Z Z Z <| EQ1 Z Z Z <| PT Z Z Z Z <| AS Z Z <| ND <| RT Try.func44 Z Z <| ?_
    simp only [isRingSize, h1] <;> rfl
  refine SKP Z <| PF Z Z Z Z <| AS Z Z <| ND <| RT Try.func44 Z Z <| ?_
  simp only [isRingSize, h1] <;> rfl

theorem impl_IsRing_1 (n : Int) (w : World) : CV Try.prog 81 [.int .i64 n] w (.bool (!within n 0 255)) := by
  refine cv_of Try.func81 Z Z Z <| SQ <| RG <| AS Z Z <| ND <| SQ <| RG <| MV Z Z <| CV1 Z fun_impl_within Z (fun w hs => impl_within _ _ _ w) <| NT Z Z <| AS Z Z <| ND <| RT Try.func81 Z Z <| ?_
  rfl

theorem slices_IndexFunc_int {w : World} {v : Value} {l : List Int} (hv : RdS w 1 (Pl intC) v l) (hb : l.length ≤ 4194304) : CV Try.prog 85 [v, (.func (.func 81) #[] #[])] w (.int .i64 (badFrom 0 l)) := by
  obtain ⟨A, c, rfl, hA⟩ := hv
  refine cv_of Try.func85 Z Z Z <| SQ <| RG <| AS Z Z <| ND <| SQ <| SQ <| RG <| MV Z Z <| rw_len Z tyE_S_int Z <| MV Z Z <| ND <| BK <| ?_
  refine gw_loopC (α := Nat) (fun z_ => z_ ≤ l.length ∧ badFrom 0 l = badFrom z_ (l.drop z_)) (fun z_ => l.length - z_) (fun e z_ => (8, .int .i64 (z_ : Int)) :: e) 0 [(0, _), (1, _), (7, _)] (Sub.consE Z Z (Sub.cons (i := 0) Z (Sub.cons (i := 1) Z (Sub.cons (i := 7) Z (Sub.nil _))))) ?_ ?_
  · exact ⟨Nat.zero_le _, rfl⟩
  · rintro i hI1 ih1
    try dsimp only
    obtain ⟨hle, hI⟩ := hI1
    refine SQ <| RG <| rw_lss Z Z Z <| ND <| SQ <| ?_
    refine gw_cond Z (fun h1 => ?_) (fun h1 => ?_)
    · have hi2 := lt_of_dec h1
      obtain ⟨x3, hx3⟩ := get_of_lt hi2
      have hd3 := drop_cons hx3
      refine SK <| SQ <| BK <| SQ <| RG <| MV Z Z <| AS Z Z <| ND <| SQ <| RG <| MV Z Z <| MV Z Z <| MV Z Z <| ?_
      have hq4 := hA.plain hx3
      refine rw_indexAddr (i) Z tyE_S_int Z Z Z (hA.some hi2) hi2 <| rw_loadX _ Z tyP_int Z (fun w hs => hq4.ld0 hs Z) <| rw_cvF Z Z fun_impl_IsRing_1 Z (fun w hs => impl_IsRing_1 _ w) <| ND <| ?_
      refine gw_cond Z (fun h2 => ?_) (fun h2 => ?_)
      · refine SQ <| RG <| MV Z Z <| AS Z Z <| ND <| RT Try.func85 Z Z <| ?_
        rw [hI, hd3]; simp [badFrom, h2]
      refine SK <| IB <| RG <| rw_add Z Z Z <| MV Z Z <| ND <| ?_
      refine gw_sub (Sub.consE (i := 8) Z (int_succ (by omega)) (Sub.cons (i := 0) Z (Sub.cons (i := 1) Z (Sub.cons (i := 7) Z (Sub.nil _))))) (ih1 (i + 1) ?_ ?_)
      · exact ⟨by omega, by rw [hI, hd3]; simp [badFrom, h2]⟩
      · show l.length - (i + 1) < l.length - i; omega
    have hn5 := nil_of_dec h1
    refine EX Z <| SQ <| RG <| AS Z Z <| ND <| RT Try.func85 Z Z <| ?_
    rw [hI, hn5]; rfl

theorem slices_ContainsFunc_int {w : World} {v : Value} {l : List Int} (hv : RdS w 1 (Pl intC) v l) (hb : l.length ≤ 4194304) : CV Try.prog 80 [v, (.func (.func 81) #[] #[])] w (.bool (!l.all fun n => within n 0 255)) := by
  obtain ⟨A, c, rfl, hA⟩ := hv
  refine cv_of Try.func80 Z Z Z <| SQ <| RG <| AS Z Z <| ND <| SQ <| RG <| MV Z Z <| MV Z Z <| CV1 Z fun_slices_IndexFunc_S_int_int Z (fun w hs => slices_IndexFunc_int (hA.s Pl.keeps hs) (by omega)) <| rw_geq Z Z Z <| AS Z Z <| ND <| RT Try.func80 Z Z <| ?_
  exact congrArg _ (bad_all l 0)

theorem impl_isQuic (a : Int) (w : World) : CV Try.prog 71 [.int .i64 a] w (.bool (isQuic a)) := by
  refine cv_of Try.func71 Z Z Z <| SQ <| RG <| AS Z Z <| ND <| SQ <| RG <| MV Z Z <| CV1 Z fun_impl_within Z (fun w hs => impl_within _ _ _ w) <| AS Z Z <| ND <| RT Try.func71 Z Z <| ?_
  rfl

theorem impl_IsRing {w : World} {cs : List Value} {x : Ring} (hv : RdRing w cs x) (hb : x.le 1048576) : CV Try.prog 64 [.agg cs.toArray] w (.bool (isRing x)) := by
  obtain ⟨v0, rfl, k0⟩ := hv
  obtain ⟨A0, c0, rfl, hA0⟩ := k0
  have hb0 : x.cells.length ≤ 1048576 := hb
  refine cv_of Try.func64 Z Z Z <| SQ <| RG <| BX [_, _, _, _] Z Z Z <| fun b1 => AS Z Z <| ND <| SQ <| SQ <| RG <| FA Z tyF_impl_Ring_0 Z <| LD (i := 0) Z tyP_int Z Z Z <| CV1 Z fun_impl_isRingSize Z (fun w hs => impl_isRingSize _ w) <| NT Z Z <| MV Z Z <| ?_
  refine rw_caseN (j := 7) Z (fun h1 => ?_) (fun h1 => ?_)
  · refine SKP Z <| PT Z Z Z Z <| MV Z Z <| SKP Z <| PT Z Z Z Z <| ND <| CT Z Z <| SQ <| RG <| AS Z Z <| ND <| RT Try.func64 Z Z <| ?_
    unfold isRing
    generalize (x.cells.all fun n => within n 0 255) = ab at *
    simp_all [maxQuic]
  refine ON Z Z Z <| FA Z tyF_impl_Ring_3 Z <| ON Z Z Z <| LD (i := 0) Z tyP_S_int Z Z Z <| ON Z Z Z <| rw_len Z tyE_S_int Z <| ON Z Z Z <| FA Z tyF_impl_Ring_0 Z <| ON Z Z Z <| LD (i := 0) Z tyP_int Z Z Z <| ON Z Z Z <| rw_neq Z Z Z <| PF Z Z Z Z <| MV Z Z <| ?_
  refine rw_caseN (j := 15) Z (fun h2 => ?_) (fun h2 => ?_)
  · refine SKP Z <| PT Z Z Z Z <| ND <| CT Z Z <| SQ <| RG <| AS Z Z <| ND <| RT Try.func64 Z Z <| ?_
    unfold isRing
    generalize (x.cells.all fun n => within n 0 255) = ab at *
    simp_all [maxQuic]
  refine ON Z Z Z <| FA Z tyF_impl_Ring_3 Z <| ON Z Z Z <| LD (i := 0) Z tyP_S_int Z Z Z <| ON Z Z Z <| CV1 Z fun_slices_ContainsFunc_S_int_int Z (fun w hs => slices_ContainsFunc_int (hA0.s Pl.keeps hs) (by omega)) <| PF Z Z Z Z <| ND <| ?_
  refine gw_cond Z (fun h3 => ?_) (fun h3 => ?_)
  · refine SQ <| RG <| AS Z Z <| ND <| RT Try.func64 Z Z <| ?_
    unfold isRing
    generalize (x.cells.all fun n => within n 0 255) = ab at *
    simp_all [maxQuic]
  refine SK <| SQ <| RG <| FA Z tyF_impl_Ring_1 Z <| LD (i := 0) Z tyP_int Z Z Z <| CV1 Z fun_impl_isQuic Z (fun w hs => impl_isQuic _ w) <| MV Z Z <| ?_
  refine rw_caseL (j := 23) Z (fun h4 => ?_) (fun h4 => ?_)
  · refine ON Z Z Z <| FA Z tyF_impl_Ring_2 Z <| ON Z Z Z <| LD (i := 0) Z tyP_int Z Z Z <| ON Z Z Z <| FA Z tyF_impl_Ring_1 Z <| ON Z Z Z <| LD (i := 0) Z tyP_int Z Z Z <| ON Z Z Z <| FA Z tyF_impl_Ring_1 Z <| ON Z Z Z <| LD (i := 0) Z tyP_int Z Z Z <| ON Z Z Z <| FA Z tyF_impl_Ring_0 Z <| ON Z Z Z <| LD (i := 0) Z tyP_int Z Z Z <| ON Z Z Z <| ?_
    refine rw_add Z Z Z <| ON Z Z Z <| rw_min Z Z Z <| ON Z Z Z <| CV1 Z fun_impl_within Z (fun w hs => impl_within _ _ _ w) <| PT Z Z Z Z <| AS Z Z <| ND <| RT Try.func64 Z Z <| ?_
    unfold isRing
    generalize (x.cells.all fun n => within n 0 255) = ab at *
    simp_all [maxQuic]
  refine SKP Z <| PF Z Z Z Z <| AS Z Z <| ND <| RT Try.func64 Z Z <| ?_
  unfold isRing
  generalize (x.cells.all fun n => within n 0 255) = ab at *
  simp_all [maxQuic]

theorem impl_RoomOf {w : World} {cs : List Value} {x : Ring} (hv : RdRing w cs x) (hb : x.le 1048576) : CV Try.prog 48 [.agg cs.toArray] w (.int .i64 (roomOf x)) := by
  obtain ⟨v0, rfl, k0⟩ := hv
  obtain ⟨A0, c0, rfl, hA0⟩ := k0
  have hb0 : x.cells.length ≤ 1048576 := hb
  refine cv_of Try.func48 Z Z Z <| SQ <| RG <| BX [_, _, _, _] Z Z Z <| fun b1 => AS Z Z <| ND <| SQ <| SQ <| RG <| LS (i := 0) [_, _, _, _] Z tyS_impl_Ring Z Z Z Z <| CV1 Z fun_impl_IsRing Z (fun w hs => impl_IsRing ⟨_, Z, (hA0.s Pl.keeps hs)⟩ (show _ ≤ _ from hb0)) <| NT Z Z <| ND <| ?_
  refine gw_condN Z (fun h1 => ?_) (fun h1 => ?_)
  · refine SQ <| RG <| AS Z Z <| ND <| RT Try.func48 Z Z <| ?_
    simp [roomOf, h1]
  refine SK <| SQ <| RG <| FA Z tyF_impl_Ring_0 Z <| LD (i := 0) Z tyP_int Z Z Z <| FA Z tyF_impl_Ring_2 Z <| LD (i := 0) Z tyP_int Z Z Z <| FA Z tyF_impl_Ring_1 Z <| LD (i := 0) Z tyP_int Z Z Z <| rw_sub Z Z Z <| rw_sub Z Z Z <| FA Z tyF_impl_Ring_2 Z <| LD (i := 0) Z tyP_int Z Z Z <| rw_sub Z Z Z <| rw_min Z Z Z <| AS Z Z <| ND <| RT Try.func48 Z Z <| ?_
  simp [roomOf, h1]

theorem impl_takes {w : World} {cs : List Value} {x : Receiver} (hv : RdReceiver w cs x) (hb : x.le 1048576) : CV Try.prog 40 [.agg cs.toArray] w (.bool (x.state == 0 || x.state == 1)) := by
  obtain ⟨v0, rfl, k0⟩ := hv
  obtain ⟨A0, c0, rfl, hA0⟩ := k0
  obtain ⟨hb0, hb1⟩ := hb
  refine cv_of Try.func40 Z Z Z <| SQ <| RG <| BX [_, _, _, _, _, _] Z Z Z <| fun b1 => AS Z Z <| ND <| SQ <| RG <| FA Z tyF_impl_Receiver_0 Z <| LD (i := 0) Z tyP_int Z Z Z <| EQ1 Z Z Z <| MV Z Z <| ?_
  refine rw_caseL (j := 6) Z (fun h1 => ?_) (fun h1 => ?_)
  · refine SKP Z <| PT Z Z Z Z <| AS Z Z <| ND <| RT Try.func40 Z Z <| ?_
    simp [h1]
  refine ON Z Z Z <| FA Z tyF_impl_Receiver_0 Z <| ON Z Z Z <| LD (i := 0) Z tyP_int Z Z Z <| ON Z Z Z <| EQ1 Z Z Z <| PF Z Z Z Z <| AS Z Z <| ND <| RT Try.func40 Z Z <| ?_
  simp [h1]

theorem impl_contradicts {w : World} {cs : List Value} {x : Receiver} (hv : RdReceiver w cs x) (e : Int) (f : Bool) : CV Try.prog 39 [.agg cs.toArray, .int .i64 e, .bool f] w (.bool (!(x.final == -1) && decide (x.final < e) || f && (!(x.final == -1) && !(e == x.final) || decide (e < x.highest)))) := by
  obtain ⟨v0, rfl, k0⟩ := hv
  obtain ⟨A0, c0, rfl, hA0⟩ := k0
  refine cv_of Try.func39 Z Z Z <| SQ <| RG <| BX [_, _, _, _, _, _] Z Z Z <| fun b1 => AS Z Z <| ND <| SQ <| RG <| FA Z tyF_impl_Receiver_2 Z <| LD (i := 0) Z tyP_int Z Z Z <| rw_neq Z Z Z <| MV Z Z <| ?_
  refine rw_caseN (j := 10) Z (fun h1 => ?_) (fun h1 => ?_)
  · refine ON Z Z Z <| MV Z Z <| ON Z Z Z <| FA Z tyF_impl_Receiver_2 Z <| ON Z Z Z <| LD (i := 0) Z tyP_int Z Z Z <| ON Z Z Z <| rw_gtr Z Z Z <| PT Z Z Z Z <| MV Z Z <| ?_
    refine rw_caseL (j := 16) Z (fun h2 => ?_) (fun h2 => ?_)
    · refine SKP Z <| PT Z Z Z Z <| AS Z Z <| ND <| RT Try.func39 Z Z <| ?_
      first | (simp [h1, h2]; done) | simp_all
    refine ON Z Z Z <| MV Z Z <| ON Z Z Z <| MV Z Z <| ?_
    refine rw_caseL (j := 18) Z (fun h3 => ?_) (fun h3 => ?_)
    · refine ON Z Z Z <| FA Z tyF_impl_Receiver_2 Z <| ON Z Z Z <| LD (i := 0) Z tyP_int Z Z Z <| ON Z Z Z <| rw_neq Z Z Z <| ON Z Z Z <| MV Z Z <| ?_
      refine rw_caseN (j := 22) Z (fun h4 => ?_) (fun h4 => ?_)
      · refine ON Z Z Z <| MV Z Z <| ON Z Z Z <| FA Z tyF_impl_Receiver_2 Z <| ON Z Z Z <| LD (i := 0) Z tyP_int Z Z Z <| ON Z Z Z <| rw_neq Z Z Z <| ON Z Z Z <| PT Z Z Z Z <| ON Z Z Z <| MV Z Z <| ?_
        refine rw_caseN (j := 28) Z (fun h5 => ?_) (fun h5 => ?_)
        · refine SKP Z <| ON Z Z Z <| PT Z Z Z Z <| ON Z Z Z <| PT Z Z Z Z <| PF Z Z Z Z <| AS Z Z <| ND <| RT Try.func39 Z Z <| ?_
          first | (simp [h1, h2, h3, h5]; done) | simp_all
        refine ON Z Z Z <| MV Z Z <| ON Z Z Z <| FA Z tyF_impl_Receiver_3 Z <| ON Z Z Z <| LD (i := 0) Z tyP_int Z Z Z <| ON Z Z Z <| rw_lss Z Z Z <| ON Z Z Z <| PF Z Z Z Z <| ON Z Z Z <| PT Z Z Z Z <| PF Z Z Z Z <| AS Z Z <| ND <| RT Try.func39 Z Z <| ?_
        first | (simp [h1, h2, h3, h5]; done) | simp_all
      refine SKP Z <| ON Z Z Z <| PF Z Z Z Z <| ON Z Z Z <| MV Z Z <| ON Z Z Z <| MV Z Z <| ON Z Z Z <| FA Z tyF_impl_Receiver_3 Z <| ON Z Z Z <| LD (i := 0) Z tyP_int Z Z Z <| ON Z Z Z <| rw_lss Z Z Z <| ON Z Z Z <| PF Z Z Z Z <| ON Z Z Z <| PT Z Z Z Z <| PF Z Z Z Z <| AS Z Z <| ND <| RT Try.func39 Z Z <| ?_
      first | (simp [h1, h2, h3]; done) | simp_all
    refine SKP Z <| ON Z Z Z <| PF Z Z Z Z <| PF Z Z Z Z <| AS Z Z <| ND <| RT Try.func39 Z Z <| ?_
    first | (simp [h1, h2, h3]; done) | simp_all
  refine SKP Z <| PF Z Z Z Z <| MV Z Z <| ON Z Z Z <| MV Z Z <| ON Z Z Z <| MV Z Z <| ?_
  refine rw_caseL (j := 18) Z (fun h6 => ?_) (fun h6 => ?_)
  · refine ON Z Z Z <| FA Z tyF_impl_Receiver_2 Z <| ON Z Z Z <| LD (i := 0) Z tyP_int Z Z Z <| ON Z Z Z <| rw_neq Z Z Z <| ON Z Z Z <| MV Z Z <| ?_
    refine rw_caseN (j := 22) Z (fun h7 => ?_) (fun h7 => ?_)
    · refine ON Z Z Z <| MV Z Z <| ON Z Z Z <| FA Z tyF_impl_Receiver_2 Z <| ON Z Z Z <| LD (i := 0) Z tyP_int Z Z Z <| ON Z Z Z <| rw_neq Z Z Z <| ON Z Z Z <| PT Z Z Z Z <| ON Z Z Z <| MV Z Z <| ?_
      refine rw_caseN (j := 28) Z (fun h8 => ?_) (fun h8 => ?_)
      · refine SKP Z <| ON Z Z Z <| PT Z Z Z Z <| ON Z Z Z <| PT Z Z Z Z <| PF Z Z Z Z <| AS Z Z <| ND <| RT Try.func39 Z Z <| ?_
        first | (simp [h1, h6, h8]; done) | simp_all
      refine ON Z Z Z <| MV Z Z <| ON Z Z Z <| FA Z tyF_impl_Receiver_3 Z <| ON Z Z Z <| LD (i := 0) Z tyP_int Z Z Z <| ON Z Z Z <| rw_lss Z Z Z <| ON Z Z Z <| PF Z Z Z Z <| ON Z Z Z <| PT Z Z Z Z <| PF Z Z Z Z <| AS Z Z <| ND <| RT Try.func39 Z Z <| ?_
      first | (simp [h1, h6, h8]; done) | simp_all
    refine SKP Z <| ON Z Z Z <| PF Z Z Z Z <| ON Z Z Z <| MV Z Z <| ON Z Z Z <| MV Z Z <| ON Z Z Z <| FA Z tyF_impl_Receiver_3 Z <| ON Z Z Z <| LD (i := 0) Z tyP_int Z Z Z <| ON Z Z Z <| rw_lss Z Z Z <| ON Z Z Z <| PF Z Z Z Z <| ON Z Z Z <| PT Z Z Z Z <| PF Z Z Z Z <| AS Z Z <| ND <| RT Try.func39 Z Z <| ?_
    first | (simp [h1, h6]; done) | simp_all
  refine SKP Z <| ON Z Z Z <| PF Z Z Z Z <| PF Z Z Z Z <| AS Z Z <| ND <| RT Try.func39 Z Z <| ?_
  first | (simp [h1, h6]; done) | simp_all

theorem impl_isRange (r : Range) (w : World) : CV Try.prog 50 [.agg r.cells.toArray] w (.bool (isRange r)) := by
  refine cv_of Try.func50 Z Z Z <| SQ <| RG <| BX [_, _] Z Z Z <| fun b1 => AS Z Z <| ND <| SQ <| RG <| FA Z tyF_impl_Range_0 Z <| LD (i := 0) Z tyP_int Z Z Z <| rw_geq Z Z Z <| MV Z Z <| ?_
  refine rw_caseL (j := 6) Z (fun h1 => ?_) (fun h1 => ?_)
  · refine ON Z Z Z <| FA Z tyF_impl_Range_0 Z <| ON Z Z Z <| LD (i := 0) Z tyP_int Z Z Z <| ON Z Z Z <| FA Z tyF_impl_Range_1 Z <| ON Z Z Z <| LD (i := 0) Z tyP_int Z Z Z <| ON Z Z Z <| rw_lss Z Z Z <| PT Z Z Z Z <| MV Z Z <| ?_
    refine rw_caseL (j := 13) Z (fun h2 => ?_) (fun h2 => ?_)
    · refine ON Z Z Z <| FA Z tyF_impl_Range_1 Z <| ON Z Z Z <| LD (i := 0) Z tyP_int Z Z Z <| ON Z Z Z <| rw_leq Z Z Z <| PT Z Z Z Z <| AS Z Z <| ND <| RT Try.func50 Z Z <| ?_
      simp only [isRange, h1, h2] <;> rfl
    refine SKP Z <| PF Z Z Z Z <| AS Z Z <| ND <| RT Try.func50 Z Z <| ?_
    simp only [isRange, h1, h2] <;> rfl
  refine SKP Z <| PF Z Z Z Z <| MV Z Z <| SKP Z <| PF Z Z Z Z <| AS Z Z <| ND <| RT Try.func50 Z Z <| ?_
  simp only [isRange, h1] <;> rfl

theorem impl_IsRanges {w : World} {v : Value} {l : List Range} (hv : RdS w 2 (Pl Range.cells) v l) (hb : l.length ≤ 4194304) : CV Try.prog 49 [v] w (.bool (isRanges l)) := by
  obtain ⟨A, c, rfl, hA⟩ := hv
  refine cv_of Try.func49 Z Z Z <| SQ <| RG <| AS Z Z <| ND <| SQ <| SQ <| RG <| MV Z Z <| rw_len Z tyE_S_impl_Range Z <| MV Z Z <| ND <| BK <| ?_
  refine gw_loopC (α := Nat) (fun z_ => z_ ≤ l.length ∧ isRanges l = rangesFrom (prevOf l z_) (l.drop z_)) (fun z_ => l.length - z_) (fun e z_ => (7, .int .i64 (z_ : Int)) :: e) 0 [(0, _), (5, _), (6, _)] (Sub.consE Z Z (Sub.cons (i := 0) Z (Sub.cons (i := 5) Z (Sub.cons (i := 6) Z (Sub.nil _))))) ?_ ?_
  · exact ⟨Nat.zero_le _, rfl⟩
  · rintro i hI1 ih1
    try dsimp only
    obtain ⟨hle, hI⟩ := hI1
    refine SQ <| RG <| rw_lss Z Z Z <| ND <| SQ <| ?_
    refine gw_cond Z (fun h1 => ?_) (fun h1 => ?_)
    · have hi2 := lt_of_dec h1
      obtain ⟨x3, hx3⟩ := get_of_lt hi2
      have hd3 := drop_cons hx3
      refine SK <| SQ <| BK <| SQ <| RG <| MV Z Z <| ?_
      have hq4 := hA.plain hx3
      refine rw_indexAddr (i) Z tyE_S_impl_Range Z Z Z (hA.some hi2) hi2 <| rw_loadX_s [_, _] Z tyS_impl_Range Z Z (fun w hs => hq4.lds0 (n := 2) hs Z) <| AL Z tyZ_impl_Range <| fun b1 => AS Z Z <| ST (i := 0) [_, _] [_, _] tyS_impl_Range.sz Z Z Z Z Z Z Z Z <| ND <| SQ <| gw_draw' [dd 0, dd 1, dd 2, dd 3, dd 4, dd 5, dd 6, dd 7, dd 8, dd 9, dd 10, dd 11, dd 12, dd 13, dd 14] [15, 16, 17] mixed Z (FD Z) (ts := [_, _, _]) Z <| DT Z Z (fun K hk => LS (i := 0) [_, _] Z tyS_impl_Range Z Z Z Z hk) <| ?_
      refine DT Z Z (fun K hk => CV1 Z fun_impl_isRange Z (fun w hs => impl_isRange _ w) hk) <| DT Z Z (fun K hk => NT Z Z hk) <| DM Z Z Z <| ?_
      refine dw_caseN (j := 15) Z (fun h2 => ?_) (fun h2 => ?_)
      · refine DSK Z <| dw_nil <| SKP Z <| PT Z Z Z Z <| ND <| CT Z Z <| SQ <| RG <| AS Z Z <| ND <| RT Try.func49 Z Z <| ?_
        rw [hI, hd3]; simp [rangesFrom, h2]
      refine DT Z Z (fun K hk => ON Z Z Z (MV Z Z hk)) <| DT Z Z (fun K hk => ON Z Z Z (rw_gtr Z Z Z hk)) <| DT Z Z (fun K hk => ON Z Z Z (MV Z Z hk)) <| ?_
      refine dw_caseL (j := 18) Z (fun h3 => ?_) (fun h3 => ?_)
      · have hp5 := pos_of h3
        refine DT Z Z (fun K hk => ON Z Z Z (FA Z tyF_impl_Range_0 Z hk)) <| DT Z Z (fun K hk => ON Z Z Z (LD (i := 0) Z tyP_int Z Z Z hk)) <| DT Z Z (fun K hk => ON Z Z Z (MV Z Z hk)) <| DT Z Z (fun K hk => ON Z Z Z (MV Z Z hk)) <| DT Z Z (fun K hk => ON Z Z Z (rw_sub Z Z Z hk)) <| ?_
        have hi6 : i - 1 < l.length := by omega
        obtain ⟨x7, hx7⟩ := get_of_lt hi6
        have hd7 := drop_cons hx7
        have hq8 := hA.plain hx7
        refine DT Z Z (fun K hk => ON Z Z Z (rw_indexAddr (i - 1) Z tyE_S_impl_Range Z Z (pred_of h3 (by omega)) (hA.some hi6) hi6 hk)) <| DT Z Z (fun K hk => ON Z Z Z (FX Z tyF_impl_Range_1 Z hk)) <| DT Z Z (fun K hk => ON Z Z Z (rw_loadX _ Z tyP_int Z (fun w hs => hq8.ld hs Z) hk)) <| dw_nil <| ON Z Z Z <| rw_leq Z Z Z <| ON Z Z Z <| PT Z Z Z Z <| PF Z Z Z Z <| ND <| ?_
        refine gw_cond Z (fun h4 => ?_) (fun h4 => ?_)
        · refine SQ <| RG <| AS Z Z <| ND <| RT Try.func49 Z Z <| ?_
          rw [hI, hd3]; simp [rangesFrom, h2, h4, prevOf_pos hp5 hx7]
        refine SK <| IB <| RG <| rw_add Z Z Z <| MV Z Z <| ND <| gw_dropN 1 <| ?_
        refine gw_sub (Sub.consE (i := 7) Z (int_succ (by omega)) (Sub.cons (i := 0) Z (Sub.cons (i := 5) Z (Sub.cons (i := 6) Z (Sub.nil _))))) (ih1 (i + 1) ?_ ?_)
        · exact ⟨by omega, by rw [hI, hd3, prevOf_succ, hx3]; simp [rangesFrom, h2, h4, prevOf_pos hp5 hx7]⟩
        · show l.length - (i + 1) < l.length - i; omega
      have hz9 := zero_of h3
      refine DSK Z <| dw_nil <| OF Z Z Z Z <| ON Z Z Z <| PF Z Z Z Z <| PF Z Z Z Z <| ND <| CF Z Z <| SK <| IB <| RG <| rw_add Z Z Z <| MV Z Z <| ND <| gw_dropN 1 <| ?_
      refine gw_sub (Sub.consE (i := 7) Z (int_succ (by omega)) (Sub.cons (i := 0) Z (Sub.cons (i := 5) Z (Sub.cons (i := 6) Z (Sub.nil _))))) (ih1 (i + 1) ?_ ?_)
      · exact ⟨by omega, by rw [hI, hd3, prevOf_succ, hx3]; simp [rangesFrom, h2, prevOf_z (l := l) hz9]⟩
      · show l.length - (i + 1) < l.length - i; omega
    have hn10 := nil_of_dec h1
    refine EX Z <| SQ <| RG <| AS Z Z <| ND <| RT Try.func49 Z Z <| ?_
    rw [hI, hn10]; rfl

theorem impl_CountNumbers {w : World} {v : Value} {l : List Range} (hv : RdS w 2 (Pl Range.cells) v l) (hb : l.length ≤ 4194304) : CV Try.prog 84 [v] w (.int .i64 (countNumbers l)) := by
  obtain ⟨A, c, rfl, hA⟩ := hv
  refine cv_of Try.func84 Z Z Z <| SQ <| RG <| AS Z Z <| ND <| SQ <| SQ <| RG <| MV Z Z <| CV1 Z fun_impl_IsRanges Z (fun w hs => impl_IsRanges (hA.s Pl.keeps hs) (by omega)) <| NT Z Z <| ND <| ?_
  refine gw_condN Z (fun h1 => ?_) (fun h1 => ?_)
  · refine SQ <| RG <| AS Z Z <| ND <| RT Try.func84 Z Z <| ?_
    simp [countNumbers, h1]
  refine SK <| SQ <| RG <| AS Z Z <| ND <| SQ <| SQ <| RG <| MV Z Z <| rw_len Z tyE_S_impl_Range Z <| MV Z Z <| ND <| BK <| ?_
  refine gw_loopC (α := Nat × Int) (fun z_ => z_.1 ≤ l.length ∧ countNumbers l = countFrom z_.2 (l.drop z_.1)) (fun z_ => l.length - z_.1) (fun e z_ => (11, .int .i64 (z_.1 : Int)) :: (3, .int .i64 z_.2) :: e) (0, 0) [(2, _), (9, _), (10, _)] (Sub.consE Z Z (Sub.consE Z Z (Sub.cons (i := 2) Z (Sub.cons (i := 9) Z (Sub.cons (i := 10) Z (Sub.nil _)))))) ?_ ?_
  · exact ⟨Nat.zero_le _, by simp [countNumbers, h1]⟩
  · rintro ⟨i, n⟩ hI1 ih1
    dsimp only at hI1
    dsimp only
    obtain ⟨hle, hI⟩ := hI1
    refine SQ <| RG <| rw_lss Z Z Z <| ND <| SQ <| ?_
    refine gw_cond Z (fun h2 => ?_) (fun h2 => ?_)
    · have hi2 := lt_of_dec h2
      obtain ⟨x3, hx3⟩ := get_of_lt hi2
      have hd3 := drop_cons hx3
      refine SK <| SQ <| BK <| SQ <| RG <| ?_
      have hq4 := hA.plain hx3
      refine rw_indexAddr (i) Z tyE_S_impl_Range Z Z Z (hA.some hi2) hi2 <| rw_loadX_s [_, _] Z tyS_impl_Range Z Z (fun w hs => hq4.lds0 (n := 2) hs Z) <| AL Z tyZ_impl_Range <| fun b1 => ST (i := 0) [_, _] [_, _] tyS_impl_Range.sz Z Z Z Z Z Z Z Z <| ND <| RG <| MV Z Z <| FA Z tyF_impl_Range_1 Z <| LD (i := 0) Z tyP_int Z Z Z <| FA Z tyF_impl_Range_0 Z <| LD (i := 0) Z tyP_int Z Z Z <| rw_sub Z Z Z <| rw_add Z Z Z <| AS Z Z <| ?_
      refine ND <| IB <| RG <| rw_add Z Z Z <| MV Z Z <| ND <| gw_dropN 1 <| ?_
      refine gw_sub (Sub.consE (i := 11) Z (int_succ (by omega)) (Sub.consE (i := 3) Z Z (Sub.cons (i := 2) Z (Sub.cons (i := 9) Z (Sub.cons (i := 10) Z (Sub.nil _)))))) (ih1 (i + 1, w64 (n + w64 (x3.high - x3.low))) ?_ ?_)
      · exact ⟨by omega, by rw [hI, hd3]; simp [countFrom]⟩
      · show l.length - (i + 1) < l.length - i; omega
    have hn5 := nil_of_dec h2
    refine EX Z <| SQ <| RG <| MV Z Z <| AS Z Z <| ND <| RT Try.func84 Z Z <| ?_
    rw [hI, hn5]; rfl

theorem impl_copyRanges {w : World} {v : Value} {l : List Range} (hv : RdS w 2 (Pl Range.cells) v l) (hb : l.length ≤ 4194304) : CN Try.prog 46 [v] w (fun v ch => OwA 61 2 (PlO Range.cells) v l ch) := by
  obtain ⟨A, c, rfl, hA⟩ := hv
  refine cn_of Try.func46 Z Z Z <| SQ <| RG <| AS Z Z <| ND <| SQ <| RG <| rw_slice0 Z tyM_S_impl_Range (PlO Range.cells) <| fun v1 how1 => MV Z Z <| rw_appendP Z tyM_S_impl_Range eRange (fun _ => Z) Z Z how1 (fun w hs => hA.sat Pl.keeps hs) (.refl _) (by first | omega | (simp; omega)) <| fun v2 ch2 how2 => AS Z Z <| ND <| ?_
  refine ret_cn ch2 Try.func46 (res1 Try.func46 Z (rv_tmp Z)) ?_ ?_
  · exact how2
  · simp

theorem impl_AddRange {w : World} {v : Value} {l : List Range} (hv : RdS w 2 (Pl Range.cells) v l) (hb : l.length ≤ 4194304) (r : Range) : CN Try.prog 22 [v, .agg r.cells.toArray] w (fun v ch => OwS 61 2 (PlO Range.cells) v (addRange l r) ch) := by
  obtain ⟨A, c, rfl, hA⟩ := hv
  refine cn_of Try.func22 Z Z Z <| SQ <| RG <| BX [_, _] Z Z Z <| fun b1 => AS Z Z <| ND <| SQ <| SQ <| RG <| MV Z Z <| CV1 Z fun_impl_IsRanges Z (fun w hs => impl_IsRanges (hA.s Pl.keeps hs) (by omega)) <| NT Z Z <| MV Z Z <| ?_
  refine rw_caseN (j := 12) Z (fun h1 => ?_) (fun h1 => ?_)
  · refine SKP Z <| PT Z Z Z Z <| ND <| CT Z Z <| SQ <| RG <| MV Z Z <| CN1 Z fun_impl_copyRanges Z (fun w hs => impl_copyRanges (hA.s Pl.keeps hs) (by omega)) <| fun v1 ch1 how1 => AS Z Z <| ND <| ?_
    refine ret_cn ch1 Try.func22 (res1 Try.func22 Z (rv_tmp Z)) ?_ ?_
    · have hm : addRange l r = l := by simp [addRange, h1]
      rw [hm]; exact OwA.s how1
    · simp
  refine ON Z Z Z <| LS (i := 0) [_, _] Z tyS_impl_Range Z Z Z Z <| ON Z Z Z <| CV1 Z fun_impl_isRange Z (fun w hs => impl_isRange _ w) <| ON Z Z Z <| NT Z Z <| PF Z Z Z Z <| ND <| ?_
  refine gw_condN Z (fun h2 => ?_) (fun h2 => ?_)
  · refine SQ <| RG <| MV Z Z <| CN1 Z fun_impl_copyRanges Z (fun w hs => impl_copyRanges (hA.s Pl.keeps hs) (by omega)) <| fun v2 ch2 how2 => AS Z Z <| ND <| ?_
    refine ret_cn ch2 Try.func22 (res1 Try.func22 Z (rv_tmp Z)) ?_ ?_
    · have hm : addRange l r = l := by simp [addRange, h1, h2]
      rw [hm]; exact OwA.s how2
    · simp
  refine SK <| SQ <| RG <| rw_slice0 Z tyM_S_impl_Range (PlO Range.cells) <| fun v3 how3 => AS Z Z <| AS Z Z <| ND <| SQ <| SQ <| RG <| MV Z Z <| rw_len Z tyE_S_impl_Range Z <| MV Z Z <| ND <| BK <| ?_
  refine gw_loopX (α := Nat × Range × Bool × List Range × Value × List Ck) (fun z_ => z_.1 ≤ l.length ∧ z_.2.2.2.1.length + (bif z_.2.2.1 then 0 else 1) ≤ z_.1 + 1 ∧ OwA 61 2 (PlO Range.cells) z_.2.2.2.2.1 z_.2.2.2.1 z_.2.2.2.2.2 ∧ addRange l r = z_.2.2.2.1 ++ addGo z_.2.1 z_.2.2.1 (l.drop z_.1)) (fun z_ => l.length - z_.1) (fun e z_ => (22, .int .i64 (z_.1 : Int)) :: (6, .bool z_.2.2.1) :: (5, z_.2.2.2.2.1) :: e) (fun B z_ => B.set 0 ⟨b1, 61, z_.2.1.cells⟩) (fun F z_ => z_.2.2.2.2.2 ++ F) (0, r, false, [], v3, []) [(3, _), (4, _), (20, _), (21, _)] (Sub.consE Z Z (Sub.consE Z Z (Sub.consE Z Z (Sub.cons (i := 3) Z (Sub.cons (i := 4) Z (Sub.cons (i := 20) Z (Sub.cons (i := 21) Z (Sub.nil _)))))))) Z Z ?_ ?_
  · exact ⟨Nat.zero_le _, Nat.le_refl _, how3, by simp [addRange, h1, h2]⟩
  · rintro ⟨i, r, pl, o, v, ch⟩ hI4 ih4
    dsimp only at hI4
    dsimp only [List.set]
    obtain ⟨hle, ho, hO, hI⟩ := hI4
    refine SQ <| RG <| rw_lss Z Z Z <| ND <| SQ <| ?_
    refine gw_cond Z (fun h3 => ?_) (fun h3 => ?_)
    · have hi5 := lt_of_dec h3
      obtain ⟨x6, hx6⟩ := get_of_lt hi5
      have hd6 := drop_cons hx6
      refine SK <| SQ <| BK <| SQ <| RG <| ?_
      have hq7 := hA.plain hx6
      refine rw_indexAddr (i) Z tyE_S_impl_Range Z Z Z (hA.some hi5) hi5 <| rw_loadX_s [_, _] Z tyS_impl_Range Z Z (fun w hs => hq7.lds0 (n := 2) hs Z) <| AL Z tyZ_impl_Range <| fun b2 => ST (i := 0) [_, _] [_, _] tyS_impl_Range.sz Z Z Z Z Z Z Z Z <| ND <| BK <| SQ <| RG <| FA Z tyF_impl_Range_1 Z <| LD (i := 0) Z tyP_int Z Z Z <| FA Z tyF_impl_Range_0 Z <| LD (i := 1) Z tyP_int Z Z Z <| rw_lss Z Z Z <| AS Z Z <| ND <| ?_
      refine gw_cond Z (fun h4 => ?_) (fun h4 => ?_)
      · refine RG <| MV Z Z <| LS (i := 0) [_, _] Z tyS_impl_Range Z Z Z Z <| rw_slice (xs := [(0, _)]) [_, _] Z tyM_S_impl_Range Z Z Z Z <| fun b3 => rw_append1 (i := 0) (a := x6) Z tyM_S_impl_Range eRange Z Z Z hO ⟨Z, Z⟩ (.refl _) (by simp [] at ho ⊢; omega) <| fun v8 ch8 how8 => AS Z Z <| ND <| IB <| IB <| RG <| rw_add Z Z Z <| MV Z Z <| ND <| ?_
        refine gw_dropN 2 <| ?_
        refine gw_sub (Sub.consE (i := 22) Z (int_succ (by omega)) (Sub.consE (i := 6) Z Z (Sub.consE (i := 5) Z Z (Sub.cons (i := 3) Z (Sub.cons (i := 4) Z (Sub.cons (i := 20) Z (Sub.cons (i := 21) Z (Sub.nil _)))))))) (ih4 (i + 1, r, pl, (o ++ [x6]), v8, ch8) ?_ ?_)
        · refine ⟨by omega, ?_, how8, ?_⟩
          · simp [] at ho ⊢; omega
          · rw [hI, hd6]; simp [addGo, h4]
        · show l.length - (i + 1) < l.length - i; omega
      refine SQ <| RG <| FA Z tyF_impl_Range_0 Z <| LD (i := 0) Z tyP_int Z Z Z <| FA Z tyF_impl_Range_1 Z <| LD (i := 1) Z tyP_int Z Z Z <| rw_gtr Z Z Z <| AS Z Z <| ND <| ?_
      refine gw_cond Z (fun h5 => ?_) (fun h5 => ?_)
      · refine SQ <| SQ <| RG <| MV Z Z <| NT Z Z <| ND <| ?_
        refine gw_condN Z (fun h6 => ?_) (fun h6 => ?_)
        · refine SQ <| RG <| MV Z Z <| LS (i := 1) [_, _] Z tyS_impl_Range Z Z Z Z <| rw_slice (xs := [(0, _)]) [_, _] Z tyM_S_impl_Range Z Z Z Z <| fun b4 => rw_append1 (i := 0) (a := r) Z tyM_S_impl_Range eRange Z Z Z hO ⟨Z, Z⟩ (.refl _) (by simp [h6] at ho ⊢; omega) <| fun v9 ch9 how9 => AS Z Z <| ND <| RG <| AS Z Z <| ND <| RG <| MV Z Z <| LS (i := 1) [_, _] Z tyS_impl_Range Z Z Z Z <| rw_slice (xs := [(0, _)]) [_, _] Z tyM_S_impl_Range Z Z Z Z <| fun b5 => rw_append1 (i := 0) (a := x6) Z tyM_S_impl_Range eRange Z Z Z how9 ⟨Z, Z⟩ (.refl _) (by simp [h6] at ho ⊢; omega) <| fun v10 ch10 how10 => ?_
          refine AS Z Z <| ND <| IB <| IB <| RG <| rw_add Z Z Z <| MV Z Z <| ND <| ?_
          refine gw_dropN 3 <| ?_
          refine gw_sub (Sub.consE (i := 22) Z (int_succ (by omega)) (Sub.consE (i := 6) Z Z (Sub.consE (i := 5) Z Z (Sub.cons (i := 3) Z (Sub.cons (i := 4) Z (Sub.cons (i := 20) Z (Sub.cons (i := 21) Z (Sub.nil _)))))))) (ih4 (i + 1, r, true, (o ++ [r] ++ [x6]), v10, ch10) ?_ ?_)
          · refine ⟨by omega, ?_, how10, ?_⟩
            · simp [h6] at ho ⊢; omega
            · rw [hI, hd6]; simp [addGo, h4, h5, h6]
          · show l.length - (i + 1) < l.length - i; omega
        refine SK <| RG <| MV Z Z <| LS (i := 0) [_, _] Z tyS_impl_Range Z Z Z Z <| rw_slice (xs := [(0, _)]) [_, _] Z tyM_S_impl_Range Z Z Z Z <| fun b6 => rw_append1 (i := 0) (a := x6) Z tyM_S_impl_Range eRange Z Z Z hO ⟨Z, Z⟩ (.refl _) (by simp [h6] at ho ⊢; omega) <| fun v11 ch11 how11 => AS Z Z <| ND <| IB <| IB <| RG <| rw_add Z Z Z <| MV Z Z <| ND <| ?_
        refine gw_dropN 2 <| ?_
        refine gw_sub (Sub.consE (i := 22) Z (int_succ (by omega)) (Sub.consE (i := 6) Z Z (Sub.consE (i := 5) Z Z (Sub.cons (i := 3) Z (Sub.cons (i := 4) Z (Sub.cons (i := 20) Z (Sub.cons (i := 21) Z (Sub.nil _)))))))) (ih4 (i + 1, r, pl, (o ++ [x6]), v11, ch11) ?_ ?_)
        · refine ⟨by omega, ?_, how11, ?_⟩
          · simp [h6] at ho ⊢; omega
          · rw [hI, hd6]; simp [addGo, h4, h5, h6]
        · show l.length - (i + 1) < l.length - i; omega
      refine RG <| FA Z tyF_impl_Range_0 Z <| LD (i := 1) Z tyP_int Z Z Z <| FA Z tyF_impl_Range_0 Z <| LD (i := 0) Z tyP_int Z Z Z <| rw_min Z Z Z <| FA Z tyF_impl_Range_1 Z <| LD (i := 1) Z tyP_int Z Z Z <| FA Z tyF_impl_Range_1 Z <| LD (i := 0) Z tyP_int Z Z Z <| rw_max Z Z Z <| rw_build [_, _] Z tyB_impl_Range tyZ_impl_Range Z Z <| ST (i := 1) [_, _] [_, _] tyS_impl_Range.sz Z Z Z Z Z Z Z Z <| ND <| ?_
      refine IB <| IB <| RG <| rw_add Z Z Z <| MV Z Z <| ND <| ?_
      refine gw_dropN 1 <| ?_
      refine gw_sub (Sub.consE (i := 22) Z (int_succ (by omega)) (Sub.consE (i := 6) Z Z (Sub.consE (i := 5) Z Z (Sub.cons (i := 3) Z (Sub.cons (i := 4) Z (Sub.cons (i := 20) Z (Sub.cons (i := 21) Z (Sub.nil _)))))))) (ih4 (i + 1, ⟨min r.low x6.low, max r.high x6.high⟩, pl, o, v, ch) ?_ ?_)
      · refine ⟨by omega, ?_, hO, ?_⟩
        · simp [] at ho ⊢; omega
        · rw [hI, hd6]; simp [addGo, h4, h5]
      · show l.length - (i + 1) < l.length - i; omega
    have hn12 := nil_of_dec h3
    refine EX Z <| SQ <| SQ <| RG <| MV Z Z <| NT Z Z <| ND <| ?_
    refine gw_condN Z (fun h7 => ?_) (fun h7 => ?_)
    · refine RG <| MV Z Z <| LS (i := 0) [_, _] Z tyS_impl_Range Z Z Z Z <| rw_slice (xs := [(0, _)]) [_, _] Z tyM_S_impl_Range Z Z Z Z <| fun b7 => rw_append1 (i := 0) (a := r) Z tyM_S_impl_Range eRange Z Z Z hO ⟨Z, Z⟩ (.refl _) (by simp [h7] at ho ⊢; omega) <| fun v13 ch13 how13 => AS Z Z <| ND <| SQ <| RG <| MV Z Z <| AS Z Z <| ND <| ?_
      refine ret_cn ch13 Try.func22 (res1 Try.func22 Z (rv_tmp Z)) ?_ ?_
      · rw [hI, hn12]; simp only [addGo, cond_false, h7]; exact OwA.s how13
      · simp
    refine SK <| SQ <| RG <| MV Z Z <| AS Z Z <| ND <| ?_
    refine ret_cn ch Try.func22 (res1 Try.func22 Z (rv_tmp Z)) ?_ ?_
    · rw [hI, hn12]; simp only [addGo, cond_true, List.append_nil, h7]; exact OwA.s hO
    · simp

theorem impl_endsBehind {w : World} {v : Value} {l : List Range} (hv : RdS w 2 (Pl Range.cells) v l) (hb : l.length ≤ 4194304) (p : Int) : CV Try.prog 79 [v, .int .i64 p] w (.bool (endsBehind l p)) := by
  obtain ⟨A, c, rfl, hA⟩ := hv
  refine cv_of Try.func79 Z Z Z <| SQ <| RG <| AS Z Z <| ND <| SQ <| RG <| MV Z Z <| rw_len Z tyE_S_impl_Range Z <| rw_gtr Z Z Z <| MV Z Z <| ?_
  refine rw_caseL (j := 8) Z (fun h1 => ?_) (fun h1 => ?_)
  · have hps1 : 0 < l.length := by simpa using h1
    refine ON Z Z Z <| MV Z Z <| ON Z Z Z <| MV Z Z <| ON Z Z Z <| rw_len Z tyE_S_impl_Range Z <| ON Z Z Z <| rw_sub Z Z Z <| ON Z Z Z <| ?_
    have hi2 : l.length - 1 < l.length := by omega
    obtain ⟨x3, hx3⟩ := get_of_lt hi2
    have hd3 := drop_cons hx3
    have hq4 := hA.plain hx3
    refine rw_indexAddr (l.length - 1) Z tyE_S_impl_Range Z Z (lenpred_of (by omega) (by omega)) (hA.some hi2) hi2 <| ON Z Z Z <| FX Z tyF_impl_Range_1 Z <| ON Z Z Z <| rw_loadX _ Z tyP_int Z (fun w hs => hq4.ld hs Z) <| ON Z Z Z <| MV Z Z <| ON Z Z Z <| rw_gtr Z Z Z <| PT Z Z Z Z <| AS Z Z <| ND <| RT Try.func79 Z Z <| ?_
    simp [endsBehind, hx3]
  have hz5 : l = [] := by simpa using h1
  refine SKP Z <| PF Z Z Z Z <| AS Z Z <| ND <| RT Try.func79 Z Z <| ?_
  simp [endsBehind, hz5]

theorem impl_areWhole {w : World} {v v1 v2 : Value} {la lb lc : List Range} (hv : RdS w 2 (Pl Range.cells) v la) (hb : la.length ≤ 1048576) (hv1 : RdS w 2 (Pl Range.cells) v1 lb) (hb1 : lb.length ≤ 1048576) (hv2 : RdS w 2 (Pl Range.cells) v2 lc) (hb2 : lc.length ≤ 1048576) (e : Int) : CV Try.prog 78 [v, v1, v2, .int .i64 e] w (.bool (areWhole la lb lc e)) := by
  obtain ⟨A, c, rfl, hA⟩ := hv
  obtain ⟨A1, c1, rfl, hA1⟩ := hv1
  obtain ⟨A2, c2, rfl, hA2⟩ := hv2
  refine cv_of Try.func78 Z Z Z <| SQ <| RG <| AS Z Z <| ND <| SQ <| SQ <| RG <| MV Z Z <| CV1 Z fun_impl_CountNumbers Z (fun w hs => impl_CountNumbers (hA.s Pl.keeps hs) (by omega)) <| MV Z Z <| CV1 Z fun_impl_CountNumbers Z (fun w hs => impl_CountNumbers (hA1.s Pl.keeps hs) (by omega)) <| rw_add Z Z Z <| MV Z Z <| CV1 Z fun_impl_CountNumbers Z (fun w hs => impl_CountNumbers (hA2.s Pl.keeps hs) (by omega)) <| rw_add Z Z Z <| MV Z Z <| ?_
  refine rw_neq Z Z Z <| ND <| ?_
  refine gw_condN Z (fun h1 => ?_) (fun h1 => ?_)
  · refine SQ <| RG <| AS Z Z <| ND <| RT Try.func78 Z Z <| ?_
    simp [areWhole, h1]
  refine SK <| SQ <| RG <| MV Z Z <| CN1 Z fun_impl_copyRanges Z (fun w hs => impl_copyRanges (hA.s Pl.keeps hs) (by omega)) <| fun v1 ch1 how1 => AS Z Z <| ND <| SQ <| SQ <| RG <| MV Z Z <| CN1 Z fun_impl_copyRanges Z (fun w hs => impl_copyRanges (hA1.s Pl.keeps hs) (by omega)) <| fun v2 ch2 how2 => MV Z Z <| rw_appendP Z tyM_S_impl_Range eRange (fun _ => Z) Z Z how2 (fun w hs => hA2.sat Pl.keeps hs) (.refl _) (by first | omega | (simp; omega)) <| fun v3 ch3 how3 => ?_
  obtain ⟨R4, rc4, rfl, hR4, hrd4⟩ := (OwA.s how3).shape eRange
  refine rw_len Z tyE_S_impl_Range Z <| MV Z Z <| ND <| BK <| gw_FP (F' := ch1 ++ (ch3 ++ ([]))) (pg (pp PR) PR) <| ?_
  refine gw_loopX (α := Nat × Value × List Ck) (fun z_ => z_.1 ≤ (lb ++ lc).length ∧ OwS 61 2 (PlO Range.cells) z_.2.1 (addAll la ((lb ++ lc).take z_.1)) z_.2.2) (fun z_ => (lb ++ lc).length - z_.1) (fun e z_ => (29, .int .i64 (z_.1 : Int)) :: (9, z_.2.1) :: e) (fun B _ => B) (fun F z_ => z_.2.2 ++ (ch3 ++ ([]))) (0, v1, ch1) [(3, _), (8, _), (27, _), (28, _)] (Sub.consE Z Z (Sub.consE Z Z (Sub.cons (i := 3) Z (Sub.cons (i := 8) Z (Sub.cons (i := 27) Z (Sub.cons (i := 28) Z (Sub.nil _))))))) Z Z ?_ ?_
  · exact ⟨Nat.zero_le _, OwA.s how1⟩
  · rintro ⟨i, v, ch⟩ hI5 ih5
    dsimp only at hI5
    dsimp only
    obtain ⟨hle, hO⟩ := hI5
    have hal := addAll_len ((lb ++ lc).take i) la
    simp only [List.length_take, List.length_append] at hal hle
    refine SQ <| RG <| rw_lss Z Z Z <| ND <| SQ <| ?_
    refine gw_cond Z (fun h2 => ?_) (fun h2 => ?_)
    · have hi6 := lt_of_dec h2
      obtain ⟨x7, hx7⟩ := get_of_lt hi6
      have hd7 := drop_cons hx7
      refine SK <| SQ <| BK <| SQ <| RG <| rw_indexAddr (i) Z tyE_S_impl_Range Z Z Z (hR4 (Nat.zero_lt_of_lt hi6)) hi6 <| rw_loadX_s [_, _] Z tyS_impl_Range Z Z (fun w hs => ((hrd4 _ (fun c hc => hs.at_ c (MR (MR (ML hc))))).plain hx7).cut0 (n := 2) Z) <| AL Z tyZ_impl_Range <| fun b1 => ST (i := 0) [_, _] [_, _] tyS_impl_Range.sz Z Z Z Z Z Z Z Z <| ND <| RG <| MV Z Z <| LS (i := 0) [_, _] Z tyS_impl_Range Z Z Z Z <| CN1 Z fun_impl_AddRange Z (fun w hs => impl_AddRange (hO.rdH eRange hs (fun c hc => MR (ML hc))) (by omega) _) <| fun v8 ch8 how8 => ?_
      obtain ⟨R8, rc8, rfl, hR8, hrd8⟩ := how8.shape eRange
      refine AS Z Z <| ND <| IB <| RG <| rw_add Z Z Z <| MV Z Z <| ND <| ?_
      refine gw_FP (F' := ch8 ++ (ch ++ (ch3 ++ ([])))) (pg PR (pg PR PR)) <| gw_dropF (F' := ch8 ++ (ch3 ++ ([]))) (List.Sublist.append_left (List.sublist_append_right _ _) _) <| gw_dropN 1 <| ?_
      refine gw_sub (Sub.consE (i := 29) Z (int_succ (by omega)) (Sub.consE (i := 9) Z Z (Sub.cons (i := 3) Z (Sub.cons (i := 8) Z (Sub.cons (i := 27) Z (Sub.cons (i := 28) Z (Sub.nil _))))))) (ih5 (i + 1, .slice R8 (addRange (addAll la ((lb ++ lc).take i)) x7).length rc8, ch8) ?_ ?_)
      · exact ⟨by omega, by rw [addAll_take hx7]; exact how8⟩
      · show (lb ++ lc).length - (i + 1) < (lb ++ lc).length - i; omega
    have hn9 := nil_of_dec h2
    refine EX Z <| SQ <| RG <| MV Z Z <| CV1 Z fun_impl_CountNumbers Z (fun w hs => impl_CountNumbers (hO.rdH eRange hs (fun c hc => MR (ML hc))) (by omega)) <| MV Z Z <| EQ1 Z Z Z <| MV Z Z <| ?_
    refine rw_caseL (j := 41) Z (fun h3 => ?_) (fun h3 => ?_)
    · refine ON Z Z Z <| MV Z Z <| ON Z Z Z <| MV Z Z <| ON Z Z Z <| CV1 Z fun_impl_endsBehind Z (fun w hs => impl_endsBehind (hO.rdH eRange hs (fun c hc => MR (ML hc))) (by omega) _) <| ON Z Z Z <| NT Z Z <| PT Z Z Z Z <| AS Z Z <| ND <| RT Try.func78 Z Z <| ?_
      simp only [take_all hn9] at *
      simp [areWhole, h1, h3]
    refine SKP Z <| PF Z Z Z Z <| AS Z Z <| ND <| RT Try.func78 Z Z <| ?_
    simp only [take_all hn9] at *
    simp [areWhole, h1, h3]

theorem impl_FirstGap {w : World} {v : Value} {l : List Range} (hv : RdS w 2 (Pl Range.cells) v l) (hb : l.length ≤ 4194304) (n0 : Int) : CV Try.prog 67 [v, .int .i64 n0] w (.int .i64 (firstGap l n0)) := by
  obtain ⟨A, c, rfl, hA⟩ := hv
  refine cv_of Try.func67 Z Z Z <| SQ <| RG <| AS Z Z <| ND <| SQ <| SQ <| RG <| MV Z Z <| CV1 Z fun_impl_IsRanges Z (fun w hs => impl_IsRanges (hA.s Pl.keeps hs) (by omega)) <| NT Z Z <| MV Z Z <| ?_
  refine rw_caseN (j := 10) Z (fun h1 => ?_) (fun h1 => ?_)
  · refine SKP Z <| PT Z Z Z Z <| ND <| CT Z Z <| SQ <| RG <| AS Z Z <| ND <| RT Try.func67 Z Z <| ?_
    simp [firstGap, h1]
  refine ON Z Z Z <| MV Z Z <| ON Z Z Z <| rw_lss Z Z Z <| PF Z Z Z Z <| ND <| ?_
  refine gw_cond Z (fun h2 => ?_) (fun h2 => ?_)
  · refine SQ <| RG <| AS Z Z <| ND <| RT Try.func67 Z Z <| ?_
    simp [firstGap, h1, h2]
  refine SK <| SQ <| SQ <| RG <| MV Z Z <| rw_len Z tyE_S_impl_Range Z <| MV Z Z <| ND <| BK <| ?_
  refine gw_loopC (α := Nat × Int) (fun z_ => z_.1 ≤ l.length ∧ firstGap l n0 = gapFrom z_.2 (l.drop z_.1)) (fun z_ => l.length - z_.1) (fun e z_ => (16, .int .i64 (z_.1 : Int)) :: (1, .int .i64 z_.2) :: e) (0, n0) [(4, _), (14, _), (15, _)] (Sub.consE Z Z (Sub.consE Z Z (Sub.cons (i := 4) Z (Sub.cons (i := 14) Z (Sub.cons (i := 15) Z (Sub.nil _)))))) ?_ ?_
  · exact ⟨Nat.zero_le _, by simp [firstGap, h1, h2]⟩
  · rintro ⟨i, n⟩ hI1 ih1
    dsimp only at hI1
    dsimp only
    obtain ⟨hle, hI⟩ := hI1
    refine SQ <| RG <| rw_lss Z Z Z <| ND <| SQ <| ?_
    refine gw_cond Z (fun h3 => ?_) (fun h3 => ?_)
    · have hi2 := lt_of_dec h3
      obtain ⟨x3, hx3⟩ := get_of_lt hi2
      have hd3 := drop_cons hx3
      refine SK <| SQ <| BK <| SQ <| RG <| ?_
      have hq4 := hA.plain hx3
      refine rw_indexAddr (i) Z tyE_S_impl_Range Z Z Z (hA.some hi2) hi2 <| rw_loadX_s [_, _] Z tyS_impl_Range Z Z (fun w hs => hq4.lds0 (n := 2) hs Z) <| AL Z tyZ_impl_Range <| fun b1 => ST (i := 0) [_, _] [_, _] tyS_impl_Range.sz Z Z Z Z Z Z Z Z <| ND <| SQ <| RG <| FA Z tyF_impl_Range_0 Z <| LD (i := 0) Z tyP_int Z Z Z <| MV Z Z <| rw_leq Z Z Z <| MV Z Z <| ?_
      refine rw_caseL (j := 24) Z (fun h4 => ?_) (fun h4 => ?_)
      · refine ON Z Z Z <| MV Z Z <| ON Z Z Z <| FA Z tyF_impl_Range_1 Z <| ON Z Z Z <| LD (i := 0) Z tyP_int Z Z Z <| ON Z Z Z <| rw_lss Z Z Z <| PT Z Z Z Z <| ND <| ?_
        refine gw_cond Z (fun h5 => ?_) (fun h5 => ?_)
        · refine RG <| FA Z tyF_impl_Range_1 Z <| LD (i := 0) Z tyP_int Z Z Z <| AS Z Z <| ND <| IB <| RG <| rw_add Z Z Z <| MV Z Z <| ND <| gw_dropN 1 <| ?_
          refine gw_sub (Sub.consE (i := 16) Z (int_succ (by omega)) (Sub.consE (i := 1) Z Z (Sub.cons (i := 4) Z (Sub.cons (i := 14) Z (Sub.cons (i := 15) Z (Sub.nil _)))))) (ih1 (i + 1, x3.high) ?_ ?_)
          · exact ⟨by omega, by rw [hI, hd3]; simp [gapFrom, h4, h5]⟩
          · show l.length - (i + 1) < l.length - i; omega
        refine SK <| IB <| RG <| rw_add Z Z Z <| MV Z Z <| ND <| gw_dropN 1 <| ?_
        refine gw_sub (Sub.consE (i := 16) Z (int_succ (by omega)) (Sub.consE (i := 1) Z Z (Sub.cons (i := 4) Z (Sub.cons (i := 14) Z (Sub.cons (i := 15) Z (Sub.nil _)))))) (ih1 (i + 1, n) ?_ ?_)
        · exact ⟨by omega, by rw [hI, hd3]; simp [gapFrom, h4, h5]⟩
        · show l.length - (i + 1) < l.length - i; omega
      refine SKP Z <| PF Z Z Z Z <| ND <| CF Z Z <| SK <| IB <| RG <| rw_add Z Z Z <| MV Z Z <| ND <| gw_dropN 1 <| ?_
      refine gw_sub (Sub.consE (i := 16) Z (int_succ (by omega)) (Sub.consE (i := 1) Z Z (Sub.cons (i := 4) Z (Sub.cons (i := 14) Z (Sub.cons (i := 15) Z (Sub.nil _)))))) (ih1 (i + 1, n) ?_ ?_)
      · exact ⟨by omega, by rw [hI, hd3]; simp [gapFrom, h4]⟩
      · show l.length - (i + 1) < l.length - i; omega
    have hn5 := nil_of_dec h3
    refine EX Z <| SQ <| RG <| MV Z Z <| AS Z Z <| ND <| RT Try.func67 Z Z <| ?_
    rw [hI, hn5]; rfl

theorem impl_following {w : World} {cs : List Value} {x : Sender} (hv : RdSender w cs x)  : CV Try.prog 35 [.agg cs.toArray] w (.int .i64 (following x)) := by
  obtain ⟨v0, v1, v2, v3, rfl, k0, k1, k2, k3⟩ := hv
  obtain ⟨A0, c0, rfl, hA0⟩ := k0
  obtain ⟨A1, c1, rfl, hA1⟩ := k1
  obtain ⟨A2, c2, rfl, hA2⟩ := k2
  obtain ⟨A3, c3, rfl, hA3⟩ := k3
  refine cv_of Try.func35 Z Z Z <| SQ <| RG <| BX [_, _, _, _, _, _, _, _, _, _, _, _] Z Z Z <| fun b1 => AS Z Z <| ND <| SQ <| BK <| SQ <| RG <| FA Z tyF_impl_Sender_6 Z <| LD (i := 0) Z tyP_int Z Z Z <| EQ1 Z Z Z <| MV Z Z <| ?_
  refine rw_caseL (j := 7) Z (fun h1 => ?_) (fun h1 => ?_)
  · refine ON Z Z Z <| FA Z tyF_impl_Sender_1 Z <| ON Z Z Z <| FA Z tyF_impl_Ring_1 Z <| ON Z Z Z <| LD (i := 0) Z tyP_int Z Z Z <| ON Z Z Z <| FA Z tyF_impl_Sender_1 Z <| ON Z Z Z <| FA Z tyF_impl_Ring_2 Z <| ON Z Z Z <| LD (i := 0) Z tyP_int Z Z Z <| ON Z Z Z <| EQ1 Z Z Z <| PT Z Z Z Z <| AS Z Z <| ND <| ?_
    refine gw_cond Z (fun h2 => ?_) (fun h2 => ?_)
    · refine SQ <| RG <| AS Z Z <| ND <| RT Try.func35 Z Z <| ?_
      simp [following, h1, h2]
    refine SQ <| RG <| FA Z tyF_impl_Sender_6 Z <| LD (i := 0) Z tyP_int Z Z Z <| EQ1 Z Z Z <| MV Z Z <| ?_
    refine rw_caseL (j := 20) Z (fun h3 => ?_) (fun h3 => ?_)
    · refine SKP Z <| PT Z Z Z Z <| MV Z Z <| SKP Z <| PT Z Z Z Z <| AS Z Z <| ND <| CT Z Z <| SQ <| RG <| AS Z Z <| ND <| RT Try.func35 Z Z <| ?_
      simp [following, h1, h2, h3]
    refine ON Z Z Z <| FA Z tyF_impl_Sender_6 Z <| ON Z Z Z <| LD (i := 0) Z tyP_int Z Z Z <| ON Z Z Z <| EQ1 Z Z Z <| PF Z Z Z Z <| MV Z Z <| ?_
    refine rw_caseL (j := 25) Z (fun h4 => ?_) (fun h4 => ?_)
    · refine SKP Z <| PT Z Z Z Z <| AS Z Z <| ND <| CT Z Z <| SQ <| RG <| AS Z Z <| ND <| RT Try.func35 Z Z <| ?_
      simp [following, h1, h2, h3]
    refine ON Z Z Z <| FA Z tyF_impl_Sender_6 Z <| ON Z Z Z <| LD (i := 0) Z tyP_int Z Z Z <| ON Z Z Z <| EQ1 Z Z Z <| ON Z Z Z <| MV Z Z <| ?_
    refine rw_caseL (j := 29) Z (fun h5 => ?_) (fun h5 => ?_)
    · refine ON Z Z Z <| FA Z tyF_impl_Sender_0 Z <| ON Z Z Z <| LD (i := 0) Z tyP_int Z Z Z <| ON Z Z Z <| EQ1 Z Z Z <| ON Z Z Z <| PT Z Z Z Z <| PF Z Z Z Z <| AS Z Z <| ND <| ?_
      refine gw_cond Z (fun h6 => ?_) (fun h6 => ?_)
      · refine SQ <| RG <| AS Z Z <| ND <| RT Try.func35 Z Z <| ?_
        simp [following, h1, h2, h3, h5, h6]
      refine SQ <| RG <| FA Z tyF_impl_Sender_7 Z <| LD (i := 0) Z tyP_int Z Z Z <| rw_gtr Z Z Z <| MV Z Z <| ?_
      refine rw_caseL (j := 39) Z (fun h7 => ?_) (fun h7 => ?_)
      · refine SKP Z <| PT Z Z Z Z <| AS Z Z <| ND <| CT Z Z <| SQ <| RG <| AS Z Z <| ND <| RT Try.func35 Z Z <| ?_
        simp_all []
      refine ON Z Z Z <| FA Z tyF_impl_Sender_6 Z <| ON Z Z Z <| LD (i := 0) Z tyP_int Z Z Z <| ON Z Z Z <| EQ1 Z Z Z <| ON Z Z Z <| MV Z Z <| ?_
      refine rw_caseL (j := 43) Z (fun h8 => ?_) (fun h8 => ?_)
      · refine ON Z Z Z <| FA Z tyF_impl_Sender_0 Z <| ON Z Z Z <| LD (i := 0) Z tyP_int Z Z Z <| ON Z Z Z <| EQ1 Z Z Z <| ON Z Z Z <| PT Z Z Z Z <| PF Z Z Z Z <| AS Z Z <| ND <| ?_
        refine gw_cond Z (fun h9 => ?_) (fun h9 => ?_)
        · refine SQ <| RG <| AS Z Z <| ND <| RT Try.func35 Z Z <| ?_
          simp_all []
        refine SK <| IB <| SQ <| RG <| AS Z Z <| ND <| RT Try.func35 Z Z <| ?_
        simp_all []
      refine SKP Z <| ON Z Z Z <| PF Z Z Z Z <| PF Z Z Z Z <| AS Z Z <| ND <| CF Z Z <| SK <| IB <| SQ <| RG <| AS Z Z <| ND <| RT Try.func35 Z Z <| ?_
      simp_all []
    refine SKP Z <| ON Z Z Z <| PF Z Z Z Z <| PF Z Z Z Z <| AS Z Z <| ND <| CF Z Z <| SQ <| RG <| FA Z tyF_impl_Sender_7 Z <| LD (i := 0) Z tyP_int Z Z Z <| rw_gtr Z Z Z <| MV Z Z <| ?_
    refine rw_caseL (j := 39) Z (fun h10 => ?_) (fun h10 => ?_)
    · refine SKP Z <| PT Z Z Z Z <| AS Z Z <| ND <| CT Z Z <| SQ <| RG <| AS Z Z <| ND <| RT Try.func35 Z Z <| ?_
      simp_all []
    refine ON Z Z Z <| FA Z tyF_impl_Sender_6 Z <| ON Z Z Z <| LD (i := 0) Z tyP_int Z Z Z <| ON Z Z Z <| EQ1 Z Z Z <| ON Z Z Z <| MV Z Z <| ?_
    refine rw_caseL (j := 43) Z (fun h11 => ?_) (fun h11 => ?_)
    · refine ON Z Z Z <| FA Z tyF_impl_Sender_0 Z <| ON Z Z Z <| LD (i := 0) Z tyP_int Z Z Z <| ON Z Z Z <| EQ1 Z Z Z <| ON Z Z Z <| PT Z Z Z Z <| PF Z Z Z Z <| AS Z Z <| ND <| ?_
      refine gw_cond Z (fun h12 => ?_) (fun h12 => ?_)
      · refine SQ <| RG <| AS Z Z <| ND <| RT Try.func35 Z Z <| ?_
        simp_all []
      refine SK <| IB <| SQ <| RG <| AS Z Z <| ND <| RT Try.func35 Z Z <| ?_
      simp_all []
    refine SKP Z <| ON Z Z Z <| PF Z Z Z Z <| PF Z Z Z Z <| AS Z Z <| ND <| CF Z Z <| SK <| IB <| SQ <| RG <| AS Z Z <| ND <| RT Try.func35 Z Z <| ?_
    simp_all []
  refine SKP Z <| PF Z Z Z Z <| AS Z Z <| ND <| CF Z Z <| SQ <| RG <| FA Z tyF_impl_Sender_6 Z <| LD (i := 0) Z tyP_int Z Z Z <| EQ1 Z Z Z <| MV Z Z <| ?_
  refine rw_caseL (j := 20) Z (fun h13 => ?_) (fun h13 => ?_)
  · refine SKP Z <| PT Z Z Z Z <| MV Z Z <| SKP Z <| PT Z Z Z Z <| AS Z Z <| ND <| CT Z Z <| SQ <| RG <| AS Z Z <| ND <| RT Try.func35 Z Z <| ?_
    simp [following, h1, h13]
  refine ON Z Z Z <| FA Z tyF_impl_Sender_6 Z <| ON Z Z Z <| LD (i := 0) Z tyP_int Z Z Z <| ON Z Z Z <| EQ1 Z Z Z <| PF Z Z Z Z <| MV Z Z <| ?_
  refine rw_caseL (j := 25) Z (fun h14 => ?_) (fun h14 => ?_)
  · refine SKP Z <| PT Z Z Z Z <| AS Z Z <| ND <| CT Z Z <| SQ <| RG <| AS Z Z <| ND <| RT Try.func35 Z Z <| ?_
    simp_all []
  refine ON Z Z Z <| FA Z tyF_impl_Sender_6 Z <| ON Z Z Z <| LD (i := 0) Z tyP_int Z Z Z <| ON Z Z Z <| EQ1 Z Z Z <| ON Z Z Z <| MV Z Z <| ?_
  refine rw_caseL (j := 29) Z (fun h15 => ?_) (fun h15 => ?_)
  · refine ON Z Z Z <| FA Z tyF_impl_Sender_0 Z <| ON Z Z Z <| LD (i := 0) Z tyP_int Z Z Z <| ON Z Z Z <| EQ1 Z Z Z <| ON Z Z Z <| PT Z Z Z Z <| PF Z Z Z Z <| AS Z Z <| ND <| ?_
    refine gw_cond Z (fun h16 => ?_) (fun h16 => ?_)
    · refine SQ <| RG <| AS Z Z <| ND <| RT Try.func35 Z Z <| ?_
      simp [following, h1, h13, h15, h16]
    refine SQ <| RG <| FA Z tyF_impl_Sender_7 Z <| LD (i := 0) Z tyP_int Z Z Z <| rw_gtr Z Z Z <| MV Z Z <| ?_
    refine rw_caseL (j := 39) Z (fun h17 => ?_) (fun h17 => ?_)
    · refine SKP Z <| PT Z Z Z Z <| AS Z Z <| ND <| CT Z Z <| SQ <| RG <| AS Z Z <| ND <| RT Try.func35 Z Z <| ?_
      simp [following, h1, h13, h15, h16, h17]
    refine ON Z Z Z <| FA Z tyF_impl_Sender_6 Z <| ON Z Z Z <| LD (i := 0) Z tyP_int Z Z Z <| ON Z Z Z <| EQ1 Z Z Z <| ON Z Z Z <| MV Z Z <| ?_
    refine rw_caseL (j := 43) Z (fun h18 => ?_) (fun h18 => ?_)
    · refine ON Z Z Z <| FA Z tyF_impl_Sender_0 Z <| ON Z Z Z <| LD (i := 0) Z tyP_int Z Z Z <| ON Z Z Z <| EQ1 Z Z Z <| ON Z Z Z <| PT Z Z Z Z <| PF Z Z Z Z <| AS Z Z <| ND <| ?_
      refine gw_cond Z (fun h19 => ?_) (fun h19 => ?_)
      · refine SQ <| RG <| AS Z Z <| ND <| RT Try.func35 Z Z <| ?_
        simp [following, h1, h13, h15, h16, h17, h19]
      refine SK <| IB <| SQ <| RG <| AS Z Z <| ND <| RT Try.func35 Z Z <| ?_
      simp [following, h1, h13, h15, h16, h17, h19]
    refine SKP Z <| ON Z Z Z <| PF Z Z Z Z <| PF Z Z Z Z <| AS Z Z <| ND <| CF Z Z <| SK <| IB <| SQ <| RG <| AS Z Z <| ND <| RT Try.func35 Z Z <| ?_
    simp_all []
  refine SKP Z <| ON Z Z Z <| PF Z Z Z Z <| PF Z Z Z Z <| AS Z Z <| ND <| CF Z Z <| SQ <| RG <| FA Z tyF_impl_Sender_7 Z <| LD (i := 0) Z tyP_int Z Z Z <| rw_gtr Z Z Z <| MV Z Z <| ?_
  refine rw_caseL (j := 39) Z (fun h20 => ?_) (fun h20 => ?_)
  · refine SKP Z <| PT Z Z Z Z <| AS Z Z <| ND <| CT Z Z <| SQ <| RG <| AS Z Z <| ND <| RT Try.func35 Z Z <| ?_
    simp [following, h1, h13, h15, h20]
  refine ON Z Z Z <| FA Z tyF_impl_Sender_6 Z <| ON Z Z Z <| LD (i := 0) Z tyP_int Z Z Z <| ON Z Z Z <| EQ1 Z Z Z <| ON Z Z Z <| MV Z Z <| ?_
  refine rw_caseL (j := 43) Z (fun h21 => ?_) (fun h21 => ?_)
  · refine ON Z Z Z <| FA Z tyF_impl_Sender_0 Z <| ON Z Z Z <| LD (i := 0) Z tyP_int Z Z Z <| ON Z Z Z <| EQ1 Z Z Z <| ON Z Z Z <| PT Z Z Z Z <| PF Z Z Z Z <| AS Z Z <| ND <| ?_
    refine gw_cond Z (fun h22 => ?_) (fun h22 => ?_)
    · refine SQ <| RG <| AS Z Z <| ND <| RT Try.func35 Z Z <| ?_
      simp_all []
    refine SK <| IB <| SQ <| RG <| AS Z Z <| ND <| RT Try.func35 Z Z <| ?_
    simp [following, h1, h13, h15, h20, h22]
  refine SKP Z <| ON Z Z Z <| PF Z Z Z Z <| PF Z Z Z Z <| AS Z Z <| ND <| CF Z Z <| SK <| IB <| SQ <| RG <| AS Z Z <| ND <| RT Try.func35 Z Z <| ?_
  simp [following, h1, h13, h15, h20]

set_option maxHeartbeats 2000000 in
set_option maxRecDepth 20000 in
theorem impl_IsSender {w : World} {cs : List Value} {x : Sender} (hv : RdSender w cs x) (hb : x.le 1048576) : CV Try.prog 47 [.agg cs.toArray] w (.bool (isSender x)) := by
  obtain ⟨v0, v1, v2, v3, rfl, k0, k1, k2, k3⟩ := hv
  obtain ⟨A0, c0, rfl, hA0⟩ := k0
  obtain ⟨A1, c1, rfl, hA1⟩ := k1
  obtain ⟨A2, c2, rfl, hA2⟩ := k2
  obtain ⟨A3, c3, rfl, hA3⟩ := k3
  obtain ⟨hb0, hb1, hb2, hb3⟩ := hb
  refine cv_of Try.func47 Z Z Z <| SQ <| RG <| BX [_, _, _, _, _, _, _, _, _, _, _, _] Z Z Z <| fun b1 => AS Z Z <| ND <| SQ <| SQ <| RG <| FA Z tyF_impl_Sender_1 Z <| LS (i := 0) [_, _, _, _] Z tyS_impl_Ring Z Z Z Z <| CV1 Z fun_impl_IsRing Z (fun w hs => impl_IsRing ⟨_, Z, (hA0.s Pl.keeps hs)⟩ (show _ ≤ _ from hb0)) <| NT Z Z <| MV Z Z <| ?_
  refine rw_caseN (j := 9) Z (fun h1 => ?_) (fun h1 => ?_)
  · refine SKP Z <| PT Z Z Z Z <| MV Z Z <| SKP Z <| PT Z Z Z Z <| MV Z Z <| SKP Z <| PT Z Z Z Z <| MV Z Z <| SKP Z <| PT Z Z Z Z <| MV Z Z <| SKP Z <| PT Z Z Z Z <| MV Z Z <| SKP Z <| PT Z Z Z Z <| ND <| CT Z Z <| SQ <| RG <| AS Z Z <| ND <| RT Try.func47 Z Z <| ?_
    simp [isSender, senderBase, senderReset, h1]
  refine ON Z Z Z <| FA Z tyF_impl_Sender_2 Z <| ON Z Z Z <| LD (i := 0) Z tyP_S_impl_Range Z Z Z <| ON Z Z Z <| CV1 Z fun_impl_IsRanges Z (fun w hs => impl_IsRanges (hA1.s Pl.keeps hs) (by omega)) <| ON Z Z Z <| NT Z Z <| PF Z Z Z Z <| MV Z Z <| ?_
  refine rw_caseN (j := 15) Z (fun h2 => ?_) (fun h2 => ?_)
  · refine SKP Z <| PT Z Z Z Z <| MV Z Z <| SKP Z <| PT Z Z Z Z <| MV Z Z <| SKP Z <| PT Z Z Z Z <| MV Z Z <| SKP Z <| PT Z Z Z Z <| MV Z Z <| SKP Z <| PT Z Z Z Z <| ND <| CT Z Z <| SQ <| RG <| AS Z Z <| ND <| RT Try.func47 Z Z <| ?_
    simp [isSender, senderBase, senderReset, h1, h2]
  refine ON Z Z Z <| FA Z tyF_impl_Sender_3 Z <| ON Z Z Z <| LD (i := 0) Z tyP_S_impl_Range Z Z Z <| ON Z Z Z <| CV1 Z fun_impl_IsRanges Z (fun w hs => impl_IsRanges (hA2.s Pl.keeps hs) (by omega)) <| ON Z Z Z <| NT Z Z <| PF Z Z Z Z <| MV Z Z <| ?_
  refine rw_caseN (j := 21) Z (fun h3 => ?_) (fun h3 => ?_)
  · refine SKP Z <| PT Z Z Z Z <| MV Z Z <| SKP Z <| PT Z Z Z Z <| MV Z Z <| SKP Z <| PT Z Z Z Z <| MV Z Z <| SKP Z <| PT Z Z Z Z <| ND <| CT Z Z <| SQ <| RG <| AS Z Z <| ND <| RT Try.func47 Z Z <| ?_
    simp [isSender, senderBase, senderReset, h1, h2, h3]
  refine ON Z Z Z <| FA Z tyF_impl_Sender_4 Z <| ON Z Z Z <| LD (i := 0) Z tyP_S_impl_Range Z Z Z <| ON Z Z Z <| CV1 Z fun_impl_IsRanges Z (fun w hs => impl_IsRanges (hA3.s Pl.keeps hs) (by omega)) <| ON Z Z Z <| NT Z Z <| PF Z Z Z Z <| MV Z Z <| ?_
  refine rw_caseN (j := 27) Z (fun h4 => ?_) (fun h4 => ?_)
  · refine SKP Z <| PT Z Z Z Z <| MV Z Z <| SKP Z <| PT Z Z Z Z <| MV Z Z <| SKP Z <| PT Z Z Z Z <| ND <| CT Z Z <| SQ <| RG <| AS Z Z <| ND <| RT Try.func47 Z Z <| ?_
    simp [isSender, senderBase, senderReset, h1, h2, h3, h4]
  refine ON Z Z Z <| FA Z tyF_impl_Sender_7 Z <| ON Z Z Z <| LD (i := 0) Z tyP_int Z Z Z <| ON Z Z Z <| FA Z tyF_impl_Sender_1 Z <| ON Z Z Z <| FA Z tyF_impl_Ring_2 Z <| ON Z Z Z <| LD (i := 0) Z tyP_int Z Z Z <| ON Z Z Z <| CV1 Z fun_impl_within Z (fun w hs => impl_within _ _ _ w) <| ON Z Z Z <| NT Z Z <| PF Z Z Z Z <| MV Z Z <| ?_
  refine rw_caseN (j := 36) Z (fun h5 => ?_) (fun h5 => ?_)
  · refine SKP Z <| PT Z Z Z Z <| MV Z Z <| SKP Z <| PT Z Z Z Z <| ND <| CT Z Z <| SQ <| RG <| AS Z Z <| ND <| RT Try.func47 Z Z <| ?_
    simp [isSender, senderBase, senderReset, h1, h2, h3, h4, h5]
  refine ON Z Z Z <| FA Z tyF_impl_Sender_8 Z <| ON Z Z Z <| LD (i := 0) Z tyP_int Z Z Z <| ON Z Z Z <| CV1 Z fun_impl_isQuic Z (fun w hs => impl_isQuic _ w) <| ON Z Z Z <| NT Z Z <| PF Z Z Z Z <| MV Z Z <| ?_
  refine rw_caseN (j := 42) Z (fun h6 => ?_) (fun h6 => ?_)
  · refine SKP Z <| PT Z Z Z Z <| ND <| CT Z Z <| SQ <| RG <| AS Z Z <| ND <| RT Try.func47 Z Z <| ?_
    simp [isSender, senderBase, senderReset, h1, h2, h3, h4, h5, h6]
  refine ON Z Z Z <| FA Z tyF_impl_Sender_6 Z <| ON Z Z Z <| LD (i := 0) Z tyP_int Z Z Z <| ON Z Z Z <| CV1 Z fun_impl_within Z (fun w hs => impl_within _ _ _ w) <| ON Z Z Z <| NT Z Z <| PF Z Z Z Z <| ND <| ?_
  refine gw_condN Z (fun h7 => ?_) (fun h7 => ?_)
  · refine SQ <| RG <| AS Z Z <| ND <| RT Try.func47 Z Z <| ?_
    simp [isSender, senderBase, senderReset, h1, h2, h3, h4, h5, h6, h7]
  refine SK <| SQ <| SQ <| RG <| FA Z tyF_impl_Sender_0 Z <| LD (i := 0) Z tyP_int Z Z Z <| EQ1 Z Z Z <| MV Z Z <| ?_
  refine rw_caseL (j := 51) Z (fun h8 => ?_) (fun h8 => ?_)
  · refine SKP Z <| PT Z Z Z Z <| ND <| CT Z Z <| SQ <| RG <| FA Z tyF_impl_Sender_2 Z <| LD (i := 0) Z tyP_S_impl_Range Z Z Z <| rw_len Z tyE_S_impl_Range Z <| EQ1 Z Z Z <| MV Z Z <| ?_
    refine rw_caseL (j := 60) Z (fun h9 => ?_) (fun h9 => ?_)
    · have hnil1 := nil_of_eq h9
      refine ON Z Z Z <| FA Z tyF_impl_Sender_3 Z <| ON Z Z Z <| LD (i := 0) Z tyP_S_impl_Range Z Z Z <| ON Z Z Z <| rw_len Z tyE_S_impl_Range Z <| ON Z Z Z <| EQ1 Z Z Z <| PT Z Z Z Z <| MV Z Z <| ?_
      refine rw_caseL (j := 66) Z (fun h10 => ?_) (fun h10 => ?_)
      · have hnil2 := nil_of_eq h10
        refine ON Z Z Z <| FA Z tyF_impl_Sender_4 Z <| ON Z Z Z <| LD (i := 0) Z tyP_S_impl_Range Z Z Z <| ON Z Z Z <| rw_len Z tyE_S_impl_Range Z <| ON Z Z Z <| EQ1 Z Z Z <| PT Z Z Z Z <| AS Z Z <| ND <| SQ <| RG <| MV Z Z <| MV Z Z <| ?_
        refine rw_caseL (j := 73) Z (fun h11 => ?_) (fun h11 => ?_)
        · have hnil3 := nil_of_eq h11
          refine ON Z Z Z <| FA Z tyF_impl_Sender_1 Z <| ON Z Z Z <| FA Z tyF_impl_Ring_1 Z <| ON Z Z Z <| LD (i := 0) Z tyP_int Z Z Z <| ON Z Z Z <| FA Z tyF_impl_Sender_1 Z <| ON Z Z Z <| FA Z tyF_impl_Ring_2 Z <| ON Z Z Z <| LD (i := 0) Z tyP_int Z Z Z <| ON Z Z Z <| EQ1 Z Z Z <| PT Z Z Z Z <| MV Z Z <| ?_
          refine rw_caseL (j := 82) Z (fun h12 => ?_) (fun h12 => ?_)
          · refine ON Z Z Z <| FA Z tyF_impl_Sender_5 Z <| ON Z Z Z <| LD (i := 0) Z tyP_int Z Z Z <| ON Z Z Z <| FA Z tyF_impl_Sender_7 Z <| ON Z Z Z <| LD (i := 0) Z tyP_int Z Z Z <| ON Z Z Z <| EQ1 Z Z Z <| PT Z Z Z Z <| MV Z Z <| ?_
            refine rw_caseL (j := 89) Z (fun h13 => ?_) (fun h13 => ?_)
            · refine ON Z Z Z <| FA Z tyF_impl_Sender_7 Z <| ON Z Z Z <| LD (i := 0) Z tyP_int Z Z Z <| ON Z Z Z <| FA Z tyF_impl_Sender_1 Z <| ON Z Z Z <| FA Z tyF_impl_Ring_2 Z <| ON Z Z Z <| LD (i := 0) Z tyP_int Z Z Z <| ON Z Z Z <| EQ1 Z Z Z <| PT Z Z Z Z <| MV Z Z <| ?_
              refine rw_caseL (j := 97) Z (fun h14 => ?_) (fun h14 => ?_)
              · refine ON Z Z Z <| FA Z tyF_impl_Sender_6 Z <| ON Z Z Z <| LD (i := 0) Z tyP_int Z Z Z <| ON Z Z Z <| EQ1 Z Z Z <| PT Z Z Z Z <| AS Z Z <| ND <| RT Try.func47 Z Z <| ?_
                simp [isSender, senderBase, senderReset, h1, h2, h3, h4, h5, h6, h7, h8, h9, h10, h11, h12, h13, h14]
              refine SKP Z <| PF Z Z Z Z <| AS Z Z <| ND <| RT Try.func47 Z Z <| ?_
              simp [isSender, senderBase, senderReset, h1, h2, h3, h4, h5, h6, h7, h8, h9, h10, h11, h12, h13, h14]
            refine SKP Z <| PF Z Z Z Z <| MV Z Z <| SKP Z <| PF Z Z Z Z <| AS Z Z <| ND <| RT Try.func47 Z Z <| ?_
            simp [isSender, senderBase, senderReset, h1, h2, h3, h4, h5, h6, h7, h8, h9, h10, h11, h12, h13]
          refine SKP Z <| PF Z Z Z Z <| MV Z Z <| SKP Z <| PF Z Z Z Z <| MV Z Z <| SKP Z <| PF Z Z Z Z <| AS Z Z <| ND <| RT Try.func47 Z Z <| ?_
          simp [isSender, senderBase, senderReset, h1, h2, h3, h4, h5, h6, h7, h8, h9, h10, h11, h12]
        have hpos4 := pos_of_ne h11
        refine SKP Z <| PF Z Z Z Z <| MV Z Z <| SKP Z <| PF Z Z Z Z <| MV Z Z <| SKP Z <| PF Z Z Z Z <| MV Z Z <| SKP Z <| PF Z Z Z Z <| AS Z Z <| ND <| RT Try.func47 Z Z <| ?_
        simp [isSender, senderBase, senderReset, h1, h2, h3, h4, h5, h6, h7, h8, h9, h10, h11]
      have hpos5 := pos_of_ne h10
      refine SKP Z <| PF Z Z Z Z <| AS Z Z <| ND <| SQ <| RG <| MV Z Z <| MV Z Z <| SKP Z <| PF Z Z Z Z <| MV Z Z <| SKP Z <| PF Z Z Z Z <| MV Z Z <| SKP Z <| PF Z Z Z Z <| MV Z Z <| SKP Z <| PF Z Z Z Z <| AS Z Z <| ND <| RT Try.func47 Z Z <| ?_
      simp [isSender, senderBase, senderReset, h1, h2, h3, h4, h5, h6, h7, h8, h9, h10]
    have hpos6 := pos_of_ne h9
    refine SKP Z <| PF Z Z Z Z <| MV Z Z <| SKP Z <| PF Z Z Z Z <| AS Z Z <| ND <| SQ <| RG <| MV Z Z <| MV Z Z <| SKP Z <| PF Z Z Z Z <| MV Z Z <| SKP Z <| PF Z Z Z Z <| MV Z Z <| SKP Z <| PF Z Z Z Z <| MV Z Z <| SKP Z <| PF Z Z Z Z <| AS Z Z <| ND <| RT Try.func47 Z Z <| ?_
    simp [isSender, senderBase, senderReset, h1, h2, h3, h4, h5, h6, h7, h8, h9]
  refine ON Z Z Z <| FA Z tyF_impl_Sender_0 Z <| ON Z Z Z <| LD (i := 0) Z tyP_int Z Z Z <| ON Z Z Z <| EQ1 Z Z Z <| PF Z Z Z Z <| ND <| ?_
  refine gw_cond Z (fun h15 => ?_) (fun h15 => ?_)
  · refine SQ <| RG <| FA Z tyF_impl_Sender_2 Z <| LD (i := 0) Z tyP_S_impl_Range Z Z Z <| rw_len Z tyE_S_impl_Range Z <| EQ1 Z Z Z <| MV Z Z <| ?_
    refine rw_caseL (j := 60) Z (fun h16 => ?_) (fun h16 => ?_)
    · have hnil7 := nil_of_eq h16
      refine ON Z Z Z <| FA Z tyF_impl_Sender_3 Z <| ON Z Z Z <| LD (i := 0) Z tyP_S_impl_Range Z Z Z <| ON Z Z Z <| rw_len Z tyE_S_impl_Range Z <| ON Z Z Z <| EQ1 Z Z Z <| PT Z Z Z Z <| MV Z Z <| ?_
      refine rw_caseL (j := 66) Z (fun h17 => ?_) (fun h17 => ?_)
      · have hnil8 := nil_of_eq h17
        refine ON Z Z Z <| FA Z tyF_impl_Sender_4 Z <| ON Z Z Z <| LD (i := 0) Z tyP_S_impl_Range Z Z Z <| ON Z Z Z <| rw_len Z tyE_S_impl_Range Z <| ON Z Z Z <| EQ1 Z Z Z <| PT Z Z Z Z <| AS Z Z <| ND <| SQ <| RG <| MV Z Z <| MV Z Z <| ?_
        refine rw_caseL (j := 73) Z (fun h18 => ?_) (fun h18 => ?_)
        · have hnil9 := nil_of_eq h18
          refine ON Z Z Z <| FA Z tyF_impl_Sender_1 Z <| ON Z Z Z <| FA Z tyF_impl_Ring_1 Z <| ON Z Z Z <| LD (i := 0) Z tyP_int Z Z Z <| ON Z Z Z <| FA Z tyF_impl_Sender_1 Z <| ON Z Z Z <| FA Z tyF_impl_Ring_2 Z <| ON Z Z Z <| LD (i := 0) Z tyP_int Z Z Z <| ON Z Z Z <| EQ1 Z Z Z <| PT Z Z Z Z <| MV Z Z <| ?_
          refine rw_caseL (j := 82) Z (fun h19 => ?_) (fun h19 => ?_)
          · refine ON Z Z Z <| FA Z tyF_impl_Sender_5 Z <| ON Z Z Z <| LD (i := 0) Z tyP_int Z Z Z <| ON Z Z Z <| FA Z tyF_impl_Sender_7 Z <| ON Z Z Z <| LD (i := 0) Z tyP_int Z Z Z <| ON Z Z Z <| EQ1 Z Z Z <| PT Z Z Z Z <| MV Z Z <| ?_
            refine rw_caseL (j := 89) Z (fun h20 => ?_) (fun h20 => ?_)
            · refine ON Z Z Z <| FA Z tyF_impl_Sender_7 Z <| ON Z Z Z <| LD (i := 0) Z tyP_int Z Z Z <| ON Z Z Z <| FA Z tyF_impl_Sender_1 Z <| ON Z Z Z <| FA Z tyF_impl_Ring_2 Z <| ON Z Z Z <| LD (i := 0) Z tyP_int Z Z Z <| ON Z Z Z <| EQ1 Z Z Z <| PT Z Z Z Z <| MV Z Z <| ?_
              refine rw_caseL (j := 97) Z (fun h21 => ?_) (fun h21 => ?_)
              · refine ON Z Z Z <| FA Z tyF_impl_Sender_6 Z <| ON Z Z Z <| LD (i := 0) Z tyP_int Z Z Z <| ON Z Z Z <| EQ1 Z Z Z <| PT Z Z Z Z <| AS Z Z <| ND <| RT Try.func47 Z Z <| ?_
                simp [isSender, senderBase, senderReset, h1, h2, h3, h4, h5, h6, h7, h8, h15, h16, h17, h18, h19, h20, h21]
              refine SKP Z <| PF Z Z Z Z <| AS Z Z <| ND <| RT Try.func47 Z Z <| ?_
              simp [isSender, senderBase, senderReset, h1, h2, h3, h4, h5, h6, h7, h8, h15, h16, h17, h18, h19, h20, h21]
            refine SKP Z <| PF Z Z Z Z <| MV Z Z <| SKP Z <| PF Z Z Z Z <| AS Z Z <| ND <| RT Try.func47 Z Z <| ?_
            simp [isSender, senderBase, senderReset, h1, h2, h3, h4, h5, h6, h7, h8, h15, h16, h17, h18, h19, h20]
          refine SKP Z <| PF Z Z Z Z <| MV Z Z <| SKP Z <| PF Z Z Z Z <| MV Z Z <| SKP Z <| PF Z Z Z Z <| AS Z Z <| ND <| RT Try.func47 Z Z <| ?_
          simp [isSender, senderBase, senderReset, h1, h2, h3, h4, h5, h6, h7, h8, h15, h16, h17, h18, h19]
        have hpos10 := pos_of_ne h18
        refine SKP Z <| PF Z Z Z Z <| MV Z Z <| SKP Z <| PF Z Z Z Z <| MV Z Z <| SKP Z <| PF Z Z Z Z <| MV Z Z <| SKP Z <| PF Z Z Z Z <| AS Z Z <| ND <| RT Try.func47 Z Z <| ?_
        simp [isSender, senderBase, senderReset, h1, h2, h3, h4, h5, h6, h7, h8, h15, h16, h17, h18]
      have hpos11 := pos_of_ne h17
      refine SKP Z <| PF Z Z Z Z <| AS Z Z <| ND <| SQ <| RG <| MV Z Z <| MV Z Z <| SKP Z <| PF Z Z Z Z <| MV Z Z <| SKP Z <| PF Z Z Z Z <| MV Z Z <| SKP Z <| PF Z Z Z Z <| MV Z Z <| SKP Z <| PF Z Z Z Z <| AS Z Z <| ND <| RT Try.func47 Z Z <| ?_
      simp [isSender, senderBase, senderReset, h1, h2, h3, h4, h5, h6, h7, h8, h15, h16, h17]
    have hpos12 := pos_of_ne h16
    refine SKP Z <| PF Z Z Z Z <| MV Z Z <| SKP Z <| PF Z Z Z Z <| AS Z Z <| ND <| SQ <| RG <| MV Z Z <| MV Z Z <| SKP Z <| PF Z Z Z Z <| MV Z Z <| SKP Z <| PF Z Z Z Z <| MV Z Z <| SKP Z <| PF Z Z Z Z <| MV Z Z <| SKP Z <| PF Z Z Z Z <| AS Z Z <| ND <| RT Try.func47 Z Z <| ?_
    simp [isSender, senderBase, senderReset, h1, h2, h3, h4, h5, h6, h7, h8, h15, h16]
  refine SK <| SQ <| RG <| FA Z tyF_impl_Sender_1 Z <| FA Z tyF_impl_Ring_2 Z <| LD (i := 0) Z tyP_int Z Z Z <| AS Z Z <| ND <| SQ <| SQ <| RG <| FA Z tyF_impl_Sender_6 Z <| LD (i := 0) Z tyP_int Z Z Z <| EQ1 Z Z Z <| ND <| ?_
  refine gw_cond Z (fun h22 => ?_) (fun h22 => ?_)
  · refine RG <| AS Z Z <| ND <| SQ <| gw_draw' [dd 0, dd 1, dd 2, dd 3, dd 4, dd 5, dd 6, dd 7, dd 8, dd 9, dd 10, dd 11, dd 12, dd 13, dd 14, dd 15, dd 16, dd 17, dd 18, dd 19, dd 20, dd 21, dd 22, dd 23, dd 24, dd 25, dd 26, dd 27, dd 28, dd 29, dd 30, dd 31, dd 32, dd 33, dd 34, dd 35, dd 36, dd 37, dd 38, dd 39, dd 40, dd 41, dd 42, dd 43, dd 44, dd 45, dd 46, dd 47, dd 48, dd 49, dd 50] [51, 52, 53] mixed Z (FD Z) (ts := [_, _, _]) Z <| ?_
    refine DT Z Z (fun K hk => FA Z tyF_impl_Sender_2 Z hk) <| DT Z Z (fun K hk => LD (i := 0) Z tyP_S_impl_Range Z Z Z hk) <| DT Z Z (fun K hk => FA Z tyF_impl_Sender_3 Z hk) <| DT Z Z (fun K hk => LD (i := 0) Z tyP_S_impl_Range Z Z Z hk) <| DT Z Z (fun K hk => FA Z tyF_impl_Sender_4 Z hk) <| DT Z Z (fun K hk => LD (i := 0) Z tyP_S_impl_Range Z Z Z hk) <| DT Z Z (fun K hk => FA Z tyF_impl_Sender_1 Z hk) <| DT Z Z (fun K hk => FA Z tyF_impl_Ring_2 Z hk) <| ?_
    refine DT Z Z (fun K hk => LD (i := 0) Z tyP_int Z Z Z hk) <| DT Z Z (fun K hk => CV1 Z fun_impl_areWhole Z (fun w hs => impl_areWhole (hA1.s Pl.keeps hs) (by omega) (hA2.s Pl.keeps hs) (by omega) (hA3.s Pl.keeps hs) (by omega) _) hk) <| DM Z Z Z <| ?_
    refine dw_caseL (j := 118) Z (fun h23 => ?_) (fun h23 => ?_)
    · refine DT Z Z (fun K hk => ON Z Z Z (FA Z tyF_impl_Sender_4 Z hk)) <| DT Z Z (fun K hk => ON Z Z Z (LD (i := 0) Z tyP_S_impl_Range Z Z Z hk)) <| DT Z Z (fun K hk => ON Z Z Z (CV1 Z fun_impl_FirstGap Z (fun w hs => impl_FirstGap (hA3.s Pl.keeps hs) (by omega) _) hk)) <| DT Z Z (fun K hk => ON Z Z Z (FA Z tyF_impl_Sender_1 Z hk)) <| DT Z Z (fun K hk => ON Z Z Z (FA Z tyF_impl_Ring_1 Z hk)) <| ?_
      refine DT Z Z (fun K hk => ON Z Z Z (LD (i := 0) Z tyP_int Z Z Z hk)) <| DT Z Z (fun K hk => ON Z Z Z (EQ1 Z Z Z hk)) <| DT Z Z (fun K hk => PT Z Z Z Z hk) <| DM Z Z Z <| ?_
      refine dw_caseL (j := 127) Z (fun h24 => ?_) (fun h24 => ?_)
      · refine DT Z Z (fun K hk => ON Z Z Z (FA Z tyF_impl_Sender_3 Z hk)) <| DT Z Z (fun K hk => ON Z Z Z (LD (i := 0) Z tyP_S_impl_Range Z Z Z hk)) <| DT Z Z (fun K hk => ON Z Z Z (FA Z tyF_impl_Sender_7 Z hk)) <| DT Z Z (fun K hk => ON Z Z Z (LD (i := 0) Z tyP_int Z Z Z hk)) <| DT Z Z (fun K hk => ON Z Z Z (CV1 Z fun_impl_endsBehind Z (fun w hs => impl_endsBehind (hA2.s Pl.keeps hs) (by omega) _) hk)) <| ?_
        refine DT Z Z (fun K hk => ON Z Z Z (NT Z Z hk)) <| DT Z Z (fun K hk => PT Z Z Z Z hk) <| DM Z Z Z <| ?_
        refine dw_caseN (j := 135) Z (fun h25 => ?_) (fun h25 => ?_)
        · refine DT Z Z (fun K hk => ON Z Z Z (FA Z tyF_impl_Sender_4 Z hk)) <| DT Z Z (fun K hk => ON Z Z Z (LD (i := 0) Z tyP_S_impl_Range Z Z Z hk)) <| DT Z Z (fun K hk => ON Z Z Z (FA Z tyF_impl_Sender_7 Z hk)) <| DT Z Z (fun K hk => ON Z Z Z (LD (i := 0) Z tyP_int Z Z Z hk)) <| DT Z Z (fun K hk => ON Z Z Z (CV1 Z fun_impl_endsBehind Z (fun w hs => impl_endsBehind (hA3.s Pl.keeps hs) (by omega) _) hk)) <| ?_
          refine DT Z Z (fun K hk => ON Z Z Z (NT Z Z hk)) <| DT Z Z (fun K hk => PT Z Z Z Z hk) <| DM Z Z Z <| ?_
          refine dw_caseN (j := 143) Z (fun h26 => ?_) (fun h26 => ?_)
          · refine DT Z Z (fun K hk => ON Z Z Z (FA Z tyF_impl_Sender_8 Z hk)) <| DT Z Z (fun K hk => ON Z Z Z (LD (i := 0) Z tyP_int Z Z Z hk)) <| DT Z Z (fun K hk => ON Z Z Z (EQ1 Z Z Z hk)) <| DT Z Z (fun K hk => PT Z Z Z Z hk) <| DM Z Z Z <| ?_
            refine dw_caseL (j := 148) Z (fun h27 => ?_) (fun h27 => ?_)
            · refine DT Z Z (fun K hk => ON Z Z Z (FA Z tyF_impl_Sender_5 Z hk)) <| DT Z Z (fun K hk => ON Z Z Z (LD (i := 0) Z tyP_int Z Z Z hk)) <| DT Z Z (fun K hk => ON Z Z Z (MV Z Z hk)) <| DT Z Z (fun K hk => ON Z Z Z (EQ1 Z Z Z hk)) <| DT Z Z (fun K hk => PT Z Z Z Z hk) <| DM Z Z Z <| ?_
              refine dw_caseL (j := 154) Z (fun h28 => ?_) (fun h28 => ?_)
              · refine DT Z Z (fun K hk => ON Z Z Z (FA Z tyF_impl_Sender_0 Z hk)) <| DT Z Z (fun K hk => ON Z Z Z (LD (i := 0) Z tyP_int Z Z Z hk)) <| DT Z Z (fun K hk => ON Z Z Z (LS (i := 0) [_, _, _, _, _, _, _, _, _, _, _, _] Z tyS_impl_Sender Z Z Z Z hk)) <| DT Z Z (fun K hk => ON Z Z Z (CV1 Z fun_impl_following Z (fun w hs => impl_following ⟨_, _, _, _, Z, (hA0.s Pl.keeps hs), (hA1.s Pl.keeps hs), (hA2.s Pl.keeps hs), (hA3.s Pl.keeps hs)⟩) hk)) <| ?_
                refine dw_nil <| ON Z Z Z <| EQ1 Z Z Z <| PT Z Z Z Z <| AS Z Z <| ND <| RT Try.func47 Z Z <| ?_
                simp [isSender, senderBase, senderReset, h1, h2, h3, h4, h5, h6, h7, h8, h15, h22, h23, h24, h25, h26, h27, h28]
              refine DSK Z <| dw_nil <| OF Z Z Z Z <| PF Z Z Z Z <| AS Z Z <| ND <| RT Try.func47 Z Z <| ?_
              simp [isSender, senderBase, senderReset, h1, h2, h3, h4, h5, h6, h7, h8, h15, h22, h23, h24, h25, h26, h27, h28]
            refine DSK Z <| DT Z Z (fun K hk => PF Z Z Z Z hk) <| DM Z Z Z <| DSK Z <| dw_nil <| OF Z Z Z Z <| PF Z Z Z Z <| AS Z Z <| ND <| RT Try.func47 Z Z <| ?_
            simp [isSender, senderBase, senderReset, h1, h2, h3, h4, h5, h6, h7, h8, h15, h22, h23, h24, h25, h26, h27]
          refine DSK Z <| DT Z Z (fun K hk => PF Z Z Z Z hk) <| DM Z Z Z <| DSK Z <| DT Z Z (fun K hk => PF Z Z Z Z hk) <| DM Z Z Z <| DSK Z <| dw_nil <| OF Z Z Z Z <| PF Z Z Z Z <| AS Z Z <| ND <| RT Try.func47 Z Z <| ?_
          simp [isSender, senderBase, senderReset, h1, h2, h3, h4, h5, h6, h7, h8, h15, h22, h23, h24, h25, h26]
        refine DSK Z <| DT Z Z (fun K hk => PF Z Z Z Z hk) <| DM Z Z Z <| DSK Z <| DT Z Z (fun K hk => PF Z Z Z Z hk) <| DM Z Z Z <| DSK Z <| DT Z Z (fun K hk => PF Z Z Z Z hk) <| DM Z Z Z <| DSK Z <| dw_nil <| OF Z Z Z Z <| PF Z Z Z Z <| AS Z Z <| ND <| RT Try.func47 Z Z <| ?_
        simp [isSender, senderBase, senderReset, h1, h2, h3, h4, h5, h6, h7, h8, h15, h22, h23, h24, h25]
      refine DSK Z <| DT Z Z (fun K hk => PF Z Z Z Z hk) <| DM Z Z Z <| DSK Z <| DT Z Z (fun K hk => PF Z Z Z Z hk) <| DM Z Z Z <| DSK Z <| DT Z Z (fun K hk => PF Z Z Z Z hk) <| DM Z Z Z <| DSK Z <| DT Z Z (fun K hk => PF Z Z Z Z hk) <| DM Z Z Z <| DSK Z <| dw_nil <| OF Z Z Z Z <| PF Z Z Z Z <| AS Z Z <| ND <| ?_
      refine RT Try.func47 Z Z <| ?_
      simp [isSender, senderBase, senderReset, h1, h2, h3, h4, h5, h6, h7, h8, h15, h22, h23, h24]
    refine DSK Z <| DT Z Z (fun K hk => PF Z Z Z Z hk) <| DM Z Z Z <| DSK Z <| DT Z Z (fun K hk => PF Z Z Z Z hk) <| DM Z Z Z <| DSK Z <| DT Z Z (fun K hk => PF Z Z Z Z hk) <| DM Z Z Z <| DSK Z <| DT Z Z (fun K hk => PF Z Z Z Z hk) <| DM Z Z Z <| DSK Z <| DT Z Z (fun K hk => PF Z Z Z Z hk) <| DM Z Z Z <| ?_
    refine DSK Z <| dw_nil <| OF Z Z Z Z <| PF Z Z Z Z <| AS Z Z <| ND <| RT Try.func47 Z Z <| ?_
    simp [isSender, senderBase, senderReset, h1, h2, h3, h4, h5, h6, h7, h8, h15, h22, h23]
  refine SK <| SQ <| gw_draw' [dd 0, dd 1, dd 2, dd 3, dd 4, dd 5, dd 6, dd 7, dd 8, dd 9, dd 10, dd 11, dd 12, dd 13, dd 14, dd 15, dd 16, dd 17, dd 18, dd 19, dd 20, dd 21, dd 22, dd 23, dd 24, dd 25, dd 26, dd 27, dd 28, dd 29, dd 30, dd 31, dd 32, dd 33, dd 34, dd 35, dd 36, dd 37, dd 38, dd 39, dd 40, dd 41, dd 42, dd 43, dd 44, dd 45, dd 46, dd 47, dd 48, dd 49, dd 50] [51, 52, 53] mixed Z (FD Z) (ts := [_, _, _]) Z <| ?_
  refine DT Z Z (fun K hk => FA Z tyF_impl_Sender_2 Z hk) <| DT Z Z (fun K hk => LD (i := 0) Z tyP_S_impl_Range Z Z Z hk) <| DT Z Z (fun K hk => FA Z tyF_impl_Sender_3 Z hk) <| DT Z Z (fun K hk => LD (i := 0) Z tyP_S_impl_Range Z Z Z hk) <| DT Z Z (fun K hk => FA Z tyF_impl_Sender_4 Z hk) <| DT Z Z (fun K hk => LD (i := 0) Z tyP_S_impl_Range Z Z Z hk) <| DT Z Z (fun K hk => FA Z tyF_impl_Sender_1 Z hk) <| DT Z Z (fun K hk => FA Z tyF_impl_Ring_2 Z hk) <| ?_
  refine DT Z Z (fun K hk => LD (i := 0) Z tyP_int Z Z Z hk) <| DT Z Z (fun K hk => CV1 Z fun_impl_areWhole Z (fun w hs => impl_areWhole (hA1.s Pl.keeps hs) (by omega) (hA2.s Pl.keeps hs) (by omega) (hA3.s Pl.keeps hs) (by omega) _) hk) <| DM Z Z Z <| ?_
  refine dw_caseL (j := 118) Z (fun h29 => ?_) (fun h29 => ?_)
  · refine DT Z Z (fun K hk => ON Z Z Z (FA Z tyF_impl_Sender_4 Z hk)) <| DT Z Z (fun K hk => ON Z Z Z (LD (i := 0) Z tyP_S_impl_Range Z Z Z hk)) <| DT Z Z (fun K hk => ON Z Z Z (CV1 Z fun_impl_FirstGap Z (fun w hs => impl_FirstGap (hA3.s Pl.keeps hs) (by omega) _) hk)) <| DT Z Z (fun K hk => ON Z Z Z (FA Z tyF_impl_Sender_1 Z hk)) <| DT Z Z (fun K hk => ON Z Z Z (FA Z tyF_impl_Ring_1 Z hk)) <| ?_
    refine DT Z Z (fun K hk => ON Z Z Z (LD (i := 0) Z tyP_int Z Z Z hk)) <| DT Z Z (fun K hk => ON Z Z Z (EQ1 Z Z Z hk)) <| DT Z Z (fun K hk => PT Z Z Z Z hk) <| DM Z Z Z <| ?_
    refine dw_caseL (j := 127) Z (fun h30 => ?_) (fun h30 => ?_)
    · refine DT Z Z (fun K hk => ON Z Z Z (FA Z tyF_impl_Sender_3 Z hk)) <| DT Z Z (fun K hk => ON Z Z Z (LD (i := 0) Z tyP_S_impl_Range Z Z Z hk)) <| DT Z Z (fun K hk => ON Z Z Z (FA Z tyF_impl_Sender_7 Z hk)) <| DT Z Z (fun K hk => ON Z Z Z (LD (i := 0) Z tyP_int Z Z Z hk)) <| DT Z Z (fun K hk => ON Z Z Z (CV1 Z fun_impl_endsBehind Z (fun w hs => impl_endsBehind (hA2.s Pl.keeps hs) (by omega) _) hk)) <| ?_
      refine DT Z Z (fun K hk => ON Z Z Z (NT Z Z hk)) <| DT Z Z (fun K hk => PT Z Z Z Z hk) <| DM Z Z Z <| ?_
      refine dw_caseN (j := 135) Z (fun h31 => ?_) (fun h31 => ?_)
      · refine DT Z Z (fun K hk => ON Z Z Z (FA Z tyF_impl_Sender_4 Z hk)) <| DT Z Z (fun K hk => ON Z Z Z (LD (i := 0) Z tyP_S_impl_Range Z Z Z hk)) <| DT Z Z (fun K hk => ON Z Z Z (FA Z tyF_impl_Sender_7 Z hk)) <| DT Z Z (fun K hk => ON Z Z Z (LD (i := 0) Z tyP_int Z Z Z hk)) <| DT Z Z (fun K hk => ON Z Z Z (CV1 Z fun_impl_endsBehind Z (fun w hs => impl_endsBehind (hA3.s Pl.keeps hs) (by omega) _) hk)) <| ?_
        refine DT Z Z (fun K hk => ON Z Z Z (NT Z Z hk)) <| DT Z Z (fun K hk => PT Z Z Z Z hk) <| DM Z Z Z <| ?_
        refine dw_caseN (j := 143) Z (fun h32 => ?_) (fun h32 => ?_)
        · refine DT Z Z (fun K hk => ON Z Z Z (FA Z tyF_impl_Sender_8 Z hk)) <| DT Z Z (fun K hk => ON Z Z Z (LD (i := 0) Z tyP_int Z Z Z hk)) <| DT Z Z (fun K hk => ON Z Z Z (EQ1 Z Z Z hk)) <| DT Z Z (fun K hk => PT Z Z Z Z hk) <| DM Z Z Z <| ?_
          refine dw_caseL (j := 148) Z (fun h33 => ?_) (fun h33 => ?_)
          · refine DT Z Z (fun K hk => ON Z Z Z (FA Z tyF_impl_Sender_5 Z hk)) <| DT Z Z (fun K hk => ON Z Z Z (LD (i := 0) Z tyP_int Z Z Z hk)) <| DT Z Z (fun K hk => ON Z Z Z (MV Z Z hk)) <| DT Z Z (fun K hk => ON Z Z Z (EQ1 Z Z Z hk)) <| DT Z Z (fun K hk => PT Z Z Z Z hk) <| DM Z Z Z <| ?_
            refine dw_caseL (j := 154) Z (fun h34 => ?_) (fun h34 => ?_)
            · refine DT Z Z (fun K hk => ON Z Z Z (FA Z tyF_impl_Sender_0 Z hk)) <| DT Z Z (fun K hk => ON Z Z Z (LD (i := 0) Z tyP_int Z Z Z hk)) <| DT Z Z (fun K hk => ON Z Z Z (LS (i := 0) [_, _, _, _, _, _, _, _, _, _, _, _] Z tyS_impl_Sender Z Z Z Z hk)) <| DT Z Z (fun K hk => ON Z Z Z (CV1 Z fun_impl_following Z (fun w hs => impl_following ⟨_, _, _, _, Z, (hA0.s Pl.keeps hs), (hA1.s Pl.keeps hs), (hA2.s Pl.keeps hs), (hA3.s Pl.keeps hs)⟩) hk)) <| ?_
              refine dw_nil <| ON Z Z Z <| EQ1 Z Z Z <| PT Z Z Z Z <| AS Z Z <| ND <| RT Try.func47 Z Z <| ?_
              simp [isSender, senderBase, senderReset, h1, h2, h3, h4, h5, h6, h7, h8, h15, h22, h29, h30, h31, h32, h33, h34]
            refine DSK Z <| dw_nil <| OF Z Z Z Z <| PF Z Z Z Z <| AS Z Z <| ND <| RT Try.func47 Z Z <| ?_
            simp [isSender, senderBase, senderReset, h1, h2, h3, h4, h5, h6, h7, h8, h15, h22, h29, h30, h31, h32, h33, h34]
          refine DSK Z <| DT Z Z (fun K hk => PF Z Z Z Z hk) <| DM Z Z Z <| DSK Z <| dw_nil <| OF Z Z Z Z <| PF Z Z Z Z <| AS Z Z <| ND <| RT Try.func47 Z Z <| ?_
          simp [isSender, senderBase, senderReset, h1, h2, h3, h4, h5, h6, h7, h8, h15, h22, h29, h30, h31, h32, h33]
        refine DSK Z <| DT Z Z (fun K hk => PF Z Z Z Z hk) <| DM Z Z Z <| DSK Z <| DT Z Z (fun K hk => PF Z Z Z Z hk) <| DM Z Z Z <| DSK Z <| dw_nil <| OF Z Z Z Z <| PF Z Z Z Z <| AS Z Z <| ND <| RT Try.func47 Z Z <| ?_
        simp [isSender, senderBase, senderReset, h1, h2, h3, h4, h5, h6, h7, h8, h15, h22, h29, h30, h31, h32]
      refine DSK Z <| DT Z Z (fun K hk => PF Z Z Z Z hk) <| DM Z Z Z <| DSK Z <| DT Z Z (fun K hk => PF Z Z Z Z hk) <| DM Z Z Z <| DSK Z <| DT Z Z (fun K hk => PF Z Z Z Z hk) <| DM Z Z Z <| DSK Z <| dw_nil <| OF Z Z Z Z <| PF Z Z Z Z <| AS Z Z <| ND <| RT Try.func47 Z Z <| ?_
      simp [isSender, senderBase, senderReset, h1, h2, h3, h4, h5, h6, h7, h8, h15, h22, h29, h30, h31]
    refine DSK Z <| DT Z Z (fun K hk => PF Z Z Z Z hk) <| DM Z Z Z <| DSK Z <| DT Z Z (fun K hk => PF Z Z Z Z hk) <| DM Z Z Z <| DSK Z <| DT Z Z (fun K hk => PF Z Z Z Z hk) <| DM Z Z Z <| DSK Z <| DT Z Z (fun K hk => PF Z Z Z Z hk) <| DM Z Z Z <| DSK Z <| dw_nil <| OF Z Z Z Z <| PF Z Z Z Z <| AS Z Z <| ND <| ?_
    refine RT Try.func47 Z Z <| ?_
    simp [isSender, senderBase, senderReset, h1, h2, h3, h4, h5, h6, h7, h8, h15, h22, h29, h30]
  refine DSK Z <| DT Z Z (fun K hk => PF Z Z Z Z hk) <| DM Z Z Z <| DSK Z <| DT Z Z (fun K hk => PF Z Z Z Z hk) <| DM Z Z Z <| DSK Z <| DT Z Z (fun K hk => PF Z Z Z Z hk) <| DM Z Z Z <| DSK Z <| DT Z Z (fun K hk => PF Z Z Z Z hk) <| DM Z Z Z <| DSK Z <| DT Z Z (fun K hk => PF Z Z Z Z hk) <| DM Z Z Z <| ?_
  refine DSK Z <| dw_nil <| OF Z Z Z Z <| PF Z Z Z Z <| AS Z Z <| ND <| RT Try.func47 Z Z <| ?_
  simp [isSender, senderBase, senderReset, h1, h2, h3, h4, h5, h6, h7, h8, h15, h22, h29]

theorem impl_canWrite {w : World} {cs : List Value} {x : Sender} (hv : RdSender w cs x) (hb : x.le 1048576) : CV Try.prog 20 [.agg cs.toArray] w (.bool (isSender x && (x.state == 0 || x.state == 1) && x.final == -1)) := by
  obtain ⟨v0, v1, v2, v3, rfl, k0, k1, k2, k3⟩ := hv
  obtain ⟨A0, c0, rfl, hA0⟩ := k0
  obtain ⟨A1, c1, rfl, hA1⟩ := k1
  obtain ⟨A2, c2, rfl, hA2⟩ := k2
  obtain ⟨A3, c3, rfl, hA3⟩ := k3
  obtain ⟨hb0, hb1, hb2, hb3⟩ := hb
  refine cv_of Try.func20 Z Z Z <| SQ <| RG <| BX [_, _, _, _, _, _, _, _, _, _, _, _] Z Z Z <| fun b1 => AS Z Z <| ND <| SQ <| RG <| LS (i := 0) [_, _, _, _, _, _, _, _, _, _, _, _] Z tyS_impl_Sender Z Z Z Z <| CV1 Z fun_impl_IsSender Z (fun w hs => impl_IsSender ⟨_, _, _, _, Z, (hA0.s Pl.keeps hs), (hA1.s Pl.keeps hs), (hA2.s Pl.keeps hs), (hA3.s Pl.keeps hs)⟩ ⟨hb0, hb1, hb2, hb3⟩) <| MV Z Z <| ?_
  refine rw_caseL (j := 5) Z (fun h1 => ?_) (fun h1 => ?_)
  · refine ON Z Z Z <| FA Z tyF_impl_Sender_0 Z <| ON Z Z Z <| LD (i := 0) Z tyP_int Z Z Z <| ON Z Z Z <| EQ1 Z Z Z <| ON Z Z Z <| MV Z Z <| ?_
    refine rw_caseL (j := 9) Z (fun h2 => ?_) (fun h2 => ?_)
    · refine SKP Z <| ON Z Z Z <| PT Z Z Z Z <| PT Z Z Z Z <| MV Z Z <| ON Z Z Z <| FA Z tyF_impl_Sender_5 Z <| ON Z Z Z <| LD (i := 0) Z tyP_int Z Z Z <| ON Z Z Z <| EQ1 Z Z Z <| PT Z Z Z Z <| AS Z Z <| ND <| RT Try.func20 Z Z <| ?_
      simp [h1, h2]
    refine ON Z Z Z <| FA Z tyF_impl_Sender_0 Z <| ON Z Z Z <| LD (i := 0) Z tyP_int Z Z Z <| ON Z Z Z <| EQ1 Z Z Z <| ON Z Z Z <| PF Z Z Z Z <| PT Z Z Z Z <| MV Z Z <| ?_
    refine rw_caseL (j := 15) Z (fun h3 => ?_) (fun h3 => ?_)
    · refine ON Z Z Z <| FA Z tyF_impl_Sender_5 Z <| ON Z Z Z <| LD (i := 0) Z tyP_int Z Z Z <| ON Z Z Z <| EQ1 Z Z Z <| PT Z Z Z Z <| AS Z Z <| ND <| RT Try.func20 Z Z <| ?_
      simp [h1, h2, h3]
    refine SKP Z <| PF Z Z Z Z <| AS Z Z <| ND <| RT Try.func20 Z Z <| ?_
    simp [h1, h2, h3]
  refine SKP Z <| PF Z Z Z Z <| MV Z Z <| SKP Z <| PF Z Z Z Z <| AS Z Z <| ND <| RT Try.func20 Z Z <| ?_
  simp [h1]
end Go.Proofs.Ytbhnekiclbfmgaa
namespace Go.Proofs.Ytbhnekiclbfmgaa
open SL Go.RowKit
theorem impl_RemoveRange {w : World} {v : Value} {l : List Range} (hv : RdS w 2 (Pl Range.cells) v l) (hb : l.length ≤ 4194304) (r : Range) : CN Try.prog 34 [v, .agg r.cells.toArray] w (fun v ch => OwS 61 2 (PlO Range.cells) v (removeRange l r) ch) := by
  obtain ⟨A, c, rfl, hA⟩ := hv
  refine cn_of Try.func34 Z Z Z <| SQ <| RG <| BX [_, _] Z Z Z <| fun b1 => AS Z Z <| ND <| SQ <| SQ <| RG <| MV Z Z <| CV1 Z fun_impl_IsRanges Z (fun w hs => impl_IsRanges (hA.s Pl.keeps hs) (by omega)) <| NT Z Z <| MV Z Z <| ?_
  refine rw_caseN (j := 11) Z (fun h1 => ?_) (fun h1 => ?_)
  · refine SKP Z <| PT Z Z Z Z <| ND <| CT Z Z <| SQ <| RG <| MV Z Z <| CN1 Z fun_impl_copyRanges Z (fun w hs => impl_copyRanges (hA.s Pl.keeps hs) (by omega)) <| fun v1 ch1 how1 => AS Z Z <| ND <| ?_
    refine ret_cn ch1 Try.func34 (res1 Try.func34 Z (rv_tmp Z)) ?_ ?_
    · have hm : removeRange l r = l := by simp [removeRange, h1]
      rw [hm]; exact OwA.s how1
    · simp
  refine ON Z Z Z <| LS (i := 0) [_, _] Z tyS_impl_Range Z Z Z Z <| ON Z Z Z <| CV1 Z fun_impl_isRange Z (fun w hs => impl_isRange _ w) <| ON Z Z Z <| NT Z Z <| PF Z Z Z Z <| ND <| ?_
  refine gw_condN Z (fun h2 => ?_) (fun h2 => ?_)
  · refine SQ <| RG <| MV Z Z <| CN1 Z fun_impl_copyRanges Z (fun w hs => impl_copyRanges (hA.s Pl.keeps hs) (by omega)) <| fun v2 ch2 how2 => AS Z Z <| ND <| ?_
    refine ret_cn ch2 Try.func34 (res1 Try.func34 Z (rv_tmp Z)) ?_ ?_
    · have hm : removeRange l r = l := by simp [removeRange, h1, h2]
      rw [hm]; exact OwA.s how2
    · simp
  refine SK <| SQ <| RG <| rw_slice0 Z tyM_S_impl_Range (PlO Range.cells) <| fun v3 how3 => AS Z Z <| ND <| SQ <| SQ <| RG <| MV Z Z <| rw_len Z tyE_S_impl_Range Z <| MV Z Z <| ND <| BK <| ?_
  refine gw_loopX (α := Nat × List Range × Value × List Ck) (fun z_ => z_.1 ≤ l.length ∧ z_.2.1.length ≤ 2 * z_.1 ∧ OwA 61 2 (PlO Range.cells) z_.2.2.1 z_.2.1 z_.2.2.2 ∧ removeRange l r = z_.2.1 ++ rmGo r (l.drop z_.1)) (fun z_ => l.length - z_.1) (fun e z_ => (21, .int .i64 (z_.1 : Int)) :: (5, z_.2.2.1) :: e) (fun B _ => B) (fun F z_ => z_.2.2.2 ++ F) (0, [], v3, []) [(3, _), (4, _), (19, _), (20, _)] (Sub.consE Z Z (Sub.consE Z Z (Sub.cons (i := 3) Z (Sub.cons (i := 4) Z (Sub.cons (i := 19) Z (Sub.cons (i := 20) Z (Sub.nil _))))))) Z Z ?_ ?_
  · exact ⟨Nat.zero_le _, Nat.le_refl _, how3, by simp [removeRange, h1, h2]⟩
  · rintro ⟨i, o, v, ch⟩ hI4 ih4
    dsimp only at hI4
    dsimp only
    obtain ⟨hle, ho, hO, hI⟩ := hI4
    refine SQ <| RG <| rw_lss Z Z Z <| ND <| SQ <| ?_
    refine gw_cond Z (fun h3 => ?_) (fun h3 => ?_)
    · have hi5 := lt_of_dec h3
      obtain ⟨x6, hx6⟩ := get_of_lt hi5
      have hd6 := drop_cons hx6
      refine SK <| SQ <| BK <| SQ <| RG <| ?_
      have hq7 := hA.plain hx6
      refine rw_indexAddr (i) Z tyE_S_impl_Range Z Z Z (hA.some hi5) hi5 <| rw_loadX_s [_, _] Z tyS_impl_Range Z Z (fun w hs => hq7.lds0 (n := 2) hs Z) <| AL Z tyZ_impl_Range <| fun b2 => ST (i := 0) [_, _] [_, _] tyS_impl_Range.sz Z Z Z Z Z Z Z Z <| ND <| SQ <| SQ <| RG <| FA Z tyF_impl_Range_0 Z <| LD (i := 0) Z tyP_int Z Z Z <| FA Z tyF_impl_Range_1 Z <| LD (i := 0) Z tyP_int Z Z Z <| FA Z tyF_impl_Range_0 Z <| LD (i := 1) Z tyP_int Z Z Z <| ?_
      refine rw_min Z Z Z <| rw_lss Z Z Z <| ND <| ?_
      refine gw_cond Z (fun h4 => ?_) (fun h4 => ?_)
      · refine RG <| MV Z Z <| FA Z tyF_impl_Range_0 Z <| LD (i := 0) Z tyP_int Z Z Z <| FA Z tyF_impl_Range_1 Z <| LD (i := 0) Z tyP_int Z Z Z <| FA Z tyF_impl_Range_0 Z <| LD (i := 1) Z tyP_int Z Z Z <| rw_min Z Z Z <| rw_build [_, _] Z tyB_impl_Range tyZ_impl_Range Z Z <| rw_slice (xs := [(0, _)]) [_, _] Z tyM_S_impl_Range Z Z Z Z <| fun b3 => rw_append1 (i := 0) (a := ⟨x6.low, min x6.high r.low⟩) Z tyM_S_impl_Range eRange Z Z Z hO ⟨Z, Z⟩ (.refl _) (by first | omega | (simp only [List.length_append, List.length_cons, List.length_nil]; omega)) <| fun v8 ch8 how8 => ?_
        refine AS Z Z <| ND <| SQ <| RG <| FA Z tyF_impl_Range_0 Z <| LD (i := 1) Z tyP_int Z Z Z <| FA Z tyF_impl_Range_1 Z <| LD (i := 2) Z tyP_int Z Z Z <| rw_max Z Z Z <| FA Z tyF_impl_Range_1 Z <| LD (i := 1) Z tyP_int Z Z Z <| rw_lss Z Z Z <| ND <| ?_
        refine gw_cond Z (fun h5 => ?_) (fun h5 => ?_)
        · refine RG <| MV Z Z <| FA Z tyF_impl_Range_0 Z <| LD (i := 1) Z tyP_int Z Z Z <| FA Z tyF_impl_Range_1 Z <| LD (i := 2) Z tyP_int Z Z Z <| rw_max Z Z Z <| FA Z tyF_impl_Range_1 Z <| LD (i := 1) Z tyP_int Z Z Z <| rw_build [_, _] Z tyB_impl_Range tyZ_impl_Range Z Z <| rw_slice (xs := [(0, _)]) [_, _] Z tyM_S_impl_Range Z Z Z Z <| fun b4 => rw_append1 (i := 0) (a := ⟨max x6.low r.high, x6.high⟩) Z tyM_S_impl_Range eRange Z Z Z how8 ⟨Z, Z⟩ (.refl _) (by first | omega | (simp only [List.length_append, List.length_cons, List.length_nil]; omega)) <| fun v9 ch9 how9 => ?_
          refine AS Z Z <| ND <| IB <| RG <| rw_add Z Z Z <| MV Z Z <| ND <| ?_
          refine gw_dropN 3 <| ?_
          refine gw_sub (Sub.consE (i := 21) Z (int_succ (by omega)) (Sub.consE (i := 5) Z Z (Sub.cons (i := 3) Z (Sub.cons (i := 4) Z (Sub.cons (i := 19) Z (Sub.cons (i := 20) Z (Sub.nil _))))))) (ih4 (i + 1, ((o ++ [⟨x6.low, min x6.high r.low⟩]) ++ [⟨max x6.low r.high, x6.high⟩]), v9, ch9) ?_ ?_)
          · refine ⟨by omega, by simp only [List.length_append, List.length_cons, List.length_nil]; omega, how9, ?_⟩
            rw [hI, hd6]; simp [rmGo, h4, h5]
          · show l.length - (i + 1) < l.length - i; omega
        refine SK <| IB <| RG <| rw_add Z Z Z <| MV Z Z <| ND <| ?_
        refine gw_dropN 2 <| ?_
        refine gw_sub (Sub.consE (i := 21) Z (int_succ (by omega)) (Sub.consE (i := 5) Z Z (Sub.cons (i := 3) Z (Sub.cons (i := 4) Z (Sub.cons (i := 19) Z (Sub.cons (i := 20) Z (Sub.nil _))))))) (ih4 (i + 1, (o ++ [⟨x6.low, min x6.high r.low⟩]), v8, ch8) ?_ ?_)
        · refine ⟨by omega, by simp only [List.length_append, List.length_cons, List.length_nil]; omega, how8, ?_⟩
          rw [hI, hd6]; simp [rmGo, h4, h5]
        · show l.length - (i + 1) < l.length - i; omega
      refine SK <| SQ <| RG <| FA Z tyF_impl_Range_0 Z <| LD (i := 0) Z tyP_int Z Z Z <| FA Z tyF_impl_Range_1 Z <| LD (i := 1) Z tyP_int Z Z Z <| rw_max Z Z Z <| FA Z tyF_impl_Range_1 Z <| LD (i := 0) Z tyP_int Z Z Z <| rw_lss Z Z Z <| ND <| ?_
      refine gw_cond Z (fun h6 => ?_) (fun h6 => ?_)
      · refine RG <| MV Z Z <| FA Z tyF_impl_Range_0 Z <| LD (i := 0) Z tyP_int Z Z Z <| FA Z tyF_impl_Range_1 Z <| LD (i := 1) Z tyP_int Z Z Z <| rw_max Z Z Z <| FA Z tyF_impl_Range_1 Z <| LD (i := 0) Z tyP_int Z Z Z <| rw_build [_, _] Z tyB_impl_Range tyZ_impl_Range Z Z <| rw_slice (xs := [(0, _)]) [_, _] Z tyM_S_impl_Range Z Z Z Z <| fun b5 => rw_append1 (i := 0) (a := ⟨max x6.low r.high, x6.high⟩) Z tyM_S_impl_Range eRange Z Z Z hO ⟨Z, Z⟩ (.refl _) (by first | omega | (simp only [List.length_append, List.length_cons, List.length_nil]; omega)) <| fun v10 ch10 how10 => ?_
        refine AS Z Z <| ND <| IB <| RG <| rw_add Z Z Z <| MV Z Z <| ND <| ?_
        refine gw_dropN 2 <| ?_
        refine gw_sub (Sub.consE (i := 21) Z (int_succ (by omega)) (Sub.consE (i := 5) Z Z (Sub.cons (i := 3) Z (Sub.cons (i := 4) Z (Sub.cons (i := 19) Z (Sub.cons (i := 20) Z (Sub.nil _))))))) (ih4 (i + 1, (o ++ [⟨max x6.low r.high, x6.high⟩]), v10, ch10) ?_ ?_)
        · refine ⟨by omega, by simp only [List.length_append, List.length_cons, List.length_nil]; omega, how10, ?_⟩
          rw [hI, hd6]; simp [rmGo, h4, h6]
        · show l.length - (i + 1) < l.length - i; omega
      refine SK <| IB <| RG <| rw_add Z Z Z <| MV Z Z <| ND <| ?_
      refine gw_dropN 1 <| ?_
      refine gw_sub (Sub.consE (i := 21) Z (int_succ (by omega)) (Sub.consE (i := 5) Z Z (Sub.cons (i := 3) Z (Sub.cons (i := 4) Z (Sub.cons (i := 19) Z (Sub.cons (i := 20) Z (Sub.nil _))))))) (ih4 (i + 1, o, v, ch) ?_ ?_)
      · refine ⟨by omega, by show o.length ≤ 2 * (i + 1); omega, hO, ?_⟩
        rw [hI, hd6]; simp [rmGo, h4, h6]
      · show l.length - (i + 1) < l.length - i; omega
    have hn11 := nil_of_dec h3
    refine EX Z <| SQ <| RG <| MV Z Z <| AS Z Z <| ND <| ?_
    refine ret_cn ch Try.func34 (res1 Try.func34 Z (rv_tmp Z)) ?_ ?_
    · rw [hI, hn11]; simp only [rmGo, List.append_nil]; exact OwA.s hO
    · exact (List.sublist_append_left _ _).trans (List.sublist_append_right _ _)
end Go.Proofs.Ytbhnekiclbfmgaa
namespace Go.Proofs.Ytbhnekiclbfmgaa
open SL Go.RowKit
theorem impl_CommonRanges {w : World} {v : Value} {l : List Range} (hv : RdS w 2 (Pl Range.cells) v l) (hb : l.length ≤ 4194304) {v1 : Value} {r : Range} (hv1 : RdS w 2 (Pl Range.cells) v1 [r]) (hl_ : isRanges l = true) (hr_ : isRanges [r] = true) : CN Try.prog 33 [v, v1] w (fun v ch => OwS 61 2 (PlO Range.cells) v (comGo r l) ch) := by
  obtain ⟨A, c, rfl, hA⟩ := hv
  obtain ⟨A1, c1, rfl, hA1⟩ := hv1
  have hr1 : [r].length = 1 := rfl
  refine cn_of Try.func33 Z Z Z <| SQ <| RG <| AS Z Z <| ND <| SQ <| RG <| rw_slice0 Z tyM_S_impl_Range (PlO Range.cells) <| fun v1 how1 => AS Z Z <| ND <| SQ <| SQ <| RG <| MV Z Z <| CV1 Z fun_impl_IsRanges Z (fun w hs => impl_IsRanges (hA.s Pl.keeps hs) (by omega)) <| NT Z Z <| MV Z Z <| rw_lit (j := 16) Z (not_T hl_) <| ON Z Z Z <| MV Z Z <| ON Z Z Z <| CV1 Z fun_impl_IsRanges Z (fun w hs => impl_IsRanges (hA1.s Pl.keeps hs) (by omega)) <| ?_
  refine ON Z Z Z <| NT Z Z <| PF Z Z Z Z <| ND <| CF Z (not_T hr_) <| SK <| SQ <| SQ <| RG <| MV Z Z <| rw_len Z tyE_S_impl_Range Z <| MV Z Z <| ND <| BK <| ?_
  refine gw_loopX (α := Nat × List Range × Value × List Ck) (fun z_ => z_.1 ≤ l.length ∧ z_.2.1.length ≤ z_.1 ∧ OwA 61 2 (PlO Range.cells) z_.2.2.1 z_.2.1 z_.2.2.2 ∧ comGo r l = z_.2.1 ++ comGo r (l.drop z_.1)) (fun z_ => l.length - z_.1) (fun e z_ => (24, .int .i64 (z_.1 : Int)) :: (5, z_.2.2.1) :: e) (fun B _ => B) (fun F z_ => z_.2.2.2 ++ ([])) (0, [], v1, []) [(1, _), (4, _), (22, _), (23, _)] (Sub.consE Z Z (Sub.consE Z Z (Sub.cons (i := 1) Z (Sub.cons (i := 4) Z (Sub.cons (i := 22) Z (Sub.cons (i := 23) Z (Sub.nil _))))))) Z Z ?_ ?_
  · exact ⟨Nat.zero_le _, Nat.le_refl _, how1, rfl⟩
  · rintro ⟨i, o, v, ch⟩ hI2 ih2
    dsimp only at hI2
    dsimp only
    obtain ⟨hle, ho, hO, hI⟩ := hI2
    refine SQ <| RG <| rw_lss Z Z Z <| ND <| SQ <| ?_
    refine gw_cond Z (fun h1 => ?_) (fun h1 => ?_)
    · have hi3 := lt_of_dec h1
      obtain ⟨x4, hx4⟩ := get_of_lt hi3
      have hd4 := drop_cons hx4
      refine SK <| SQ <| BK <| SQ <| RG <| ?_
      have hq5 := hA.plain hx4
      refine rw_indexAddr (i) Z tyE_S_impl_Range Z Z Z (hA.some hi3) hi3 <| rw_loadX_s [_, _] Z tyS_impl_Range Z Z (fun w hs => hq5.lds0 (n := 2) hs Z) <| AL Z tyZ_impl_Range <| fun b1 => ST (i := 0) [_, _] [_, _] tyS_impl_Range.sz Z Z Z Z Z Z Z Z <| ND <| SQ <| RG <| MV Z Z <| rw_len Z tyE_S_impl_Range Z <| MV Z Z <| ND <| BK <| gw_loop1 <| SQ <| RG <| rw_lss Z Z Z <| ND <| SQ <| CT Z Z <| SK <| SQ <| BK <| SQ <| RG <| ?_
      have hi6 : 0 < [r].length := by omega
      obtain ⟨x7, hx7⟩ := get_of_lt hi6
      have hd7 := drop_cons hx7
      have hq8 := hA1.plain hx7
      refine rw_indexAddr (0) Z tyE_S_impl_Range Z Z Z (hA1.some hi6) hi6 <| rw_loadX_s [_, _] Z tyS_impl_Range Z Z (fun w hs => hq8.lds0 (n := 2) hs Z) <| AL Z tyZ_impl_Range <| fun b2 => ST (i := 0) [_, _] [_, _] tyS_impl_Range.sz Z Z Z Z Z Z Z Z <| ND <| SQ <| gw_draw' [dd 0, dd 1, dd 2, dd 3, dd 4, dd 5, dd 6, dd 7, dd 8, dd 9, dd 10] [11] mixed Z (FD Z) (ts := [_]) Z <| DT Z Z (fun K hk => FA Z tyF_impl_Range_0 Z hk) <| DT Z Z (fun K hk => LD (i := 1) Z tyP_int Z Z Z hk) <| ?_
      refine DT Z Z (fun K hk => FA Z tyF_impl_Range_0 Z hk) <| DT Z Z (fun K hk => LD (i := 0) Z tyP_int Z Z Z hk) <| DT Z Z (fun K hk => rw_max Z Z Z hk) <| DT Z Z (fun K hk => FA Z tyF_impl_Range_1 Z hk) <| DT Z Z (fun K hk => LD (i := 1) Z tyP_int Z Z Z hk) <| DT Z Z (fun K hk => FA Z tyF_impl_Range_1 Z hk) <| DT Z Z (fun K hk => LD (i := 0) Z tyP_int Z Z Z hk) <| DT Z Z (fun K hk => rw_min Z Z Z hk) <| DT Z Z (fun K hk => AS Z Z hk) <| ?_
      refine dw_nil <| AS Z Z <| ND <| SQ <| RG <| MV Z Z <| MV Z Z <| rw_lss Z Z Z <| ND <| ?_
      refine gw_cond Z (fun h2 => ?_) (fun h2 => ?_)
      · refine RG <| MV Z Z <| MV Z Z <| MV Z Z <| rw_build [_, _] Z tyB_impl_Range tyZ_impl_Range Z Z <| rw_slice (xs := [(0, _)]) [_, _] Z tyM_S_impl_Range Z Z Z Z <| fun b3 => rw_append1 (i := 0) (a := ⟨max x4.low x7.low, min x4.high x7.high⟩) Z tyM_S_impl_Range eRange Z Z Z hO ⟨Z, Z⟩ (.refl _) (by omega) <| fun v9 ch9 how9 => AS Z Z <| ND <| IB <| RG <| rw_add Z Z Z <| MV Z Z <| ND <| gw_again <| SQ <| RG <| rw_lss Z Z Z <| ND <| SQ <| CF Z Z <| EX Z <| IB <| RG <| rw_add Z Z Z <| ?_
        refine MV Z Z <| ND <| ?_
        refine gw_dropN 3 <| ?_
        refine gw_sub (Sub.consE (i := 24) Z (int_succ (by omega)) (Sub.consE (i := 5) Z Z (Sub.cons (i := 1) Z (Sub.cons (i := 4) Z (Sub.cons (i := 22) Z (Sub.cons (i := 23) Z (Sub.nil _))))))) (ih2 (i + 1, (o ++ [⟨max x4.low x7.low, min x4.high x7.high⟩]), v9, ch9) ?_ ?_)
        · refine ⟨by omega, by first | exact Nat.le_succ_of_le ho | (show (o ++ [_]).length ≤ i + 1; simp only [List.length_append, List.length_cons, List.length_nil]; omega), how9, ?_⟩
          have hz_ : x7 = r := by simpa using (hx7 : [r][0]? = some x7).symm
          rw [hI, hd4, comGo, ← hz_, show decide (max x4.low x7.low < min x4.high x7.high) = true from h2]; simp
        · show l.length - (i + 1) < l.length - i; omega
      refine SK <| IB <| RG <| rw_add Z Z Z <| MV Z Z <| ND <| gw_again <| SQ <| RG <| rw_lss Z Z Z <| ND <| SQ <| CF Z Z <| EX Z <| IB <| RG <| rw_add Z Z Z <| MV Z Z <| ND <| ?_
      refine gw_dropN 2 <| ?_
      refine gw_sub (Sub.consE (i := 24) Z (int_succ (by omega)) (Sub.consE (i := 5) Z Z (Sub.cons (i := 1) Z (Sub.cons (i := 4) Z (Sub.cons (i := 22) Z (Sub.cons (i := 23) Z (Sub.nil _))))))) (ih2 (i + 1, o, v, ch) ?_ ?_)
      · refine ⟨by omega, by first | exact Nat.le_succ_of_le ho | (show (o ++ [_]).length ≤ i + 1; simp only [List.length_append, List.length_cons, List.length_nil]; omega), hO, ?_⟩
        have hz_ : x7 = r := by simpa using (hx7 : [r][0]? = some x7).symm
        rw [hI, hd4, comGo, ← hz_, show decide (max x4.low x7.low < min x4.high x7.high) = false from h2]; simp
      · show l.length - (i + 1) < l.length - i; omega
    have hn10 := nil_of_dec h1
    refine EX Z <| SQ <| RG <| MV Z Z <| AS Z Z <| ND <| ?_
    refine ret_cn ch Try.func33 (res1 Try.func33 Z (rv_tmp Z)) ?_ ?_
    · rw [hI, hn10]; simp only [comGo, List.append_nil]; exact OwA.s hO
    · exact (List.sublist_append_left _ _).trans (List.sublist_append_right _ _)
end Go.Proofs.Ytbhnekiclbfmgaa
namespace Go.Proofs.Ytbhnekiclbfmgaa
open SL Go.RowKit
theorem impl_isInside {w : World} {cs : List Value} {x : Sender} (hv : RdSender w cs x) (p : Piece) : CV Try.prog 31 [.agg cs.toArray, .agg p.cells.toArray] w (.bool (!decide (p.offset < 0) && !decide (x.ring.fin < p.offset) && !decide (w64 (x.ring.fin - p.offset) < (p.data.size : Int)) && (!p.fin || w64 (p.offset + (p.data.size : Int)) == x.final))) := by
  obtain ⟨v0, v1, v2, v3, rfl, k0, k1, k2, k3⟩ := hv
  obtain ⟨A0, c0, rfl, hA0⟩ := k0
  obtain ⟨A1, c1, rfl, hA1⟩ := k1
  obtain ⟨A2, c2, rfl, hA2⟩ := k2
  obtain ⟨A3, c3, rfl, hA3⟩ := k3
  refine cv_of Try.func31 Z Z Z <| SQ <| RG <| BX [_, _, _, _, _, _, _, _, _, _, _, _] Z Z Z <| fun b1 => BX [_, _, _] Z Z Z <| fun b2 => AS Z Z <| ND <| SQ <| SQ <| RG <| FA Z tyF_impl_Piece_0 Z <| LD (i := 0) Z tyP_int Z Z Z <| rw_lss Z Z Z <| MV Z Z <| ?_
  refine rw_caseL (j := 8) Z (fun h1 => ?_) (fun h1 => ?_)
  · refine SKP Z <| PT Z Z Z Z <| MV Z Z <| SKP Z <| PT Z Z Z Z <| ND <| CT Z Z <| SQ <| RG <| AS Z Z <| ND <| RT Try.func31 Z Z <| ?_
    simp [h1]
  refine ON Z Z Z <| FA Z tyF_impl_Piece_0 Z <| ON Z Z Z <| LD (i := 0) Z tyP_int Z Z Z <| ON Z Z Z <| FA Z tyF_impl_Sender_1 Z <| ON Z Z Z <| FA Z tyF_impl_Ring_2 Z <| ON Z Z Z <| LD (i := 1) Z tyP_int Z Z Z <| ON Z Z Z <| rw_gtr Z Z Z <| PF Z Z Z Z <| MV Z Z <| ?_
  refine rw_caseL (j := 16) Z (fun h2 => ?_) (fun h2 => ?_)
  · refine SKP Z <| PT Z Z Z Z <| ND <| CT Z Z <| SQ <| RG <| AS Z Z <| ND <| RT Try.func31 Z Z <| ?_
    simp [h1, h2]
  refine ON Z Z Z <| FA Z tyF_impl_Piece_1 Z <| ON Z Z Z <| LD (i := 0) Z tyP_string Z Z Z <| ON Z Z Z <| rw_lenS Z (by kernel_rfl) Z <| ON Z Z Z <| FA Z tyF_impl_Sender_1 Z <| ON Z Z Z <| FA Z tyF_impl_Ring_2 Z <| ON Z Z Z <| LD (i := 1) Z tyP_int Z Z Z <| ON Z Z Z <| FA Z tyF_impl_Piece_0 Z <| ON Z Z Z <| LD (i := 0) Z tyP_int Z Z Z <| ON Z Z Z <| ?_
  refine rw_sub Z Z Z <| ON Z Z Z <| rw_gtr Z Z Z <| PF Z Z Z Z <| ND <| ?_
  refine gw_cond Z (fun h3 => ?_) (fun h3 => ?_)
  · refine SQ <| RG <| AS Z Z <| ND <| RT Try.func31 Z Z <| ?_
    simp [h1, h2, h3]
  refine SK <| SQ <| RG <| FA Z tyF_impl_Piece_2 Z <| LD (i := 0) Z tyP_bool Z Z Z <| NT Z Z <| MV Z Z <| ?_
  refine rw_caseN (j := 31) Z (fun h4 => ?_) (fun h4 => ?_)
  · refine SKP Z <| PT Z Z Z Z <| AS Z Z <| ND <| RT Try.func31 Z Z <| ?_
    simp [h1, h2, h3, h4]
  refine ON Z Z Z <| FA Z tyF_impl_Piece_0 Z <| ON Z Z Z <| LD (i := 0) Z tyP_int Z Z Z <| ON Z Z Z <| FA Z tyF_impl_Piece_1 Z <| ON Z Z Z <| LD (i := 0) Z tyP_string Z Z Z <| ON Z Z Z <| rw_lenS Z (by kernel_rfl) Z <| ON Z Z Z <| rw_add Z Z Z <| ON Z Z Z <| FA Z tyF_impl_Sender_5 Z <| ON Z Z Z <| LD (i := 1) Z tyP_int Z Z Z <| ON Z Z Z <| EQ1 Z Z Z <| ?_
  refine PF Z Z Z Z <| AS Z Z <| ND <| RT Try.func31 Z Z <| ?_
  simp [h1, h2, h3, h4]
end Go.Proofs.Ytbhnekiclbfmgaa
namespace Go.Proofs.Ytbhnekiclbfmgaa
open SL Go.RowKit
theorem impl_copyRing {w : World} {cs : List Value} {x : Ring} (hv : RdRing w cs x) (hb : x.le 1048576) : CN Try.prog 45 [.agg cs.toArray] w (OwV OwRing x) := by
  obtain ⟨v0, rfl, k0⟩ := hv
  obtain ⟨A0, c0, rfl, hA0⟩ := k0
  have hb0 : x.cells.length ≤ 1048576 := hb
  refine cn_of Try.func45 Z Z Z <| SQ <| RG <| BX [_, _, _, _] Z Z Z <| fun b1 => AL Z tyZ_impl_Ring <| fun b2 => ND <| SQ <| RG <| rw_slice0 Z tyM_S_int (PlO intC) <| fun v1 how1 => FA Z tyF_impl_Ring_3 Z <| LD (i := 1) Z tyP_S_int Z Z Z <| rw_appendP Z tyM_S_int eInt (fun _ => Z) Z Z how1 (fun w hs => hA0.sat Pl.keeps hs) (.refl _) (by first | omega | (simp; omega)) <| fun v2 ch2 how2 => ?_
  obtain ⟨R3, rc3, rfl, hR3, hrd3⟩ := (OwA.s (l := x.cells) how2).shape eInt
  refine FA Z tyF_impl_Ring_3 Z <| ST (i := 1) [_] [_, _, _, _] tyP_S_int.sz Z Z Z Z Z Z Z Z <| ND <| SQ <| RG <| LS (i := 1) [_, _, _, _] Z tyS_impl_Ring Z Z Z Z <| ST (i := 0) [_, _, _, _] [_, _, _, _] tyS_impl_Ring.sz Z Z Z Z Z Z Z Z <| ND <| ?_
  refine ret_cnP (ch := ch2) (G := ch2 ++ ([])) (F' := []) Try.func45 (res1 Try.func45 Z (rv_s (i := 0) [_, _, _, _] tyS_impl_Ring Z Z Z Z)) ?_ ?_ ?_
  · exact ⟨_, rfl, _, _, rfl, (OwA.s (l := x.cells) how2), rfl⟩
  · exact (pg PR PR)
  · simp only []

theorem impl_DropRing {w : World} {cs : List Value} {x : Ring} (hv : RdRing w cs x) (hb : x.le 1048576) {to_ : Int} (hr_ : isRing x = true) (hw_ : within to_ x.base x.fin = true) : CN Try.prog 66 [.agg cs.toArray, .int .i64 to_] w (fun v ch => ∃ cs', v = .tuple #[.agg cs'.toArray, .bool true] ∧ OwRing cs' { x with base := to_, cells := zeroed x.size (to_ - x.base).toNat x.base x.cells } ch) := by
  obtain ⟨v0, rfl, k0⟩ := hv
  obtain ⟨A0, c0, rfl, hA0⟩ := k0
  have hb0 : x.cells.length ≤ 1048576 := hb
  have hq_ : x.base ≤ to_ ∧ to_ ≤ x.fin := by simpa [within] using hw_
  have hbt_ := hq_.1
  have hto_ : to_ ≤ 4611686018427387903 := by have := (isRing_end hr_).2.2; unfold maxQuic at this; omega
  refine cn_of Try.func66 Z Z Z <| SQ <| RG <| BX [_, _, _, _] Z Z Z <| fun b1 => AL Z tyZ_impl_Ring <| fun b2 => AS Z Z <| ND <| SQ <| RG <| LS (i := 1) [_, _, _, _] Z tyS_impl_Ring Z Z Z Z <| CN1 Z fun_impl_copyRing Z (fun w hs => impl_copyRing ⟨_, Z, (hA0.s Pl.keeps hs)⟩ (show _ ≤ _ from hb0)) <| fun vv1 ch1 how1 => ?_
  obtain ⟨cs1, rfl, v1_0, c1_0, rfl, h1_0, rfl⟩ := how1
  obtain ⟨R1_0, b1_0, rfl, hR1_0, hrd1_0⟩ := h1_0.shape eInt
  refine AL Z tyZ_impl_Ring <| fun b3 => ST (i := 0) [_, _, _, _] [_, _, _, _] tyS_impl_Ring.sz Z Z Z Z Z Z Z Z <| ND <| SQ <| SQ <| RG <| LS (i := 2) [_, _, _, _] Z tyS_impl_Ring Z Z Z Z <| CV1 Z fun_impl_IsRing Z (fun w hs => impl_IsRing ⟨_, Z, (hA0.s Pl.keeps hs)⟩ (show _ ≤ _ from hb0)) <| NT Z Z <| MV Z Z <| rw_lit (j := 13) Z (not_T hr_) <| ON Z Z Z <| MV Z Z <| ON Z Z Z <| FA Z tyF_impl_Ring_1 Z <| ON Z Z Z <| LD (i := 2) Z tyP_int Z Z Z <| ?_
  refine ON Z Z Z <| FA Z tyF_impl_Ring_2 Z <| ON Z Z Z <| LD (i := 2) Z tyP_int Z Z Z <| ON Z Z Z <| CV1 Z fun_impl_within Z (fun w hs => impl_within _ _ _ w) <| ON Z Z Z <| NT Z Z <| PF Z Z Z Z <| ND <| CF Z (not_T hw_) <| SK <| SQ <| SQ <| RG <| FA Z tyF_impl_Ring_1 Z <| LD (i := 2) Z tyP_int Z Z Z <| AS Z Z <| ND <| BK <| ?_
  refine gw_loopX (α := Int × List Int × List Ck) (fun z_ => 0 ≤ z_.1 ∧ z_.2.1.length = x.cells.length ∧ zeroed x.size (to_ - x.base).toNat x.base x.cells = zeroed x.size (to_ - z_.1).toNat z_.1 z_.2.1 ∧ z_.1 ≤ to_ ∧ OwS 3 1 (PlO intC) (.slice R1_0 x.cells.length b1_0) z_.2.1 z_.2.2) (fun z_ => (to_ - z_.1).toNat) (fun e z_ => (7, .int .i64 z_.1) :: e) (fun B _ => B) (fun F z_ => z_.2.2 ++ ([])) (x.base, x.cells, ch1) [(1, _), (2, _), (4, _), (5, _), (6, _)] (Sub.consE Z Z (Sub.cons (i := 1) Z (Sub.cons (i := 2) Z (Sub.cons (i := 4) Z (Sub.cons (i := 5) Z (Sub.cons (i := 6) Z (Sub.nil _))))))) Z Z ?_ ?_
  · exact ⟨(isRing_end hr_).1, rfl, rfl, hbt_, h1_0⟩
  · rintro ⟨a_, L, ch⟩ hI2 ih2
    dsimp only at hI2
    dsimp only
    obtain ⟨ha_, hL, hZ, hat_, hO⟩ := hI2
    obtain ⟨k_, hk_, hkl_⟩ := place (ring_size hr_).1.1 (ring_size hr_).2 ha_
    refine SQ <| SQ <| RG <| MV Z Z <| MV Z Z <| rw_lss Z Z Z <| ND <| ?_
    refine gw_cond Z (fun h1 => ?_) (fun h1 => ?_)
    · refine SK <| SQ <| BK <| gw_draw' [dd 0, dd 1, dd 2, dd 3, dd 4, dd 5] [6, 7] mixed Z (FD Z) (ts := [_, _]) Z <| DT Z Z (fun K hk => FA Z tyF_impl_Ring_3 Z hk) <| DT Z Z (fun K hk => LD (i := 0) Z tyP_S_int Z Z Z hk) <| DM Z Z Z <| DT Z Z (fun K hk => FA Z tyF_impl_Ring_0 Z hk) <| DT Z Z (fun K hk => LD (i := 2) Z tyP_int Z Z Z hk) <| DT Z Z (fun K hk => rw_rem Z Z Z (by have := (ring_size hr_).1; omega) hk) <| ?_
      refine dw_nil <| rw_indexAddr (k_) Z tyE_S_int Z Z hk_ (hR1_0 (Nat.zero_lt_of_lt hkl_)) hkl_ <| rw_storeOw (F' := []) tyP_int.sz hO (by rw [hL]; exact hkl_) Z Z ((pg PR PR)) <| fun ch3 how3 => ND <| IB <| RG <| MV Z Z <| rw_add Z Z Z <| AS Z Z <| ND <| ?_
      refine gw_sub (Sub.consE (i := 7) Z Z (Sub.cons (i := 1) Z (Sub.cons (i := 2) Z (Sub.cons (i := 4) Z (Sub.cons (i := 5) Z (Sub.cons (i := 6) Z (Sub.nil _))))))) (ih2 (w64 (a_ + 1), (L.set k_ 0), ch3) ?_ ?_)
      · have hlt_ := of_decide_eq_true h1
        exact ⟨dr_step ha_ hto_ hlt_, by rw [List.length_set]; exact hL, zeroed_step ha_ hto_ hlt_ hk_ hZ, by rw [w64_id (n := a_ + 1) (by omega) (by omega)]; omega, how3⟩
      · have hlt_ := of_decide_eq_true h1
        exact dr_meas ha_ hto_ hlt_
    refine EX Z <| SQ <| RG <| MV Z Z <| FA Z tyF_impl_Ring_1 Z <| ST (i := 0) [_] [_, _, _, _] tyP_int.sz Z Z Z Z Z Z Z Z <| ND <| SQ <| RG <| LS (i := 0) [_, _, _, _] Z tyS_impl_Ring Z Z Z Z <| ST (i := 1) [_, _, _, _] [_, _, _, _] tyS_impl_Ring.sz Z Z Z Z Z Z Z Z <| AS Z Z <| ND <| ?_
    refine ret_cn ch Try.func66 (res2 Try.func66 Z (rv_s (i := 1) [_, _, _, _] tyS_impl_Ring Z Z Z Z) (rv_tmp Z)) ?_ ?_
    · refine ⟨_, Z, ⟨_, _, Z, ?_, Z⟩⟩
      have e_ : a_ = to_ := by have := of_decide_eq_false h1; omega
      rw [show zeroed x.size (to_ - x.base).toNat x.base x.cells = L from by rw [hZ, e_, Int.sub_self]; rfl]
      exact hO
    · exact (List.sublist_append_left _ _).trans (List.sublist_append_right _ _)
end Go.Proofs.Ytbhnekiclbfmgaa
namespace Go.Proofs.Ytbhnekiclbfmgaa
open SL Go.RowKit
set_option maxHeartbeats 4000000 in
theorem impl_copySender {w : World} {cs : List Value} {x : Sender} (hv : RdSender w cs x) (hb : x.le 1048576) : CN Try.prog 19 [.agg cs.toArray] w (OwV OwSender x) := by
  obtain ⟨v0, v1, v2, v3, rfl, k0, k1, k2, k3⟩ := hv
  obtain ⟨A0, c0, rfl, hA0⟩ := k0
  obtain ⟨A1, c1, rfl, hA1⟩ := k1
  obtain ⟨A2, c2, rfl, hA2⟩ := k2
  obtain ⟨A3, c3, rfl, hA3⟩ := k3
  obtain ⟨hb0, hb1, hb2, hb3⟩ := hb
  refine cn_of Try.func19 Z Z Z <| SQ <| RG <| BX [_, _, _, _, _, _, _, _, _, _, _, _] Z Z Z <| fun b1 => AL Z tyZ_impl_Sender <| fun b2 => ND <| SQ <| RG <| FA Z tyF_impl_Sender_1 Z <| LS (i := 1) [_, _, _, _] Z tyS_impl_Ring Z Z Z Z <| CN1 Z fun_impl_copyRing Z (fun w hs => impl_copyRing ⟨_, Z, (hA0.s Pl.keeps hs)⟩ (show _ ≤ _ from hb0)) <| fun vv1 ch1 how1 => ?_
  obtain ⟨cs1, rfl, v1_0, c1_0, rfl, h1_0, rfl⟩ := how1
  obtain ⟨R1_0, b1_0, rfl, hR1_0, hrd1_0⟩ := h1_0.shape eInt
  refine FA Z tyF_impl_Sender_1 Z <| rw_storeN (i := 1) [_, _, _, _] [_, _, _, _, _, _, _, _, _, _, _, _] [_, _] tyS_impl_Ring.sz Z Z Z Z Z Z Z Z Z <| ND <| SQ <| gw_draw' [dd 0, dd 1, dd 3, dd 4, dd 6, dd 7, (2, .add), dd 9, (5, .add), (8, .add)] [10, 11, 12, 13, 14] mixed Z (FD Z) (ts := [_, _, _, _, _]) Z <| DT Z Z (fun K hk => FA Z tyF_impl_Sender_2 Z hk) <| DT Z Z (fun K hk => LD (i := 1) Z tyP_S_impl_Range Z Z Z hk) <| DT Z Z (fun K hk => FA Z tyF_impl_Sender_3 Z hk) <| ?_
  refine DT Z Z (fun K hk => LD (i := 1) Z tyP_S_impl_Range Z Z Z hk) <| DT Z Z (fun K hk => FA Z tyF_impl_Sender_4 Z hk) <| DT Z Z (fun K hk => LD (i := 1) Z tyP_S_impl_Range Z Z Z hk) <| DA Z Z (fun K hk => CN1 Z fun_impl_copyRanges Z (fun w hs => impl_copyRanges (hA1.s Pl.keeps hs) (by omega)) hk) <| fun v2 ch2 how2 => ?_
  obtain ⟨R3, rc3, rfl, hR3, hrd3⟩ := (OwA.s (l := x.pending) how2).shape eRange
  refine DT Z Z (fun K hk => FA Z tyF_impl_Sender_2 Z hk) <| DA Z Z (fun K hk => CN1 Z fun_impl_copyRanges Z (fun w hs => impl_copyRanges (hA2.s Pl.keeps hs) (by omega)) hk) <| fun v4 ch4 how4 => ?_
  obtain ⟨R5, rc5, rfl, hR5, hrd5⟩ := (OwA.s (l := x.flight) how4).shape eRange
  refine DA Z Z (fun K hk => CN1 Z fun_impl_copyRanges Z (fun w hs => impl_copyRanges (hA3.s Pl.keeps hs) (by omega)) hk) <| fun v6 ch6 how6 => ?_
  obtain ⟨R7, rc7, rfl, hR7, hrd7⟩ := (OwA.s (l := x.acked) how6).shape eRange
  refine dw_nil <| rw_storeN (i := 1) [_] [_, _, _, _, _, _, _, _, _, _, _, _] [_, _] tyP_S_impl_Range.sz Z Z Z Z Z Z Z Z Z <| FA Z tyF_impl_Sender_3 Z <| rw_storeN (i := 1) [_] [_, _, _, _, _, _, _, _, _, _, _, _] [_, _] tyP_S_impl_Range.sz Z Z Z Z Z Z Z Z Z <| FA Z tyF_impl_Sender_4 Z <| rw_storeN (i := 1) [_] [_, _, _, _, _, _, _, _, _, _, _, _] [_, _] tyP_S_impl_Range.sz Z Z Z Z Z Z Z Z Z <| ND <| SQ <| RG <| LS (i := 1) [_, _, _, _, _, _, _, _, _, _, _, _] Z tyS_impl_Sender Z Z Z Z <| ?_
  refine rw_storeN (i := 0) [_, _, _, _, _, _, _, _, _, _, _, _] [_, _, _, _, _, _, _, _, _, _, _, _] [_, _] tyS_impl_Sender.sz Z Z Z Z Z Z Z Z Z <| ND <| ?_
  refine ret_cnP (ch := ch1 ++ (ch2 ++ (ch4 ++ (ch6)))) (G := ch1 ++ (ch2 ++ (ch4 ++ (ch6 ++ ([]))))) (F' := []) Try.func19 (res1 Try.func19 Z (rv_s (i := 0) [_, _, _, _, _, _, _, _, _, _, _, _] tyS_impl_Sender Z Z Z Z)) ?_ ?_ ?_
  · exact ⟨_, rfl, _, _, _, _, _, _, _, _, rfl, h1_0, (OwA.s (l := x.pending) how2), (OwA.s (l := x.flight) how4), (OwA.s (l := x.acked) how6), rfl⟩
  · exact (pg (pp (pp (pp PR))) (pg (pp (pp PR)) (pg (pp PR) (pg PR PR))))
  · simp only [List.append_assoc]

theorem impl_isActive {w : World} {cs : List Value} {x : Sender} (hv : RdSender w cs x) (hb : x.le 1048576) : CV Try.prog 28 [.agg cs.toArray] w (.bool (isActive x)) := by
  obtain ⟨v0, v1, v2, v3, rfl, k0, k1, k2, k3⟩ := hv
  obtain ⟨A0, c0, rfl, hA0⟩ := k0
  obtain ⟨A1, c1, rfl, hA1⟩ := k1
  obtain ⟨A2, c2, rfl, hA2⟩ := k2
  obtain ⟨A3, c3, rfl, hA3⟩ := k3
  obtain ⟨hb0, hb1, hb2, hb3⟩ := hb
  refine cv_of Try.func28 Z Z Z <| SQ <| RG <| BX [_, _, _, _, _, _, _, _, _, _, _, _] Z Z Z <| fun b1 => AS Z Z <| ND <| SQ <| RG <| LS (i := 0) [_, _, _, _, _, _, _, _, _, _, _, _] Z tyS_impl_Sender Z Z Z Z <| CV1 Z fun_impl_IsSender Z (fun w hs => impl_IsSender ⟨_, _, _, _, Z, (hA0.s Pl.keeps hs), (hA1.s Pl.keeps hs), (hA2.s Pl.keeps hs), (hA3.s Pl.keeps hs)⟩ ⟨hb0, hb1, hb2, hb3⟩) <| MV Z Z <| ?_
  refine rw_caseL (j := 5) Z (fun h1 => ?_) (fun h1 => ?_)
  · refine ON Z Z Z <| FA Z tyF_impl_Sender_0 Z <| ON Z Z Z <| LD (i := 0) Z tyP_int Z Z Z <| ON Z Z Z <| CV1 Z fun_impl_within Z (fun w hs => impl_within _ _ _ w) <| PT Z Z Z Z <| AS Z Z <| ND <| RT Try.func28 Z Z <| ?_
    simp [isActive, h1]
  refine SKP Z <| PF Z Z Z Z <| AS Z Z <| ND <| RT Try.func28 Z Z <| ?_
  simp [isActive, h1]

theorem slices_Equal_Range {w : World} {v : Value} {l : List Range} (hv : RdS w 2 (Pl Range.cells) v l) (hb : l.length ≤ 1048576) {v1 : Value} {l1 : List Range} (hv1 : RdS w 2 (Pl Range.cells) v1 l1) : CV Try.prog 65 [v, v1] w (.bool (eqL Range.cells l l1)) := by
  obtain ⟨A, c, rfl, hA⟩ := hv
  obtain ⟨A1, c1, rfl, hA1⟩ := hv1
  refine cv_of Try.func65 Z Z Z <| SQ <| RG <| AS Z Z <| ND <| SQ <| SQ <| RG <| MV Z Z <| rw_len Z tyE_S_impl_Range Z <| MV Z Z <| rw_len Z tyE_S_impl_Range Z <| rw_neq Z Z Z <| ND <| ?_
  refine gw_condN Z (fun h1 => ?_) (fun h1 => ?_)
  · have hlne1 := len_ne_of h1
    refine SQ <| RG <| AS Z Z <| ND <| RT Try.func65 Z Z <| ?_
    simp [eqL_len _ _ _ hlne1]
  have hlen2 := len_eq_of h1
  refine SK <| SQ <| SQ <| RG <| MV Z Z <| rw_len Z tyE_S_impl_Range Z <| MV Z Z <| ND <| BK <| ?_
  refine gw_loopC (α := Nat) (fun z_ => z_ ≤ l.length ∧ eqL Range.cells l l1 = eqL Range.cells (l.drop z_) (l1.drop z_)) (fun z_ => l.length - z_) (fun e z_ => (13, .int .i64 (z_ : Int)) :: e) 0 [(0, _), (1, _), (12, _)] (Sub.consE Z Z (Sub.cons (i := 0) Z (Sub.cons (i := 1) Z (Sub.cons (i := 12) Z (Sub.nil _))))) ?_ ?_
  · exact ⟨Nat.zero_le _, by simp [List.drop_zero]⟩
  · rintro i hI3 ih3
    try dsimp only
    obtain ⟨hle, hI⟩ := hI3
    refine SQ <| RG <| rw_lss Z Z Z <| ND <| SQ <| ?_
    refine gw_cond Z (fun h2 => ?_) (fun h2 => ?_)
    · have hi4 := lt_of_dec h2
      obtain ⟨x5, hx5⟩ := get_of_lt hi4
      have hd5 := drop_cons hx5
      refine SK <| SQ <| BK <| SQ <| RG <| MV Z Z <| AS Z Z <| ND <| SQ <| gw_draw' [dd 0, dd 1, dd 2, dd 3, dd 4, dd 5, dd 6, dd 7] [8] mixed Z (FD Z) (ts := [_]) Z <| DM Z Z Z <| DM Z Z Z <| ?_
      have hq6 := hA.plain hx5
      refine DT Z Z (fun K hk => rw_indexAddr (i) Z tyE_S_impl_Range Z Z Z (hA.some hi4) hi4 hk) <| DT Z Z (fun K hk => rw_loadX_s [_, _] Z tyS_impl_Range Z Z (fun w hs => hq6.lds0 (n := 2) hs Z) hk) <| DM Z Z Z <| DM Z Z Z <| ?_
      have hi7 : i < l1.length := by omega
      obtain ⟨x8, hx8⟩ := get_of_lt hi7
      have hd8 := drop_cons hx8
      have hq9 := hA1.plain hx8
      refine DT Z Z (fun K hk => rw_indexAddr (i) Z tyE_S_impl_Range Z Z Z (hA1.some hi7) hi7 hk) <| DT Z Z (fun K hk => rw_loadX_s [_, _] Z tyS_impl_Range Z Z (fun w hs => hq9.lds0 (n := 2) hs Z) hk) <| dw_nil <| rw_neqQ Z tyQ_impl_Range Z Z Z Z <| ND <| ?_
      refine gw_condN Z (fun h3 => ?_) (fun h3 => ?_)
      · refine SQ <| RG <| AS Z Z <| ND <| RT Try.func65 Z Z <| ?_
        rw [hI, hd5, hd8]; simp [eqL, show eqC (Range.cells x5) (Range.cells x8) = false from h3]
      refine SK <| IB <| RG <| rw_add Z Z Z <| MV Z Z <| ND <| ?_
      refine gw_sub (Sub.consE (i := 13) Z (int_succ (by omega)) (Sub.cons (i := 0) Z (Sub.cons (i := 1) Z (Sub.cons (i := 12) Z (Sub.nil _))))) (ih3 (i + 1) ?_ ?_)
      · exact ⟨by omega, by rw [hI, hd5, hd8]; simp [eqL, show eqC (Range.cells x5) (Range.cells x8) = true from h3]⟩
      · show l.length - (i + 1) < l.length - i; omega
    have hn10 := nil_of_dec h2
    refine EX Z <| SQ <| RG <| AS Z Z <| ND <| RT Try.func65 Z Z <| ?_
    rw [hI, hn10, drop_nil_of hlen2 hn10]; rfl

theorem impl_EqualRanges {w : World} {v : Value} {l : List Range} (hv : RdS w 2 (Pl Range.cells) v l) (hb : l.length ≤ 1048576) {v1 : Value} {l1 : List Range} (hv1 : RdS w 2 (Pl Range.cells) v1 l1) : CV Try.prog 32 [v, v1] w (.bool (eqL Range.cells l l1)) := by
  obtain ⟨A, c, rfl, hA⟩ := hv
  obtain ⟨A1, c1, rfl, hA1⟩ := hv1
  refine cv_of Try.func32 Z Z Z <| SQ <| RG <| AS Z Z <| ND <| SQ <| RG <| MV Z Z <| MV Z Z <| CV1 Z fun_slices_Equal_S_impl_Range_impl_Range Z (fun w hs => slices_Equal_Range (hA.s Pl.keeps hs) (by omega) (hA1.s Pl.keeps hs) ) <| AS Z Z <| ND <| RT Try.func32 Z Z <| ?_
  rfl

set_option maxHeartbeats 4000000 in
set_option maxRecDepth 20000 in
theorem impl_SendPiece {w : World} {cs : List Value} {x : Sender} (hv : RdSender w cs x) {W : Nat} {txt : List UInt8} (hV : VS W x) (h3 : x.state ≠ 3) (ht : txt.length = W) {p : Piece} (hn : NextOk W txt x p) : CN Try.prog 13 [.agg cs.toArray, .agg p.cells.toArray] w (fun v ch => ∃ cs', v = .tuple #[.agg cs'.toArray, .bool true] ∧ OwSender cs' (sendP x p) ch) := by
  have hb := hV.toVC.le
  obtain ⟨v0, v1, v2, v3, rfl, k0, k1, k2, k3⟩ := hv
  obtain ⟨A0, c0, rfl, hA0⟩ := k0
  obtain ⟨A1, c1, rfl, hA1⟩ := k1
  obtain ⟨A2, c2, rfl, hA2⟩ := k2
  obtain ⟨A3, c3, rfl, hA3⟩ := k3
  obtain ⟨hb0, hb1, hb2, hb3⟩ := hb
  have hW_ := hV.hW
  obtain ⟨hlp_, hlf_, hla_⟩ := hV.toVC.lens
  have hl1_ : [rgOf p].length = 1 := rfl
  refine cn_of Try.func13 Z Z Z <| SQ <| RG <| BX [_, _, _, _, _, _, _, _, _, _, _, _] Z Z Z <| fun b1 => BX [_, _, _] Z Z Z <| fun b2 => AL Z tyZ_impl_Sender <| fun b3 => AS Z Z <| ND <| SQ <| RG <| LS (i := 2) [_, _, _, _, _, _, _, _, _, _, _, _] Z tyS_impl_Sender Z Z Z Z <| CN1 Z fun_impl_copySender Z (fun w hs => impl_copySender ⟨_, _, _, _, Z, (hA0.s Pl.keeps hs), (hA1.s Pl.keeps hs), (hA2.s Pl.keeps hs), (hA3.s Pl.keeps hs)⟩ ⟨hb0, hb1, hb2, hb3⟩) <| fun vv1 ch1 how1 => ?_
  obtain ⟨cs1, rfl, v1_0, v1_1, v1_2, v1_3, c1_0, c1_1, c1_2, c1_3, rfl, h1_0, h1_1, h1_2, h1_3, rfl⟩ := how1
  refine rw_F (F' := c1_0 ++ (c1_1 ++ (c1_2 ++ (c1_3 ++ ([]))))) (by simp only [aA]) <| ?_
  obtain ⟨R1_0, b1_0, rfl, hR1_0, hrd1_0⟩ := h1_0.shape eInt
  obtain ⟨R1_1, b1_1, rfl, hR1_1, hrd1_1⟩ := h1_1.shape eRange
  obtain ⟨R1_2, b1_2, rfl, hR1_2, hrd1_2⟩ := h1_2.shape eRange
  obtain ⟨R1_3, b1_3, rfl, hR1_3, hrd1_3⟩ := h1_3.shape eRange
  refine AL Z tyZ_impl_Sender <| fun b4 => rw_storeN (i := 0) [_, _, _, _, _, _, _, _, _, _, _, _] [_, _, _, _, _, _, _, _, _, _, _, _] [_, _, _, _] tyS_impl_Sender.sz Z Z Z Z Z Z Z Z Z <| ND <| SQ <| SQ <| RG <| LS (i := 3) [_, _, _, _, _, _, _, _, _, _, _, _] Z tyS_impl_Sender Z Z Z Z <| CV1 Z fun_impl_isActive Z (fun w hs => impl_isActive ⟨_, _, _, _, Z, (hA0.s Pl.keeps hs), (hA1.s Pl.keeps hs), (hA2.s Pl.keeps hs), (hA3.s Pl.keeps hs)⟩ ⟨hb0, hb1, hb2, hb3⟩) <| NT Z Z <| MV Z Z <| rw_lit (j := 13) Z (not_T (hV.isActive h3)) <| ?_
  refine ON Z Z Z <| LS (i := 3) [_, _, _, _, _, _, _, _, _, _, _, _] Z tyS_impl_Sender Z Z Z Z <| ON Z Z Z <| LS (i := 2) [_, _, _] Z tyS_impl_Piece Z Z Z Z <| ON Z Z Z <| CV1 Z fun_impl_isInside Z (fun w hs => impl_isInside ⟨_, _, _, _, Z, (hA0.s Pl.keeps hs), (hA1.s Pl.keeps hs), (hA2.s Pl.keeps hs), (hA3.s Pl.keeps hs)⟩ _) <| ON Z Z Z <| NT Z Z <| PF Z Z Z Z <| MV Z Z <| rw_lit (j := 19) Z (not_T (hn.ok.inside hV.toVC ht)) <| ON Z Z Z <| ?_
  refine FA Z tyF_impl_Piece_2 Z <| ON Z Z Z <| LD (i := 2) Z tyP_bool Z Z Z <| ON Z Z Z <| MV Z Z <| ?_
  refine rw_caseL (j := 22) Z (fun h1 => ?_) (fun h1 => ?_)
  · refine ON Z Z Z <| FA Z tyF_impl_Sender_6 Z <| ON Z Z Z <| LD (i := 3) Z tyP_int Z Z Z <| ON Z Z Z <| rw_neq Z Z Z <| ON Z Z Z <| PT Z Z Z Z <| PF Z Z Z Z <| MV Z Z <| rw_lit (j := 28) Z (by rw [hn.fin h1]; rfl) <| ON Z Z Z <| FA Z tyF_impl_Piece_1 Z <| ON Z Z Z <| LD (i := 2) Z tyP_string Z Z Z <| ON Z Z Z <| rw_eqlS Z Z Z <| ON Z Z Z <| MV Z Z <| ?_
    refine rw_caseL (j := 32) Z (fun h2 => ?_) (fun h2 => ?_)
    · have hz_ := str_size h2
      refine ON Z Z Z <| FA Z tyF_impl_Piece_2 Z <| ON Z Z Z <| LD (i := 2) Z tyP_bool Z Z Z <| ON Z Z Z <| NT Z Z <| ON Z Z Z <| PT Z Z Z Z <| PF Z Z Z Z <| ND <| CF Z (not_T h1) <| SK <| SQ <| SQ <| RG <| FA Z tyF_impl_Piece_1 Z <| LD (i := 2) Z tyP_string Z Z Z <| rw_neqS Z Z Z <| ND <| CF Z (not_T h2) <| SK <| SQ <| SQ <| RG <| FA Z tyF_impl_Piece_2 Z <| LD (i := 2) Z tyP_bool Z Z Z <| ?_
      refine ND <| CT Z h1 <| RG <| FA Z tyF_impl_Sender_6 Z <| rw_storeN (i := 0) [_] [_, _, _, _, _, _, _, _, _, _, _, _] [_, _, _, _] tyP_int.sz Z Z Z Z Z Z Z Z Z <| ND <| SQ <| RG <| LS (i := 0) [_, _, _, _, _, _, _, _, _, _, _, _] Z tyS_impl_Sender Z Z Z Z <| CV1 Z fun_impl_following Z (fun w hs => impl_following (rdSender_mk ⟨_, _, Z, hrd1_0 _ (fun c hc => hs.at_ c (MR (ML hc)))⟩ ⟨_, _, Z, hrd1_1 _ (fun c hc => hs.at_ c (MR (MR (ML hc))))⟩ ⟨_, _, Z, hrd1_2 _ (fun c hc => hs.at_ c (MR (MR (MR (ML hc)))))⟩ ⟨_, _, Z, hrd1_3 _ (fun c hc => hs.at_ c (MR (MR (MR (MR (ML hc))))))⟩)) <| ?_
      refine FA Z tyF_impl_Sender_0 Z <| rw_storeN (i := 0) [_] [_, _, _, _, _, _, _, _, _, _, _, _] [_, _, _, _] tyP_int.sz Z Z Z Z Z Z Z Z Z <| ND <| SQ <| RG <| LS (i := 0) [_, _, _, _, _, _, _, _, _, _, _, _] Z tyS_impl_Sender Z Z Z Z <| rw_storeN (i := 1) [_, _, _, _, _, _, _, _, _, _, _, _] [_, _, _, _, _, _, _, _, _, _, _, _] [_, _, _, _] tyS_impl_Sender.sz Z Z Z Z Z Z Z Z Z <| AS Z Z <| ND <| ?_
      refine gw_FP (pg PR (pg PR (pg PR (pg PR PR)))) (gw_F (F' := (c1_0 ++ (c1_1 ++ (c1_2 ++ (c1_3)))) ++ ([])) (by simp only [aN]) ?_)
      refine ret_cn (c1_0 ++ (c1_1 ++ (c1_2 ++ (c1_3)))) Try.func13 (res2 Try.func13 Z (rv_s (i := 1) [_, _, _, _, _, _, _, _, _, _, _, _] tyS_impl_Sender Z Z Z Z) (rv_tmp Z)) ?_ ?_
      · refine ⟨_, Z, ?_⟩
        rw [sendP_eq hW_ ht hn h1 (show (p.data.size == 0) = true by simp [hz_])]
        exact owSender_mk h1_0 h1_1 h1_2 h1_3
      · exact (List.sublist_append_left _ _).trans (List.sublist_append_right _ _)
    have hz_ := str_size' h2
    obtain ⟨hrr_, hcm_, heq_⟩ := send_facts hV ht hn hz_
    refine SKP Z <| ON Z Z Z <| PF Z Z Z Z <| PF Z Z Z Z <| ND <| CF Z Z <| SK <| SQ <| SQ <| RG <| FA Z tyF_impl_Piece_1 Z <| LD (i := 2) Z tyP_string Z Z Z <| rw_neqS Z Z Z <| ND <| CT Z (not_F h2) <| SQ <| RG <| FA Z tyF_impl_Piece_0 Z <| LD (i := 2) Z tyP_int Z Z Z <| FA Z tyF_impl_Piece_0 Z <| LD (i := 2) Z tyP_int Z Z Z <| FA Z tyF_impl_Piece_1 Z <| LD (i := 2) Z tyP_string Z Z Z <| ?_
    refine rw_lenS Z (by kernel_rfl) Z <| rw_add Z Z Z <| rw_build [_, _] Z tyB_impl_Range tyZ_impl_Range Z Z <| AL Z tyZ_impl_Range <| fun b5 => ST (i := 0) [_, _] [_, _] tyS_impl_Range.sz Z Z Z Z Z Z Z Z <| ND <| SQ <| SQ <| ?_
    refine gw_key 59 (.bool false) [(2, _), (3, _), (4, _), (5, _), (6, _), (7, _)] (Sub.cons (i := 2) Z (Sub.cons (i := 3) Z (Sub.cons (i := 4) Z (Sub.cons (i := 5) Z (Sub.cons (i := 6) Z (Sub.cons (i := 7) Z (Sub.nil _))))))) ?_ ?_
    · refine CF Z Z <| SK <| SQ <| gw_draw' [dd 0, dd 1, dd 2, dd 4, dd 5, dd 6, (3, .add), dd 8, (7, .add)] [9, 10, 11] mixed Z (FD Z) (ts := [_, _, _]) Z <| DT Z Z (fun K hk => FA Z tyF_impl_Sender_2 Z hk) <| DT Z Z (fun K hk => LD (i := 4) Z tyP_S_impl_Range Z Z Z hk) <| DT Z Z (fun K hk => LS (i := 0) [_, _] Z tyS_impl_Range Z Z Z Z hk) <| DT Z Z (fun K hk => FA Z tyF_impl_Sender_3 Z hk) <| DT Z Z (fun K hk => LD (i := 4) Z tyP_S_impl_Range Z Z Z hk) <| ?_
      refine DT Z Z (fun K hk => LS (i := 0) [_, _] Z tyS_impl_Range Z Z Z Z hk) <| DA Z Z (fun K hk => CN1 Z fun_impl_RemoveRange Z (fun w hs => impl_RemoveRange (hA1.s Pl.keeps hs) (by omega) (rgOf p)) hk) <| fun v2 ch2 how2 => ?_
      obtain ⟨R2, rc2, rfl, hR2, hrd2⟩ := how2.shape eRange
      refine DT Z Z (fun K hk => FA Z tyF_impl_Sender_2 Z hk) <| DA Z Z (fun K hk => CN1 Z fun_impl_AddRange Z (fun w hs => impl_AddRange (hA2.s Pl.keeps hs) (by omega) (rgOf p)) hk) <| fun v3 ch3 how3 => ?_
      obtain ⟨R3, rc3, rfl, hR3, hrd3⟩ := how3.shape eRange
      refine dw_nil <| rw_storeN (i := 1) [_] [_, _, _, _, _, _, _, _, _, _, _, _] [_, _, _, _, _] tyP_S_impl_Range.sz Z Z Z Z Z Z Z Z Z <| FA Z tyF_impl_Sender_3 Z <| rw_storeN (i := 1) [_] [_, _, _, _, _, _, _, _, _, _, _, _] [_, _, _, _, _] tyP_S_impl_Range.sz Z Z Z Z Z Z Z Z Z <| ND <| RG <| FA Z tyF_impl_Sender_7 Z <| LD (i := 4) Z tyP_int Z Z Z <| FA Z tyF_impl_Range_1 Z <| LD (i := 0) Z tyP_int Z Z Z <| rw_max Z Z Z <| FA Z tyF_impl_Sender_7 Z <| ?_
      refine rw_storeN (i := 1) [_] [_, _, _, _, _, _, _, _, _, _, _, _] [_, _, _, _, _] tyP_int.sz Z Z Z Z Z Z Z Z Z <| ND <| SQ <| SQ <| RG <| FA Z tyF_impl_Piece_2 Z <| LD (i := 3) Z tyP_bool Z Z Z <| ND <| CT Z h1 <| RG <| FA Z tyF_impl_Sender_6 Z <| rw_storeN (i := 1) [_] [_, _, _, _, _, _, _, _, _, _, _, _] [_, _, _, _, _] tyP_int.sz Z Z Z Z Z Z Z Z Z <| ND <| SQ <| RG <| LS (i := 1) [_, _, _, _, _, _, _, _, _, _, _, _] Z tyS_impl_Sender Z Z Z Z <| CV1 Z fun_impl_following Z (fun w hs => impl_following (rdSender_mk ⟨_, _, Z, hrd1_0 _ (fun c hc => hs.at_ c (MR (MR (MR (ML hc)))))⟩ ⟨_, _, Z, hrd2 _ (fun c hc => hs.at_ c (MR (MR (ML hc))))⟩ ⟨_, _, Z, hrd3 _ (fun c hc => hs.at_ c (MR (ML hc)))⟩ ⟨_, _, Z, hrd1_3 _ (fun c hc => hs.at_ c (MR (MR (MR (MR (MR (MR (ML hc))))))))⟩)) <| ?_
      refine FA Z tyF_impl_Sender_0 Z <| rw_storeN (i := 1) [_] [_, _, _, _, _, _, _, _, _, _, _, _] [_, _, _, _, _] tyP_int.sz Z Z Z Z Z Z Z Z Z <| ND <| SQ <| RG <| LS (i := 1) [_, _, _, _, _, _, _, _, _, _, _, _] Z tyS_impl_Sender Z Z Z Z <| rw_storeN (i := 2) [_, _, _, _, _, _, _, _, _, _, _, _] [_, _, _, _, _, _, _, _, _, _, _, _] [_, _, _, _, _] tyS_impl_Sender.sz Z Z Z Z Z Z Z Z Z <| AS Z Z <| ND <| ?_
      refine gw_FP (pg (pp (pp PR)) (pg (pp PR) (pg PR (pg (pp (pp PR)) PR)))) (gw_F (F' := (c1_0 ++ (ch2 ++ (ch3 ++ (c1_3)))) ++ (c1_1 ++ (c1_2 ++ ([])))) (by simp only [aA, aN]) ?_)
      refine ret_cn (c1_0 ++ (ch2 ++ (ch3 ++ (c1_3)))) Try.func13 (res2 Try.func13 Z (rv_s (i := 2) [_, _, _, _, _, _, _, _, _, _, _, _] tyS_impl_Sender Z Z Z Z) (rv_tmp Z)) ?_ ?_
      · refine ⟨_, Z, ?_⟩
        rw [sendP_eq hW_ ht hn h1 (show (p.data.size == 0) = false by simp [hz_])]
        exact owSender_mk h1_0 how2 how3 h1_3
      · exact (List.sublist_append_left _ _).trans (List.sublist_append_right _ _)
    intro hkey_
    refine gw_drawT (.det 0 (.det 1 (.det 2 (.det 5 (.both (.add 3 (.both (.add 4 (.add 6 (.det 7 (.det 8 .nil)))) (.add 6 (.add 4 (.det 7 (.det 8 .nil)))))) (.add 6 (.add 3 (.add 4 (.det 7 (.det 8 .nil)))))))))) [] mixed (by kernel_rfl) <| dz_det Z Z (fun K hk => FA Z tyF_impl_Sender_2 Z hk) <| dz_det Z Z (fun K hk => LD (i := 4) Z tyP_S_impl_Range Z Z Z hk) <| dz_det Z Z (fun K hk => LS (i := 0) [_, _] Z tyS_impl_Range Z Z Z Z hk) <| dz_det Z Z (fun K hk => LS (i := 0) [_, _] Z tyS_impl_Range Z Z Z Z hk) <| ?_
    refine ⟨?_, ?_⟩
    · refine dz_add Z Z (fun K hk => rw_sliceO (f := Range.cells) ([(rgOf p)] : List Range) [_, _] Z tyM_S_impl_Range Z Z Z Z Z Z Z hk) <| fun v4 ch4 how4 => ?_
      obtain ⟨R4, rc4, rfl, hR4, hrd4⟩ := (OwA.s how4).shape eRange
      refine ⟨?_, ?_⟩
      · refine dz_add Z Z (fun K hk => CN1 Z fun_impl_CommonRanges Z (fun w hs => impl_CommonRanges (hA1.s Pl.keeps hs) (by omega) ⟨_, _, Z, hrd4 _ (fun c hc => hs.at_ c (MR (ML hc)))⟩ ((vf_iff _).2 hV.vp) hrr_) hk) <| fun v5 ch5 how5 => ?_
        rw [hcm_] at how5
        obtain ⟨R5, rc5, rfl, hR5, hrd5⟩ := how5.shape eRange
        refine dz_add Z Z (fun K hk => rw_sliceO (f := Range.cells) ([(rgOf p)] : List Range) [_, _] Z tyM_S_impl_Range Z Z Z Z Z Z Z hk) <| fun v6 ch6 how6 => ?_
        obtain ⟨R6, rc6, rfl, hR6, hrd6⟩ := (OwA.s how6).shape eRange
        refine dz_det Z Z (fun K hk => CV1 Z fun_impl_EqualRanges Z (fun w hs => impl_EqualRanges ⟨_, _, Z, hrd5 _ (fun c hc => hs.at_ c (MR (MR (ML hc))))⟩ (by omega) ⟨_, _, Z, hrd6 _ (fun c hc => hs.at_ c (MR (ML hc)))⟩ ) hk) <| dz_det Z Z (fun K hk => NT Z Z hk) <| ?_
        refine dz_nil (ND ?_)
        exact gw_sub (SubEnd (d := 59) rfl (congrArg (fun b => Value.bool (!b)) (eqR_refl _)) (Sub.cons (i := 2) rfl (Sub.cons (i := 3) rfl (Sub.cons (i := 4) rfl (Sub.cons (i := 5) rfl (Sub.cons (i := 6) rfl (Sub.cons (i := 7) rfl (Sub.nil _)))))))) (gw_dropF (drA (drA (drA (List.Sublist.refl _)))) hkey_)
      refine dz_add Z Z (fun K hk => rw_sliceO (f := Range.cells) ([(rgOf p)] : List Range) [_, _] Z tyM_S_impl_Range Z Z Z Z Z Z Z hk) <| fun v7 ch7 how7 => ?_
      obtain ⟨R7, rc7, rfl, hR7, hrd7⟩ := (OwA.s how7).shape eRange
      refine dz_add Z Z (fun K hk => CN1 Z fun_impl_CommonRanges Z (fun w hs => impl_CommonRanges (hA1.s Pl.keeps hs) (by omega) ⟨_, _, Z, hrd4 _ (fun c hc => hs.at_ c (MR (MR (ML hc))))⟩ ((vf_iff _).2 hV.vp) hrr_) hk) <| fun v8 ch8 how8 => ?_
      rw [hcm_] at how8
      obtain ⟨R8, rc8, rfl, hR8, hrd8⟩ := how8.shape eRange
      refine dz_det Z Z (fun K hk => CV1 Z fun_impl_EqualRanges Z (fun w hs => impl_EqualRanges ⟨_, _, Z, hrd8 _ (fun c hc => hs.at_ c (MR (ML hc)))⟩ (by omega) ⟨_, _, Z, hrd7 _ (fun c hc => hs.at_ c (MR (MR (ML hc))))⟩ ) hk) <| dz_det Z Z (fun K hk => NT Z Z hk) <| ?_
      refine dz_nil (ND ?_)
      exact gw_sub (SubEnd (d := 59) rfl (congrArg (fun b => Value.bool (!b)) (eqR_refl _)) (Sub.cons (i := 2) rfl (Sub.cons (i := 3) rfl (Sub.cons (i := 4) rfl (Sub.cons (i := 5) rfl (Sub.cons (i := 6) rfl (Sub.cons (i := 7) rfl (Sub.nil _)))))))) (gw_dropF (drA (drA (drA (List.Sublist.refl _)))) hkey_)
    refine dz_add Z Z (fun K hk => rw_sliceO (f := Range.cells) ([(rgOf p)] : List Range) [_, _] Z tyM_S_impl_Range Z Z Z Z Z Z Z hk) <| fun v9 ch9 how9 => ?_
    obtain ⟨R9, rc9, rfl, hR9, hrd9⟩ := (OwA.s how9).shape eRange
    refine dz_add Z Z (fun K hk => rw_sliceO (f := Range.cells) ([(rgOf p)] : List Range) [_, _] Z tyM_S_impl_Range Z Z Z Z Z Z Z hk) <| fun v10 ch10 how10 => ?_
    obtain ⟨R10, rc10, rfl, hR10, hrd10⟩ := (OwA.s how10).shape eRange
    refine dz_add Z Z (fun K hk => CN1 Z fun_impl_CommonRanges Z (fun w hs => impl_CommonRanges (hA1.s Pl.keeps hs) (by omega) ⟨_, _, Z, hrd10 _ (fun c hc => hs.at_ c (MR (ML hc)))⟩ ((vf_iff _).2 hV.vp) hrr_) hk) <| fun v11 ch11 how11 => ?_
    rw [hcm_] at how11
    obtain ⟨R11, rc11, rfl, hR11, hrd11⟩ := how11.shape eRange
    refine dz_det Z Z (fun K hk => CV1 Z fun_impl_EqualRanges Z (fun w hs => impl_EqualRanges ⟨_, _, Z, hrd11 _ (fun c hc => hs.at_ c (MR (ML hc)))⟩ (by omega) ⟨_, _, Z, hrd9 _ (fun c hc => hs.at_ c (MR (MR (MR (ML hc)))))⟩ ) hk) <| dz_det Z Z (fun K hk => NT Z Z hk) <| ?_
    refine dz_nil (ND ?_)
    exact gw_sub (SubEnd (d := 59) rfl (congrArg (fun b => Value.bool (!b)) (eqR_refl _)) (Sub.cons (i := 2) rfl (Sub.cons (i := 3) rfl (Sub.cons (i := 4) rfl (Sub.cons (i := 5) rfl (Sub.cons (i := 6) rfl (Sub.cons (i := 7) rfl (Sub.nil _)))))))) (gw_dropF (drA (drA (drA (List.Sublist.refl _)))) hkey_)
  refine SKP Z <| ON Z Z Z <| PF Z Z Z Z <| PF Z Z Z Z <| MV Z Z <| ON Z Z Z <| FA Z tyF_impl_Piece_1 Z <| ON Z Z Z <| LD (i := 2) Z tyP_string Z Z Z <| ON Z Z Z <| rw_eqlS Z Z Z <| ?_
  have hz_ : p.data.size ≠ 0 := fun e_ => by have := hn.ok.ne e_; rw [h1] at this; cases this
  obtain ⟨hrr_, hcm_, heq_⟩ := send_facts hV ht hn hz_
  refine ON Z Z Z <| MV Z Z <| rw_lit (j := 32) Z (str_ne hz_) <| SKP Z <| ON Z Z Z <| PF Z Z Z Z <| PF Z Z Z Z <| ND <| CF Z Z <| SK <| SQ <| SQ <| RG <| FA Z tyF_impl_Piece_1 Z <| LD (i := 2) Z tyP_string Z Z Z <| rw_neqS Z Z Z <| ND <| CT Z (not_F (str_ne hz_)) <| SQ <| RG <| FA Z tyF_impl_Piece_0 Z <| LD (i := 2) Z tyP_int Z Z Z <| FA Z tyF_impl_Piece_0 Z <| LD (i := 2) Z tyP_int Z Z Z <| FA Z tyF_impl_Piece_1 Z <| ?_
  refine LD (i := 2) Z tyP_string Z Z Z <| rw_lenS Z (by kernel_rfl) Z <| rw_add Z Z Z <| rw_build [_, _] Z tyB_impl_Range tyZ_impl_Range Z Z <| AL Z tyZ_impl_Range <| fun b6 => ST (i := 0) [_, _] [_, _] tyS_impl_Range.sz Z Z Z Z Z Z Z Z <| ND <| SQ <| SQ <| ?_
  refine gw_key 59 (.bool false) [(2, _), (3, _), (4, _), (5, _), (6, _), (7, _)] (Sub.cons (i := 2) Z (Sub.cons (i := 3) Z (Sub.cons (i := 4) Z (Sub.cons (i := 5) Z (Sub.cons (i := 6) Z (Sub.cons (i := 7) Z (Sub.nil _))))))) ?_ ?_
  · refine CF Z Z <| SK <| SQ <| gw_draw' [dd 0, dd 1, dd 2, dd 4, dd 5, dd 6, (3, .add), dd 8, (7, .add)] [9, 10, 11] mixed Z (FD Z) (ts := [_, _, _]) Z <| DT Z Z (fun K hk => FA Z tyF_impl_Sender_2 Z hk) <| DT Z Z (fun K hk => LD (i := 4) Z tyP_S_impl_Range Z Z Z hk) <| DT Z Z (fun K hk => LS (i := 0) [_, _] Z tyS_impl_Range Z Z Z Z hk) <| DT Z Z (fun K hk => FA Z tyF_impl_Sender_3 Z hk) <| DT Z Z (fun K hk => LD (i := 4) Z tyP_S_impl_Range Z Z Z hk) <| ?_
    refine DT Z Z (fun K hk => LS (i := 0) [_, _] Z tyS_impl_Range Z Z Z Z hk) <| DA Z Z (fun K hk => CN1 Z fun_impl_RemoveRange Z (fun w hs => impl_RemoveRange (hA1.s Pl.keeps hs) (by omega) (rgOf p)) hk) <| fun v12 ch12 how12 => ?_
    obtain ⟨R12, rc12, rfl, hR12, hrd12⟩ := how12.shape eRange
    refine DT Z Z (fun K hk => FA Z tyF_impl_Sender_2 Z hk) <| DA Z Z (fun K hk => CN1 Z fun_impl_AddRange Z (fun w hs => impl_AddRange (hA2.s Pl.keeps hs) (by omega) (rgOf p)) hk) <| fun v13 ch13 how13 => ?_
    obtain ⟨R13, rc13, rfl, hR13, hrd13⟩ := how13.shape eRange
    refine dw_nil <| rw_storeN (i := 1) [_] [_, _, _, _, _, _, _, _, _, _, _, _] [_, _, _, _, _] tyP_S_impl_Range.sz Z Z Z Z Z Z Z Z Z <| FA Z tyF_impl_Sender_3 Z <| rw_storeN (i := 1) [_] [_, _, _, _, _, _, _, _, _, _, _, _] [_, _, _, _, _] tyP_S_impl_Range.sz Z Z Z Z Z Z Z Z Z <| ND <| RG <| FA Z tyF_impl_Sender_7 Z <| LD (i := 4) Z tyP_int Z Z Z <| FA Z tyF_impl_Range_1 Z <| LD (i := 0) Z tyP_int Z Z Z <| rw_max Z Z Z <| FA Z tyF_impl_Sender_7 Z <| ?_
    refine rw_storeN (i := 1) [_] [_, _, _, _, _, _, _, _, _, _, _, _] [_, _, _, _, _] tyP_int.sz Z Z Z Z Z Z Z Z Z <| ND <| SQ <| SQ <| RG <| FA Z tyF_impl_Piece_2 Z <| LD (i := 3) Z tyP_bool Z Z Z <| ND <| CF Z h1 <| SK <| SQ <| RG <| LS (i := 1) [_, _, _, _, _, _, _, _, _, _, _, _] Z tyS_impl_Sender Z Z Z Z <| CV1 Z fun_impl_following Z (fun w hs => impl_following (rdSender_mk ⟨_, _, Z, hrd1_0 _ (fun c hc => hs.at_ c (MR (MR (MR (ML hc)))))⟩ ⟨_, _, Z, hrd12 _ (fun c hc => hs.at_ c (MR (MR (ML hc))))⟩ ⟨_, _, Z, hrd13 _ (fun c hc => hs.at_ c (MR (ML hc)))⟩ ⟨_, _, Z, hrd1_3 _ (fun c hc => hs.at_ c (MR (MR (MR (MR (MR (MR (ML hc))))))))⟩)) <| ?_
    refine FA Z tyF_impl_Sender_0 Z <| rw_storeN (i := 1) [_] [_, _, _, _, _, _, _, _, _, _, _, _] [_, _, _, _, _] tyP_int.sz Z Z Z Z Z Z Z Z Z <| ND <| SQ <| RG <| LS (i := 1) [_, _, _, _, _, _, _, _, _, _, _, _] Z tyS_impl_Sender Z Z Z Z <| rw_storeN (i := 2) [_, _, _, _, _, _, _, _, _, _, _, _] [_, _, _, _, _, _, _, _, _, _, _, _] [_, _, _, _, _] tyS_impl_Sender.sz Z Z Z Z Z Z Z Z Z <| AS Z Z <| ND <| ?_
    refine gw_FP (pg (pp (pp PR)) (pg (pp PR) (pg PR (pg (pp (pp PR)) PR)))) (gw_F (F' := (c1_0 ++ (ch12 ++ (ch13 ++ (c1_3)))) ++ (c1_1 ++ (c1_2 ++ ([])))) (by simp only [aA, aN]) ?_)
    refine ret_cn (c1_0 ++ (ch12 ++ (ch13 ++ (c1_3)))) Try.func13 (res2 Try.func13 Z (rv_s (i := 2) [_, _, _, _, _, _, _, _, _, _, _, _] tyS_impl_Sender Z Z Z Z) (rv_tmp Z)) ?_ ?_
    · refine ⟨_, Z, ?_⟩
      rw [sendP_eq hW_ ht hn h1 (show (p.data.size == 0) = false by simp [hz_])]
      exact owSender_mk h1_0 how12 how13 h1_3
    · exact (List.sublist_append_left _ _).trans (List.sublist_append_right _ _)
  intro hkey_
  refine gw_drawT (.det 0 (.det 1 (.det 2 (.det 5 (.both (.add 3 (.both (.add 4 (.add 6 (.det 7 (.det 8 .nil)))) (.add 6 (.add 4 (.det 7 (.det 8 .nil)))))) (.add 6 (.add 3 (.add 4 (.det 7 (.det 8 .nil)))))))))) [] mixed (by kernel_rfl) <| dz_det Z Z (fun K hk => FA Z tyF_impl_Sender_2 Z hk) <| dz_det Z Z (fun K hk => LD (i := 4) Z tyP_S_impl_Range Z Z Z hk) <| dz_det Z Z (fun K hk => LS (i := 0) [_, _] Z tyS_impl_Range Z Z Z Z hk) <| dz_det Z Z (fun K hk => LS (i := 0) [_, _] Z tyS_impl_Range Z Z Z Z hk) <| ?_
  refine ⟨?_, ?_⟩
  · refine dz_add Z Z (fun K hk => rw_sliceO (f := Range.cells) ([(rgOf p)] : List Range) [_, _] Z tyM_S_impl_Range Z Z Z Z Z Z Z hk) <| fun v14 ch14 how14 => ?_
    obtain ⟨R14, rc14, rfl, hR14, hrd14⟩ := (OwA.s how14).shape eRange
    refine ⟨?_, ?_⟩
    · refine dz_add Z Z (fun K hk => CN1 Z fun_impl_CommonRanges Z (fun w hs => impl_CommonRanges (hA1.s Pl.keeps hs) (by omega) ⟨_, _, Z, hrd14 _ (fun c hc => hs.at_ c (MR (ML hc)))⟩ ((vf_iff _).2 hV.vp) hrr_) hk) <| fun v15 ch15 how15 => ?_
      rw [hcm_] at how15
      obtain ⟨R15, rc15, rfl, hR15, hrd15⟩ := how15.shape eRange
      refine dz_add Z Z (fun K hk => rw_sliceO (f := Range.cells) ([(rgOf p)] : List Range) [_, _] Z tyM_S_impl_Range Z Z Z Z Z Z Z hk) <| fun v16 ch16 how16 => ?_
      obtain ⟨R16, rc16, rfl, hR16, hrd16⟩ := (OwA.s how16).shape eRange
      refine dz_det Z Z (fun K hk => CV1 Z fun_impl_EqualRanges Z (fun w hs => impl_EqualRanges ⟨_, _, Z, hrd15 _ (fun c hc => hs.at_ c (MR (MR (ML hc))))⟩ (by omega) ⟨_, _, Z, hrd16 _ (fun c hc => hs.at_ c (MR (ML hc)))⟩ ) hk) <| dz_det Z Z (fun K hk => NT Z Z hk) <| ?_
      refine dz_nil (ND ?_)
      exact gw_sub (SubEnd (d := 59) rfl (congrArg (fun b => Value.bool (!b)) (eqR_refl _)) (Sub.cons (i := 2) rfl (Sub.cons (i := 3) rfl (Sub.cons (i := 4) rfl (Sub.cons (i := 5) rfl (Sub.cons (i := 6) rfl (Sub.cons (i := 7) rfl (Sub.nil _)))))))) (gw_dropF (drA (drA (drA (List.Sublist.refl _)))) hkey_)
    refine dz_add Z Z (fun K hk => rw_sliceO (f := Range.cells) ([(rgOf p)] : List Range) [_, _] Z tyM_S_impl_Range Z Z Z Z Z Z Z hk) <| fun v17 ch17 how17 => ?_
    obtain ⟨R17, rc17, rfl, hR17, hrd17⟩ := (OwA.s how17).shape eRange
    refine dz_add Z Z (fun K hk => CN1 Z fun_impl_CommonRanges Z (fun w hs => impl_CommonRanges (hA1.s Pl.keeps hs) (by omega) ⟨_, _, Z, hrd14 _ (fun c hc => hs.at_ c (MR (MR (ML hc))))⟩ ((vf_iff _).2 hV.vp) hrr_) hk) <| fun v18 ch18 how18 => ?_
    rw [hcm_] at how18
    obtain ⟨R18, rc18, rfl, hR18, hrd18⟩ := how18.shape eRange
    refine dz_det Z Z (fun K hk => CV1 Z fun_impl_EqualRanges Z (fun w hs => impl_EqualRanges ⟨_, _, Z, hrd18 _ (fun c hc => hs.at_ c (MR (ML hc)))⟩ (by omega) ⟨_, _, Z, hrd17 _ (fun c hc => hs.at_ c (MR (MR (ML hc))))⟩ ) hk) <| dz_det Z Z (fun K hk => NT Z Z hk) <| ?_
    refine dz_nil (ND ?_)
    exact gw_sub (SubEnd (d := 59) rfl (congrArg (fun b => Value.bool (!b)) (eqR_refl _)) (Sub.cons (i := 2) rfl (Sub.cons (i := 3) rfl (Sub.cons (i := 4) rfl (Sub.cons (i := 5) rfl (Sub.cons (i := 6) rfl (Sub.cons (i := 7) rfl (Sub.nil _)))))))) (gw_dropF (drA (drA (drA (List.Sublist.refl _)))) hkey_)
  refine dz_add Z Z (fun K hk => rw_sliceO (f := Range.cells) ([(rgOf p)] : List Range) [_, _] Z tyM_S_impl_Range Z Z Z Z Z Z Z hk) <| fun v19 ch19 how19 => ?_
  obtain ⟨R19, rc19, rfl, hR19, hrd19⟩ := (OwA.s how19).shape eRange
  refine dz_add Z Z (fun K hk => rw_sliceO (f := Range.cells) ([(rgOf p)] : List Range) [_, _] Z tyM_S_impl_Range Z Z Z Z Z Z Z hk) <| fun v20 ch20 how20 => ?_
  obtain ⟨R20, rc20, rfl, hR20, hrd20⟩ := (OwA.s how20).shape eRange
  refine dz_add Z Z (fun K hk => CN1 Z fun_impl_CommonRanges Z (fun w hs => impl_CommonRanges (hA1.s Pl.keeps hs) (by omega) ⟨_, _, Z, hrd20 _ (fun c hc => hs.at_ c (MR (ML hc)))⟩ ((vf_iff _).2 hV.vp) hrr_) hk) <| fun v21 ch21 how21 => ?_
  rw [hcm_] at how21
  obtain ⟨R21, rc21, rfl, hR21, hrd21⟩ := how21.shape eRange
  refine dz_det Z Z (fun K hk => CV1 Z fun_impl_EqualRanges Z (fun w hs => impl_EqualRanges ⟨_, _, Z, hrd21 _ (fun c hc => hs.at_ c (MR (ML hc)))⟩ (by omega) ⟨_, _, Z, hrd19 _ (fun c hc => hs.at_ c (MR (MR (MR (ML hc)))))⟩ ) hk) <| dz_det Z Z (fun K hk => NT Z Z hk) <| ?_
  refine dz_nil (ND ?_)
  exact gw_sub (SubEnd (d := 59) rfl (congrArg (fun b => Value.bool (!b)) (eqR_refl _)) (Sub.cons (i := 2) rfl (Sub.cons (i := 3) rfl (Sub.cons (i := 4) rfl (Sub.cons (i := 5) rfl (Sub.cons (i := 6) rfl (Sub.cons (i := 7) rfl (Sub.nil _)))))))) (gw_dropF (drA (drA (drA (List.Sublist.refl _)))) hkey_)
end Go.Proofs.Ytbhnekiclbfmgaa
namespace Go.Proofs.Ytbhnekiclbfmgaa
open SL Go.RowKit
set_option maxHeartbeats 4000000 in
set_option maxRecDepth 20000 in
theorem impl_settlePiece_T {w : World} {cs : List Value} {x : Sender} (hv : RdSender w cs x) {W : Nat} {txt : List UInt8} {p : Piece} (hS : SetOk W txt x p) : CN Try.prog 36 [.agg cs.toArray, .agg p.cells.toArray, .bool true] w (fun v ch => ∃ cs', v = .agg cs'.toArray ∧ OwSender cs' (ackP x p) ch) := by
  have hV := hS.v
  have hb := hV.toVC.le
  obtain ⟨v0, v1, v2, v3, rfl, k0, k1, k2, k3⟩ := hv
  obtain ⟨A0, c0, rfl, hA0⟩ := k0
  obtain ⟨A1, c1, rfl, hA1⟩ := k1
  obtain ⟨A2, c2, rfl, hA2⟩ := k2
  obtain ⟨A3, c3, rfl, hA3⟩ := k3
  obtain ⟨hb0, hb1, hb2, hb3⟩ := hb
  obtain ⟨hlp_, hlf_, hla_⟩ := hV.toVC.lens
  have hl1_ : [rgOf p].length = 1 := rfl
  refine cn_of Try.func36 Z Z Z <| SQ <| RG <| BX [_, _, _, _, _, _, _, _, _, _, _, _] Z Z Z <| fun b1 => BX [_, _, _] Z Z Z <| fun b2 => AL Z tyZ_impl_Sender <| fun b3 => ND <| SQ <| RG <| LS (i := 2) [_, _, _, _, _, _, _, _, _, _, _, _] Z tyS_impl_Sender Z Z Z Z <| CN1 Z fun_impl_copySender Z (fun w hs => impl_copySender ⟨_, _, _, _, Z, (hA0.s Pl.keeps hs), (hA1.s Pl.keeps hs), (hA2.s Pl.keeps hs), (hA3.s Pl.keeps hs)⟩ ⟨hb0, hb1, hb2, hb3⟩) <| fun vv1 ch1 how1 => ?_
  obtain ⟨cs1, rfl, v1_0, v1_1, v1_2, v1_3, c1_0, c1_1, c1_2, c1_3, rfl, h1_0, h1_1, h1_2, h1_3, rfl⟩ := how1
  refine rw_F (F' := c1_0 ++ (c1_1 ++ (c1_2 ++ (c1_3 ++ ([]))))) (by simp only [aA]) <| ?_
  obtain ⟨R1_0, b1_0, rfl, hR1_0, hrd1_0⟩ := h1_0.shape eInt
  obtain ⟨R1_1, b1_1, rfl, hR1_1, hrd1_1⟩ := h1_1.shape eRange
  obtain ⟨R1_2, b1_2, rfl, hR1_2, hrd1_2⟩ := h1_2.shape eRange
  obtain ⟨R1_3, b1_3, rfl, hR1_3, hrd1_3⟩ := h1_3.shape eRange
  refine AL Z tyZ_impl_Sender <| fun b4 => rw_storeN (i := 0) [_, _, _, _, _, _, _, _, _, _, _, _] [_, _, _, _, _, _, _, _, _, _, _, _] [_, _, _, _] tyS_impl_Sender.sz Z Z Z Z Z Z Z Z Z <| ND <| SQ <| SQ <| RG <| LS (i := 3) [_, _, _, _, _, _, _, _, _, _, _, _] Z tyS_impl_Sender Z Z Z Z <| CV1 Z fun_impl_isActive Z (fun w hs => impl_isActive ⟨_, _, _, _, Z, (hA0.s Pl.keeps hs), (hA1.s Pl.keeps hs), (hA2.s Pl.keeps hs), (hA3.s Pl.keeps hs)⟩ ⟨hb0, hb1, hb2, hb3⟩) <| NT Z Z <| MV Z Z <| rw_lit (j := 17) Z (not_T (hV.isActive hS.s3)) <| ?_
  refine ON Z Z Z <| LS (i := 3) [_, _, _, _, _, _, _, _, _, _, _, _] Z tyS_impl_Sender Z Z Z Z <| ON Z Z Z <| LS (i := 2) [_, _, _] Z tyS_impl_Piece Z Z Z Z <| ON Z Z Z <| CV1 Z fun_impl_isInside Z (fun w hs => impl_isInside ⟨_, _, _, _, Z, (hA0.s Pl.keeps hs), (hA1.s Pl.keeps hs), (hA2.s Pl.keeps hs), (hA3.s Pl.keeps hs)⟩ _) <| ON Z Z Z <| NT Z Z <| PF Z Z Z Z <| ND <| CF Z (not_T (hS.ok.inside hV.toVC hS.t)) <| SK <| SQ <| RG <| FA Z tyF_impl_Sender_2 Z <| ?_
  refine AS Z Z <| AS Z Z <| ND <| SQ <| SQ <| RG <| MV Z Z <| ND <| CT Z Z <| RG <| FA Z tyF_impl_Sender_4 Z <| AS Z Z <| AS Z Z <| ND <| SQ <| SQ <| RG <| FA Z tyF_impl_Piece_1 Z <| LD (i := 2) Z tyP_string Z Z Z <| rw_neqS Z Z Z <| ND <| ?_
  refine gw_condN Z (fun h1 => ?_) (fun h1 => ?_)
  · have hz_ := str_size' h1
    obtain ⟨hrr_, hcm_, hgp_, hgl_⟩ := hS.facts hz_
    refine SQ <| RG <| FA Z tyF_impl_Sender_3 Z <| LD (i := 3) Z tyP_S_impl_Range Z Z Z <| FA Z tyF_impl_Piece_0 Z <| LD (i := 2) Z tyP_int Z Z Z <| FA Z tyF_impl_Piece_0 Z <| LD (i := 2) Z tyP_int Z Z Z <| FA Z tyF_impl_Piece_1 Z <| LD (i := 2) Z tyP_string Z Z Z <| rw_lenS Z (by kernel_rfl) Z <| rw_add Z Z Z <| rw_build [_, _] Z tyB_impl_Range tyZ_impl_Range Z Z <| rw_sliceO (f := Range.cells) ([(rgOf p)] : List Range) [_, _] Z tyM_S_impl_Range Z Z Z Z Z Z Z <| fun v2 ch2 how2 => ?_
    obtain ⟨R2, rc2, rfl, hR2, hrd2⟩ := (OwA.s how2).shape eRange
    refine CN1 Z fun_impl_CommonRanges Z (fun w hs => impl_CommonRanges (hA2.s Pl.keeps hs) (by omega) ⟨_, _, Z, hrd2 _ (fun c hc => hs.at_ c (MR (ML hc)))⟩ ((vf_iff _).2 hV.vf) hrr_) <| fun v3 ch3 how3 => ?_
    rw [hcm_] at how3
    obtain ⟨R3, rc3, rfl, hR3, hrd3⟩ := how3.shape eRange
    refine rw_len Z tyE_S_impl_Range Z <| MV Z Z <| ND <| BK <| gw_loop1 <| SQ <| RG <| rw_lss Z Z Z <| ND <| SQ <| CT Z Z <| SK <| SQ <| BK <| SQ <| RG <| ?_
    have hi4 : 0 < [rgOf p].length := by omega
    obtain ⟨x5, hx5⟩ := get_of_lt hi4
    have hd5 := drop_cons hx5
    obtain rfl : rgOf p = x5 := by simpa using hx5
    refine rw_indexAddr 0 Z tyE_S_impl_Range Z Z Z (hR3 (Nat.zero_lt_of_lt hi4)) hi4 <| rw_loadX_s [_, _] Z tyS_impl_Range Z Z (fun w hs => ((hrd3 _ (fun c hc => hs.at_ c (MR (ML hc)))).plain hx5).cut0 (n := 2) Z) <| AL Z tyZ_impl_Range <| fun b5 => ST (i := 0) [_, _] [_, _] tyS_impl_Range.sz Z Z Z Z Z Z Z Z <| ND <| SQ <| RG <| FA Z tyF_impl_Sender_3 Z <| LD (i := 1) Z tyP_S_impl_Range Z Z Z <| LS (i := 0) [_, _] Z tyS_impl_Range Z Z Z Z <| CN1 Z fun_impl_RemoveRange Z (fun w hs => impl_RemoveRange ⟨_, _, Z, hrd1_2 _ (fun c hc => hs.at_ c (MR (MR (MR (MR (MR (ML hc)))))))⟩ (by omega) (rgOf p)) <| fun v6 ch6 how6 => ?_
    obtain ⟨R6, rc6, rfl, hR6, hrd6⟩ := how6.shape eRange
    refine FA Z tyF_impl_Sender_3 Z <| rw_storeN (i := 1) [_] [_, _, _, _, _, _, _, _, _, _, _, _] [_, _, _, _, _] tyP_S_impl_Range.sz Z Z Z Z Z Z Z Z Z <| ND <| gw_draw' [dd 0, dd 1, dd 2, dd 3, dd 4, (5, .add)] [6, 7] mixed Z (FD Z) (ts := [_, _]) Z <| DM Z Z Z <| DM Z Z Z <| DT Z Z (fun K hk => rw_nilCheck Z Z hk) <| DT Z Z (fun K hk => LD (i := 1) Z tyP_S_impl_Range Z Z Z hk) <| DT Z Z (fun K hk => LS (i := 0) [_, _] Z tyS_impl_Range Z Z Z Z hk) <| ?_
    refine DA Z Z (fun K hk => CN1 Z fun_impl_AddRange Z (fun w hs => impl_AddRange ⟨_, _, Z, hrd1_3 _ (fun c hc => hs.at_ c (MR (MR (MR (MR (MR (MR (MR (ML hc)))))))))⟩ (by omega) (rgOf p)) hk) <| fun v7 ch7 how7 => ?_
    obtain ⟨R7, rc7, rfl, hR7, hrd7⟩ := how7.shape eRange
    refine dw_nil <| rw_nilCheck Z Z <| rw_storeN (i := 1) [_] [_, _, _, _, _, _, _, _, _, _, _, _] [_, _, _, _, _] tyP_S_impl_Range.sz Z Z Z Z Z Z Z Z Z <| ND <| IB <| RG <| rw_add Z Z Z <| MV Z Z <| ND <| gw_again <| SQ <| RG <| rw_lss Z Z Z <| ND <| SQ <| CF Z Z <| EX Z <| SQ <| SQ <| RG <| FA Z tyF_impl_Piece_2 Z <| LD (i := 3) Z tyP_bool Z Z Z <| MV Z Z <| ?_
    refine rw_caseL (j := 63) Z (fun h2 => ?_) (fun h2 => ?_)
    · refine ON Z Z Z <| FA Z tyF_impl_Sender_6 Z <| ON Z Z Z <| LD (i := 4) Z tyP_int Z Z Z <| ON Z Z Z <| EQ1 Z Z Z <| PT Z Z Z Z <| ND <| CT Z (by rw [hS.f h2]; rfl) <| RG <| MV Z Z <| FA Z tyF_impl_Sender_6 Z <| rw_storeN (i := 1) [_] [_, _, _, _, _, _, _, _, _, _, _, _] [_, _, _, _, _] tyP_int.sz Z Z Z Z Z Z Z Z Z <| ND <| SQ <| SQ <| RG <| MV Z Z <| ND <| CT Z Z <| gw_drawF [(0, .det), (1, .det), (2, .det), (3, .det), (4, .det), (5, .add), (6, .det), (8, .det)] [7, 9, 10] 8 mixed Z (FD Z) <| ?_
      refine DT Z Z (fun K hk => FA Z tyF_impl_Sender_1 Z hk) <| DT Z Z (fun K hk => LS (i := 1) [_, _, _, _] Z tyS_impl_Ring Z Z Z Z hk) <| DT Z Z (fun K hk => FA Z tyF_impl_Sender_4 Z hk) <| DT Z Z (fun K hk => LD (i := 1) Z tyP_S_impl_Range Z Z Z hk) <| DT Z Z (fun K hk => CV1 Z fun_impl_FirstGap Z (fun w hs => impl_FirstGap ⟨_, _, Z, hrd7 _ (fun c hc => hs.at_ c (MR (ML hc)))⟩ (by omega) _) hk) <| DA Z Z (fun K hk => CN1 Z fun_impl_DropRing Z (fun w hs => impl_DropRing (x := x.ring) (to_ := firstGap (addRange x.acked (rgOf p)) 0) ⟨_, Z, ⟨_, _, Z, hrd1_0 _ (fun c hc => hs.at_ c (MR (MR (MR (MR (MR (ML hc)))))))⟩⟩ hb0 hV.toVC.ring hgp_) hk) <| fun v8 ch8 how8 => ?_
      obtain ⟨cs8, rfl, how8⟩ := how8
      obtain ⟨v8_0, ch8, rfl, h8_0, rfl⟩ := how8
      obtain ⟨R8_0, b8_0, rfl, hR8_0, hrd8_0⟩ := h8_0.shape eInt
      refine dw_F (F' := ch8 ++ (ch7 ++ (ch6 ++ (ch3 ++ (ch2 ++ (c1_0 ++ (c1_1 ++ (c1_2 ++ (c1_3 ++ ([])))))))))) (by simp only [aN]) <| DM Z Z Z <| DT Z Z (fun K hk => XT Z Z Z hk) <| dw_nil <| ?_
      refine ⟨fp_of Z Z Z (fun K hk => XT Z Z Z hk), ?_⟩
      refine cw_det Z Z (fun K hk => XT Z Z Z hk) <| cw_det Z Z (fun K hk => FA Z tyF_impl_Sender_1 Z hk) <| cw_st Z Z (fun K hk => rw_storeN (i := 1) [_, _, _, _] [_, _, _, _, _, _, _, _, _, _, _, _] [_, _, _, _, _] tyS_impl_Ring.sz Z Z Z Z Z Z Z Z Z hk) <| cw_nil <| SQ <| RG <| LS (i := 1) [_, _, _, _, _, _, _, _, _, _, _, _] Z tyS_impl_Sender Z Z Z Z <| CV1 Z fun_impl_following Z (fun w hs => impl_following (rdSender_mk ⟨_, _, Z, hrd8_0 _ (fun c hc => hs.at_ c (MR (ML hc)))⟩ ⟨_, _, Z, hrd1_1 _ (fun c hc => hs.at_ c (MR (MR (MR (MR (MR (MR (MR (ML hc)))))))))⟩ ⟨_, _, Z, hrd6 _ (fun c hc => hs.at_ c (MR (MR (MR (ML hc)))))⟩ ⟨_, _, Z, hrd7 _ (fun c hc => hs.at_ c (MR (MR (ML hc))))⟩)) <| ?_
      refine FA Z tyF_impl_Sender_0 Z <| rw_storeN (i := 1) [_] [_, _, _, _, _, _, _, _, _, _, _, _] [_, _, _, _, _] tyP_int.sz Z Z Z Z Z Z Z Z Z <| ND <| SQ <| RG <| LS (i := 1) [_, _, _, _, _, _, _, _, _, _, _, _] Z tyS_impl_Sender Z Z Z Z <| rw_storeN (i := 2) [_, _, _, _, _, _, _, _, _, _, _, _] [_, _, _, _, _, _, _, _, _, _, _, _] [_, _, _, _, _] tyS_impl_Sender.sz Z Z Z Z Z Z Z Z Z <| ND <| ?_
      refine gw_FP (pg PR (pg (pp (pp (pp (pp (pp PR))))) (pg (pp PR) (pg PR PR)))) (gw_F (F' := (ch8 ++ (c1_1 ++ (ch6 ++ (ch7)))) ++ (ch3 ++ (ch2 ++ (c1_0 ++ (c1_2 ++ (c1_3 ++ ([]))))))) (by simp only [aA, aN]) ?_)
      refine ret_cn (ch8 ++ (c1_1 ++ (ch6 ++ (ch7)))) Try.func36 (res1 Try.func36 Z (rv_s (i := 2) [_, _, _, _, _, _, _, _, _, _, _, _] tyS_impl_Sender Z Z Z Z)) ?_ ?_
      · refine ⟨_, Z, ?_⟩
        rw [ackP_eq hS h2 (show (p.data.size == 0) = false by simp [hz_])]
        exact owSender_mk h8_0 h1_1 how6 how7
      · exact (List.sublist_append_left _ _).trans (List.sublist_append_right _ _)
    refine SKP Z <| PF Z Z Z Z <| ND <| CF Z Z <| SK <| SQ <| SQ <| RG <| MV Z Z <| ND <| CT Z Z <| gw_drawF [(0, .det), (1, .det), (2, .det), (3, .det), (4, .det), (5, .add), (6, .det), (8, .det)] [7, 9, 10] 8 mixed Z (FD Z) <| DT Z Z (fun K hk => FA Z tyF_impl_Sender_1 Z hk) <| DT Z Z (fun K hk => LS (i := 1) [_, _, _, _] Z tyS_impl_Ring Z Z Z Z hk) <| DT Z Z (fun K hk => FA Z tyF_impl_Sender_4 Z hk) <| DT Z Z (fun K hk => LD (i := 1) Z tyP_S_impl_Range Z Z Z hk) <| ?_
    refine DT Z Z (fun K hk => CV1 Z fun_impl_FirstGap Z (fun w hs => impl_FirstGap ⟨_, _, Z, hrd7 _ (fun c hc => hs.at_ c (MR (ML hc)))⟩ (by omega) _) hk) <| DA Z Z (fun K hk => CN1 Z fun_impl_DropRing Z (fun w hs => impl_DropRing (x := x.ring) (to_ := firstGap (addRange x.acked (rgOf p)) 0) ⟨_, Z, ⟨_, _, Z, hrd1_0 _ (fun c hc => hs.at_ c (MR (MR (MR (MR (MR (ML hc)))))))⟩⟩ hb0 hV.toVC.ring hgp_) hk) <| fun v9 ch9 how9 => ?_
    obtain ⟨cs9, rfl, how9⟩ := how9
    obtain ⟨v9_0, ch9, rfl, h9_0, rfl⟩ := how9
    obtain ⟨R9_0, b9_0, rfl, hR9_0, hrd9_0⟩ := h9_0.shape eInt
    refine dw_F (F' := ch9 ++ (ch7 ++ (ch6 ++ (ch3 ++ (ch2 ++ (c1_0 ++ (c1_1 ++ (c1_2 ++ (c1_3 ++ ([])))))))))) (by simp only [aN]) <| DM Z Z Z <| DT Z Z (fun K hk => XT Z Z Z hk) <| dw_nil <| ?_
    refine ⟨fp_of Z Z Z (fun K hk => XT Z Z Z hk), ?_⟩
    refine cw_det Z Z (fun K hk => XT Z Z Z hk) <| cw_det Z Z (fun K hk => FA Z tyF_impl_Sender_1 Z hk) <| cw_st Z Z (fun K hk => rw_storeN (i := 1) [_, _, _, _] [_, _, _, _, _, _, _, _, _, _, _, _] [_, _, _, _, _] tyS_impl_Ring.sz Z Z Z Z Z Z Z Z Z hk) <| cw_nil <| SQ <| RG <| LS (i := 1) [_, _, _, _, _, _, _, _, _, _, _, _] Z tyS_impl_Sender Z Z Z Z <| CV1 Z fun_impl_following Z (fun w hs => impl_following (rdSender_mk ⟨_, _, Z, hrd9_0 _ (fun c hc => hs.at_ c (MR (ML hc)))⟩ ⟨_, _, Z, hrd1_1 _ (fun c hc => hs.at_ c (MR (MR (MR (MR (MR (MR (MR (ML hc)))))))))⟩ ⟨_, _, Z, hrd6 _ (fun c hc => hs.at_ c (MR (MR (MR (ML hc)))))⟩ ⟨_, _, Z, hrd7 _ (fun c hc => hs.at_ c (MR (MR (ML hc))))⟩)) <| ?_
    refine FA Z tyF_impl_Sender_0 Z <| rw_storeN (i := 1) [_] [_, _, _, _, _, _, _, _, _, _, _, _] [_, _, _, _, _] tyP_int.sz Z Z Z Z Z Z Z Z Z <| ND <| SQ <| RG <| LS (i := 1) [_, _, _, _, _, _, _, _, _, _, _, _] Z tyS_impl_Sender Z Z Z Z <| rw_storeN (i := 2) [_, _, _, _, _, _, _, _, _, _, _, _] [_, _, _, _, _, _, _, _, _, _, _, _] [_, _, _, _, _] tyS_impl_Sender.sz Z Z Z Z Z Z Z Z Z <| ND <| ?_
    refine gw_FP (pg PR (pg (pp (pp (pp (pp (pp PR))))) (pg (pp PR) (pg PR PR)))) (gw_F (F' := (ch9 ++ (c1_1 ++ (ch6 ++ (ch7)))) ++ (ch3 ++ (ch2 ++ (c1_0 ++ (c1_2 ++ (c1_3 ++ ([]))))))) (by simp only [aA, aN]) ?_)
    refine ret_cn (ch9 ++ (c1_1 ++ (ch6 ++ (ch7)))) Try.func36 (res1 Try.func36 Z (rv_s (i := 2) [_, _, _, _, _, _, _, _, _, _, _, _] tyS_impl_Sender Z Z Z Z)) ?_ ?_
    · refine ⟨_, Z, ?_⟩
      rw [ackP_eq hS h2 (show (p.data.size == 0) = false by simp [hz_])]
      exact owSender_mk h9_0 h1_1 how6 how7
    · exact (List.sublist_append_left _ _).trans (List.sublist_append_right _ _)
  have hz_ := str_size h1
  refine SK <| SQ <| SQ <| RG <| FA Z tyF_impl_Piece_2 Z <| LD (i := 2) Z tyP_bool Z Z Z <| MV Z Z <| ?_
  refine rw_caseL (j := 63) Z (fun h3 => ?_) (fun h3 => ?_)
  · refine ON Z Z Z <| FA Z tyF_impl_Sender_6 Z <| ON Z Z Z <| LD (i := 3) Z tyP_int Z Z Z <| ON Z Z Z <| EQ1 Z Z Z <| PT Z Z Z Z <| ND <| CT Z (by rw [hS.f h3]; rfl) <| RG <| MV Z Z <| FA Z tyF_impl_Sender_6 Z <| rw_storeN (i := 0) [_] [_, _, _, _, _, _, _, _, _, _, _, _] [_, _, _, _] tyP_int.sz Z Z Z Z Z Z Z Z Z <| ND <| SQ <| SQ <| RG <| MV Z Z <| ND <| CT Z Z <| gw_drawF [(0, .det), (1, .det), (2, .det), (3, .det), (4, .det), (5, .add), (6, .det), (8, .det)] [7, 9, 10] 8 mixed Z (FD Z) <| ?_
    refine DT Z Z (fun K hk => FA Z tyF_impl_Sender_1 Z hk) <| DT Z Z (fun K hk => LS (i := 0) [_, _, _, _] Z tyS_impl_Ring Z Z Z Z hk) <| DT Z Z (fun K hk => FA Z tyF_impl_Sender_4 Z hk) <| DT Z Z (fun K hk => LD (i := 0) Z tyP_S_impl_Range Z Z Z hk) <| DT Z Z (fun K hk => CV1 Z fun_impl_FirstGap Z (fun w hs => impl_FirstGap ⟨_, _, Z, hrd1_3 _ (fun c hc => hs.at_ c (MR (MR (MR (MR (ML hc))))))⟩ (by omega) _) hk) <| ?_
    refine DA Z Z (fun K hk => CN1 Z fun_impl_DropRing Z (fun w hs => impl_DropRing (x := x.ring) (to_ := firstGap x.acked 0) ⟨_, Z, ⟨_, _, Z, hrd1_0 _ (fun c hc => hs.at_ c (MR (ML hc)))⟩⟩ hb0 hV.toVC.ring hS.gap0) hk) <| fun v10 ch10 how10 => ?_
    obtain ⟨cs10, rfl, how10⟩ := how10
    obtain ⟨v10_0, ch10, rfl, h10_0, rfl⟩ := how10
    obtain ⟨R10_0, b10_0, rfl, hR10_0, hrd10_0⟩ := h10_0.shape eInt
    refine dw_F (F' := ch10 ++ (c1_0 ++ (c1_1 ++ (c1_2 ++ (c1_3 ++ ([])))))) (by simp only [aN]) <| DM Z Z Z <| DT Z Z (fun K hk => XT Z Z Z hk) <| dw_nil <| ?_
    refine ⟨fp_of Z Z Z (fun K hk => XT Z Z Z hk), ?_⟩
    refine cw_det Z Z (fun K hk => XT Z Z Z hk) <| cw_det Z Z (fun K hk => FA Z tyF_impl_Sender_1 Z hk) <| cw_st Z Z (fun K hk => rw_storeN (i := 0) [_, _, _, _] [_, _, _, _, _, _, _, _, _, _, _, _] [_, _, _, _] tyS_impl_Ring.sz Z Z Z Z Z Z Z Z Z hk) <| cw_nil <| SQ <| RG <| LS (i := 0) [_, _, _, _, _, _, _, _, _, _, _, _] Z tyS_impl_Sender Z Z Z Z <| CV1 Z fun_impl_following Z (fun w hs => impl_following (rdSender_mk ⟨_, _, Z, hrd10_0 _ (fun c hc => hs.at_ c (MR (ML hc)))⟩ ⟨_, _, Z, hrd1_1 _ (fun c hc => hs.at_ c (MR (MR (MR (ML hc)))))⟩ ⟨_, _, Z, hrd1_2 _ (fun c hc => hs.at_ c (MR (MR (MR (MR (ML hc))))))⟩ ⟨_, _, Z, hrd1_3 _ (fun c hc => hs.at_ c (MR (MR (MR (MR (MR (ML hc)))))))⟩)) <| ?_
    refine FA Z tyF_impl_Sender_0 Z <| rw_storeN (i := 0) [_] [_, _, _, _, _, _, _, _, _, _, _, _] [_, _, _, _] tyP_int.sz Z Z Z Z Z Z Z Z Z <| ND <| SQ <| RG <| LS (i := 0) [_, _, _, _, _, _, _, _, _, _, _, _] Z tyS_impl_Sender Z Z Z Z <| rw_storeN (i := 1) [_, _, _, _, _, _, _, _, _, _, _, _] [_, _, _, _, _, _, _, _, _, _, _, _] [_, _, _, _] tyS_impl_Sender.sz Z Z Z Z Z Z Z Z Z <| ND <| ?_
    refine gw_FP (pg PR (pg (pp PR) (pg (pp PR) (pg (pp PR) PR)))) (gw_F (F' := (ch10 ++ (c1_1 ++ (c1_2 ++ (c1_3)))) ++ (c1_0 ++ ([]))) (by simp only [aA, aN]) ?_)
    refine ret_cn (ch10 ++ (c1_1 ++ (c1_2 ++ (c1_3)))) Try.func36 (res1 Try.func36 Z (rv_s (i := 1) [_, _, _, _, _, _, _, _, _, _, _, _] tyS_impl_Sender Z Z Z Z)) ?_ ?_
    · refine ⟨_, Z, ?_⟩
      rw [ackP_eq hS h3 (show (p.data.size == 0) = true by simp [hz_])]
      exact owSender_mk h10_0 h1_1 h1_2 h1_3
    · exact (List.sublist_append_left _ _).trans (List.sublist_append_right _ _)
  refine SKP Z <| PF Z Z Z Z <| ND <| CF Z Z <| SK <| SQ <| SQ <| RG <| MV Z Z <| ND <| CT Z Z <| gw_drawF [(0, .det), (1, .det), (2, .det), (3, .det), (4, .det), (5, .add), (6, .det), (8, .det)] [7, 9, 10] 8 mixed Z (FD Z) <| DT Z Z (fun K hk => FA Z tyF_impl_Sender_1 Z hk) <| DT Z Z (fun K hk => LS (i := 0) [_, _, _, _] Z tyS_impl_Ring Z Z Z Z hk) <| DT Z Z (fun K hk => FA Z tyF_impl_Sender_4 Z hk) <| DT Z Z (fun K hk => LD (i := 0) Z tyP_S_impl_Range Z Z Z hk) <| ?_
  refine DT Z Z (fun K hk => CV1 Z fun_impl_FirstGap Z (fun w hs => impl_FirstGap ⟨_, _, Z, hrd1_3 _ (fun c hc => hs.at_ c (MR (MR (MR (MR (ML hc))))))⟩ (by omega) _) hk) <| DA Z Z (fun K hk => CN1 Z fun_impl_DropRing Z (fun w hs => impl_DropRing (x := x.ring) (to_ := firstGap x.acked 0) ⟨_, Z, ⟨_, _, Z, hrd1_0 _ (fun c hc => hs.at_ c (MR (ML hc)))⟩⟩ hb0 hV.toVC.ring hS.gap0) hk) <| fun v11 ch11 how11 => ?_
  obtain ⟨cs11, rfl, how11⟩ := how11
  obtain ⟨v11_0, ch11, rfl, h11_0, rfl⟩ := how11
  obtain ⟨R11_0, b11_0, rfl, hR11_0, hrd11_0⟩ := h11_0.shape eInt
  refine dw_F (F' := ch11 ++ (c1_0 ++ (c1_1 ++ (c1_2 ++ (c1_3 ++ ([])))))) (by simp only [aN]) <| DM Z Z Z <| DT Z Z (fun K hk => XT Z Z Z hk) <| dw_nil <| ?_
  refine ⟨fp_of Z Z Z (fun K hk => XT Z Z Z hk), ?_⟩
  refine cw_det Z Z (fun K hk => XT Z Z Z hk) <| cw_det Z Z (fun K hk => FA Z tyF_impl_Sender_1 Z hk) <| cw_st Z Z (fun K hk => rw_storeN (i := 0) [_, _, _, _] [_, _, _, _, _, _, _, _, _, _, _, _] [_, _, _, _] tyS_impl_Ring.sz Z Z Z Z Z Z Z Z Z hk) <| cw_nil <| SQ <| RG <| LS (i := 0) [_, _, _, _, _, _, _, _, _, _, _, _] Z tyS_impl_Sender Z Z Z Z <| CV1 Z fun_impl_following Z (fun w hs => impl_following (rdSender_mk ⟨_, _, Z, hrd11_0 _ (fun c hc => hs.at_ c (MR (ML hc)))⟩ ⟨_, _, Z, hrd1_1 _ (fun c hc => hs.at_ c (MR (MR (MR (ML hc)))))⟩ ⟨_, _, Z, hrd1_2 _ (fun c hc => hs.at_ c (MR (MR (MR (MR (ML hc))))))⟩ ⟨_, _, Z, hrd1_3 _ (fun c hc => hs.at_ c (MR (MR (MR (MR (MR (ML hc)))))))⟩)) <| ?_
  refine FA Z tyF_impl_Sender_0 Z <| rw_storeN (i := 0) [_] [_, _, _, _, _, _, _, _, _, _, _, _] [_, _, _, _] tyP_int.sz Z Z Z Z Z Z Z Z Z <| ND <| SQ <| RG <| LS (i := 0) [_, _, _, _, _, _, _, _, _, _, _, _] Z tyS_impl_Sender Z Z Z Z <| rw_storeN (i := 1) [_, _, _, _, _, _, _, _, _, _, _, _] [_, _, _, _, _, _, _, _, _, _, _, _] [_, _, _, _] tyS_impl_Sender.sz Z Z Z Z Z Z Z Z Z <| ND <| ?_
  refine gw_FP (pg PR (pg (pp PR) (pg (pp PR) (pg (pp PR) PR)))) (gw_F (F' := (ch11 ++ (c1_1 ++ (c1_2 ++ (c1_3)))) ++ (c1_0 ++ ([]))) (by simp only [aA, aN]) ?_)
  refine ret_cn (ch11 ++ (c1_1 ++ (c1_2 ++ (c1_3)))) Try.func36 (res1 Try.func36 Z (rv_s (i := 1) [_, _, _, _, _, _, _, _, _, _, _, _] tyS_impl_Sender Z Z Z Z)) ?_ ?_
  · refine ⟨_, Z, ?_⟩
    rw [ackP_eq hS h3 (show (p.data.size == 0) = true by simp [hz_])]
    exact owSender_mk h11_0 h1_1 h1_2 h1_3
  · exact (List.sublist_append_left _ _).trans (List.sublist_append_right _ _)

set_option maxHeartbeats 4000000 in
set_option maxRecDepth 20000 in
theorem impl_settlePiece_F {w : World} {cs : List Value} {x : Sender} (hv : RdSender w cs x) {W : Nat} {txt : List UInt8} {p : Piece} (hS : SetOk W txt x p) : CN Try.prog 36 [.agg cs.toArray, .agg p.cells.toArray, .bool false] w (fun v ch => ∃ cs', v = .agg cs'.toArray ∧ OwSender cs' (loseP x p) ch) := by
  have hV := hS.v
  have hb := hV.toVC.le
  obtain ⟨v0, v1, v2, v3, rfl, k0, k1, k2, k3⟩ := hv
  obtain ⟨A0, c0, rfl, hA0⟩ := k0
  obtain ⟨A1, c1, rfl, hA1⟩ := k1
  obtain ⟨A2, c2, rfl, hA2⟩ := k2
  obtain ⟨A3, c3, rfl, hA3⟩ := k3
  obtain ⟨hb0, hb1, hb2, hb3⟩ := hb
  obtain ⟨hlp_, hlf_, hla_⟩ := hV.toVC.lens
  have hl1_ : [rgOf p].length = 1 := rfl
  refine cn_of Try.func36 Z Z Z <| SQ <| RG <| BX [_, _, _, _, _, _, _, _, _, _, _, _] Z Z Z <| fun b1 => BX [_, _, _] Z Z Z <| fun b2 => AL Z tyZ_impl_Sender <| fun b3 => ND <| SQ <| RG <| LS (i := 2) [_, _, _, _, _, _, _, _, _, _, _, _] Z tyS_impl_Sender Z Z Z Z <| CN1 Z fun_impl_copySender Z (fun w hs => impl_copySender ⟨_, _, _, _, Z, (hA0.s Pl.keeps hs), (hA1.s Pl.keeps hs), (hA2.s Pl.keeps hs), (hA3.s Pl.keeps hs)⟩ ⟨hb0, hb1, hb2, hb3⟩) <| fun vv1 ch1 how1 => ?_
  obtain ⟨cs1, rfl, v1_0, v1_1, v1_2, v1_3, c1_0, c1_1, c1_2, c1_3, rfl, h1_0, h1_1, h1_2, h1_3, rfl⟩ := how1
  refine rw_F (F' := c1_0 ++ (c1_1 ++ (c1_2 ++ (c1_3 ++ ([]))))) (by simp only [aA]) <| ?_
  obtain ⟨R1_0, b1_0, rfl, hR1_0, hrd1_0⟩ := h1_0.shape eInt
  obtain ⟨R1_1, b1_1, rfl, hR1_1, hrd1_1⟩ := h1_1.shape eRange
  obtain ⟨R1_2, b1_2, rfl, hR1_2, hrd1_2⟩ := h1_2.shape eRange
  obtain ⟨R1_3, b1_3, rfl, hR1_3, hrd1_3⟩ := h1_3.shape eRange
  refine AL Z tyZ_impl_Sender <| fun b4 => rw_storeN (i := 0) [_, _, _, _, _, _, _, _, _, _, _, _] [_, _, _, _, _, _, _, _, _, _, _, _] [_, _, _, _] tyS_impl_Sender.sz Z Z Z Z Z Z Z Z Z <| ND <| SQ <| SQ <| RG <| LS (i := 3) [_, _, _, _, _, _, _, _, _, _, _, _] Z tyS_impl_Sender Z Z Z Z <| CV1 Z fun_impl_isActive Z (fun w hs => impl_isActive ⟨_, _, _, _, Z, (hA0.s Pl.keeps hs), (hA1.s Pl.keeps hs), (hA2.s Pl.keeps hs), (hA3.s Pl.keeps hs)⟩ ⟨hb0, hb1, hb2, hb3⟩) <| NT Z Z <| MV Z Z <| rw_lit (j := 17) Z (not_T (hV.isActive hS.s3)) <| ?_
  refine ON Z Z Z <| LS (i := 3) [_, _, _, _, _, _, _, _, _, _, _, _] Z tyS_impl_Sender Z Z Z Z <| ON Z Z Z <| LS (i := 2) [_, _, _] Z tyS_impl_Piece Z Z Z Z <| ON Z Z Z <| CV1 Z fun_impl_isInside Z (fun w hs => impl_isInside ⟨_, _, _, _, Z, (hA0.s Pl.keeps hs), (hA1.s Pl.keeps hs), (hA2.s Pl.keeps hs), (hA3.s Pl.keeps hs)⟩ _) <| ON Z Z Z <| NT Z Z <| PF Z Z Z Z <| ND <| CF Z (not_T (hS.ok.inside hV.toVC hS.t)) <| SK <| SQ <| RG <| FA Z tyF_impl_Sender_2 Z <| ?_
  refine AS Z Z <| AS Z Z <| ND <| SQ <| SQ <| RG <| MV Z Z <| ND <| CF Z Z <| SK <| SQ <| SQ <| RG <| FA Z tyF_impl_Piece_1 Z <| LD (i := 2) Z tyP_string Z Z Z <| rw_neqS Z Z Z <| ND <| ?_
  refine gw_condN Z (fun h1 => ?_) (fun h1 => ?_)
  · have hz_ := str_size' h1
    obtain ⟨hrr_, hcm_, hgp_, hgl_⟩ := hS.facts hz_
    refine SQ <| RG <| FA Z tyF_impl_Sender_3 Z <| LD (i := 3) Z tyP_S_impl_Range Z Z Z <| FA Z tyF_impl_Piece_0 Z <| LD (i := 2) Z tyP_int Z Z Z <| FA Z tyF_impl_Piece_0 Z <| LD (i := 2) Z tyP_int Z Z Z <| FA Z tyF_impl_Piece_1 Z <| LD (i := 2) Z tyP_string Z Z Z <| rw_lenS Z (by kernel_rfl) Z <| rw_add Z Z Z <| rw_build [_, _] Z tyB_impl_Range tyZ_impl_Range Z Z <| rw_sliceO (f := Range.cells) ([(rgOf p)] : List Range) [_, _] Z tyM_S_impl_Range Z Z Z Z Z Z Z <| fun v2 ch2 how2 => ?_
    obtain ⟨R2, rc2, rfl, hR2, hrd2⟩ := (OwA.s how2).shape eRange
    refine CN1 Z fun_impl_CommonRanges Z (fun w hs => impl_CommonRanges (hA2.s Pl.keeps hs) (by omega) ⟨_, _, Z, hrd2 _ (fun c hc => hs.at_ c (MR (ML hc)))⟩ ((vf_iff _).2 hV.vf) hrr_) <| fun v3 ch3 how3 => ?_
    rw [hcm_] at how3
    obtain ⟨R3, rc3, rfl, hR3, hrd3⟩ := how3.shape eRange
    refine rw_len Z tyE_S_impl_Range Z <| MV Z Z <| ND <| BK <| gw_loop1 <| SQ <| RG <| rw_lss Z Z Z <| ND <| SQ <| CT Z Z <| SK <| SQ <| BK <| SQ <| RG <| ?_
    have hi4 : 0 < [rgOf p].length := by omega
    obtain ⟨x5, hx5⟩ := get_of_lt hi4
    have hd5 := drop_cons hx5
    obtain rfl : rgOf p = x5 := by simpa using hx5
    refine rw_indexAddr 0 Z tyE_S_impl_Range Z Z Z (hR3 (Nat.zero_lt_of_lt hi4)) hi4 <| rw_loadX_s [_, _] Z tyS_impl_Range Z Z (fun w hs => ((hrd3 _ (fun c hc => hs.at_ c (MR (ML hc)))).plain hx5).cut0 (n := 2) Z) <| AL Z tyZ_impl_Range <| fun b5 => ST (i := 0) [_, _] [_, _] tyS_impl_Range.sz Z Z Z Z Z Z Z Z <| ND <| SQ <| RG <| FA Z tyF_impl_Sender_3 Z <| LD (i := 1) Z tyP_S_impl_Range Z Z Z <| LS (i := 0) [_, _] Z tyS_impl_Range Z Z Z Z <| CN1 Z fun_impl_RemoveRange Z (fun w hs => impl_RemoveRange ⟨_, _, Z, hrd1_2 _ (fun c hc => hs.at_ c (MR (MR (MR (MR (MR (ML hc)))))))⟩ (by omega) (rgOf p)) <| fun v6 ch6 how6 => ?_
    obtain ⟨R6, rc6, rfl, hR6, hrd6⟩ := how6.shape eRange
    refine FA Z tyF_impl_Sender_3 Z <| rw_storeN (i := 1) [_] [_, _, _, _, _, _, _, _, _, _, _, _] [_, _, _, _, _] tyP_S_impl_Range.sz Z Z Z Z Z Z Z Z Z <| ND <| gw_draw' [dd 0, dd 1, dd 2, dd 3, dd 4, (5, .add)] [6, 7] mixed Z (FD Z) (ts := [_, _]) Z <| DM Z Z Z <| DM Z Z Z <| DT Z Z (fun K hk => rw_nilCheck Z Z hk) <| DT Z Z (fun K hk => LD (i := 1) Z tyP_S_impl_Range Z Z Z hk) <| DT Z Z (fun K hk => LS (i := 0) [_, _] Z tyS_impl_Range Z Z Z Z hk) <| ?_
    refine DA Z Z (fun K hk => CN1 Z fun_impl_AddRange Z (fun w hs => impl_AddRange ⟨_, _, Z, hrd1_1 _ (fun c hc => hs.at_ c (MR (MR (MR (MR (MR (ML hc)))))))⟩ (by omega) (rgOf p)) hk) <| fun v7 ch7 how7 => ?_
    obtain ⟨R7, rc7, rfl, hR7, hrd7⟩ := how7.shape eRange
    refine dw_nil <| rw_nilCheck Z Z <| rw_storeN (i := 1) [_] [_, _, _, _, _, _, _, _, _, _, _, _] [_, _, _, _, _] tyP_S_impl_Range.sz Z Z Z Z Z Z Z Z Z <| ND <| IB <| RG <| rw_add Z Z Z <| MV Z Z <| ND <| gw_again <| SQ <| RG <| rw_lss Z Z Z <| ND <| SQ <| CF Z Z <| EX Z <| SQ <| SQ <| RG <| FA Z tyF_impl_Piece_2 Z <| LD (i := 3) Z tyP_bool Z Z Z <| MV Z Z <| ?_
    refine rw_caseL (j := 63) Z (fun h2 => ?_) (fun h2 => ?_)
    · refine ON Z Z Z <| FA Z tyF_impl_Sender_6 Z <| ON Z Z Z <| LD (i := 4) Z tyP_int Z Z Z <| ON Z Z Z <| EQ1 Z Z Z <| PT Z Z Z Z <| ND <| CT Z (by rw [hS.f h2]; rfl) <| RG <| MV Z Z <| FA Z tyF_impl_Sender_6 Z <| rw_storeN (i := 1) [_] [_, _, _, _, _, _, _, _, _, _, _, _] [_, _, _, _, _] tyP_int.sz Z Z Z Z Z Z Z Z Z <| ND <| SQ <| SQ <| RG <| MV Z Z <| ND <| CF Z Z <| SK <| SQ <| RG <| LS (i := 1) [_, _, _, _, _, _, _, _, _, _, _, _] Z tyS_impl_Sender Z Z Z Z <| ?_
      refine CV1 Z fun_impl_following Z (fun w hs => impl_following (rdSender_mk ⟨_, _, Z, hrd1_0 _ (fun c hc => hs.at_ c (MR (MR (MR (MR (MR (ML hc)))))))⟩ ⟨_, _, Z, hrd7 _ (fun c hc => hs.at_ c (MR (ML hc)))⟩ ⟨_, _, Z, hrd6 _ (fun c hc => hs.at_ c (MR (MR (ML hc))))⟩ ⟨_, _, Z, hrd1_3 _ (fun c hc => hs.at_ c (MR (MR (MR (MR (MR (MR (MR (MR (ML hc))))))))))⟩)) <| ?_
      refine FA Z tyF_impl_Sender_0 Z <| rw_storeN (i := 1) [_] [_, _, _, _, _, _, _, _, _, _, _, _] [_, _, _, _, _] tyP_int.sz Z Z Z Z Z Z Z Z Z <| ND <| SQ <| RG <| LS (i := 1) [_, _, _, _, _, _, _, _, _, _, _, _] Z tyS_impl_Sender Z Z Z Z <| rw_storeN (i := 2) [_, _, _, _, _, _, _, _, _, _, _, _] [_, _, _, _, _, _, _, _, _, _, _, _] [_, _, _, _, _] tyS_impl_Sender.sz Z Z Z Z Z Z Z Z Z <| ND <| ?_
      refine gw_FP (pg (pp (pp (pp (pp PR)))) (pg PR (pg PR (pg (pp (pp (pp (pp PR)))) PR)))) (gw_F (F' := (c1_0 ++ (ch7 ++ (ch6 ++ (c1_3)))) ++ (ch3 ++ (ch2 ++ (c1_1 ++ (c1_2 ++ ([])))))) (by simp only [aA, aN]) ?_)
      refine ret_cn (c1_0 ++ (ch7 ++ (ch6 ++ (c1_3)))) Try.func36 (res1 Try.func36 Z (rv_s (i := 2) [_, _, _, _, _, _, _, _, _, _, _, _] tyS_impl_Sender Z Z Z Z)) ?_ ?_
      · refine ⟨_, Z, ?_⟩
        rw [loseP_eq hS h2 (show (p.data.size == 0) = false by simp [hz_])]
        exact owSender_mk h1_0 how7 how6 h1_3
      · exact (List.sublist_append_left _ _).trans (List.sublist_append_right _ _)
    refine SKP Z <| PF Z Z Z Z <| ND <| CF Z Z <| SK <| SQ <| SQ <| RG <| MV Z Z <| ND <| CF Z Z <| SK <| SQ <| RG <| LS (i := 1) [_, _, _, _, _, _, _, _, _, _, _, _] Z tyS_impl_Sender Z Z Z Z <| CV1 Z fun_impl_following Z (fun w hs => impl_following (rdSender_mk ⟨_, _, Z, hrd1_0 _ (fun c hc => hs.at_ c (MR (MR (MR (MR (MR (ML hc)))))))⟩ ⟨_, _, Z, hrd7 _ (fun c hc => hs.at_ c (MR (ML hc)))⟩ ⟨_, _, Z, hrd6 _ (fun c hc => hs.at_ c (MR (MR (ML hc))))⟩ ⟨_, _, Z, hrd1_3 _ (fun c hc => hs.at_ c (MR (MR (MR (MR (MR (MR (MR (MR (ML hc))))))))))⟩)) <| ?_
    refine FA Z tyF_impl_Sender_0 Z <| rw_storeN (i := 1) [_] [_, _, _, _, _, _, _, _, _, _, _, _] [_, _, _, _, _] tyP_int.sz Z Z Z Z Z Z Z Z Z <| ND <| SQ <| RG <| LS (i := 1) [_, _, _, _, _, _, _, _, _, _, _, _] Z tyS_impl_Sender Z Z Z Z <| rw_storeN (i := 2) [_, _, _, _, _, _, _, _, _, _, _, _] [_, _, _, _, _, _, _, _, _, _, _, _] [_, _, _, _, _] tyS_impl_Sender.sz Z Z Z Z Z Z Z Z Z <| ND <| ?_
    refine gw_FP (pg (pp (pp (pp (pp PR)))) (pg PR (pg PR (pg (pp (pp (pp (pp PR)))) PR)))) (gw_F (F' := (c1_0 ++ (ch7 ++ (ch6 ++ (c1_3)))) ++ (ch3 ++ (ch2 ++ (c1_1 ++ (c1_2 ++ ([])))))) (by simp only [aA, aN]) ?_)
    refine ret_cn (c1_0 ++ (ch7 ++ (ch6 ++ (c1_3)))) Try.func36 (res1 Try.func36 Z (rv_s (i := 2) [_, _, _, _, _, _, _, _, _, _, _, _] tyS_impl_Sender Z Z Z Z)) ?_ ?_
    · refine ⟨_, Z, ?_⟩
      rw [loseP_eq hS h2 (show (p.data.size == 0) = false by simp [hz_])]
      exact owSender_mk h1_0 how7 how6 h1_3
    · exact (List.sublist_append_left _ _).trans (List.sublist_append_right _ _)
  have hz_ := str_size h1
  refine SK <| SQ <| SQ <| RG <| FA Z tyF_impl_Piece_2 Z <| LD (i := 2) Z tyP_bool Z Z Z <| MV Z Z <| ?_
  refine rw_caseL (j := 63) Z (fun h3 => ?_) (fun h3 => ?_)
  · refine ON Z Z Z <| FA Z tyF_impl_Sender_6 Z <| ON Z Z Z <| LD (i := 3) Z tyP_int Z Z Z <| ON Z Z Z <| EQ1 Z Z Z <| PT Z Z Z Z <| ND <| CT Z (by rw [hS.f h3]; rfl) <| RG <| MV Z Z <| FA Z tyF_impl_Sender_6 Z <| rw_storeN (i := 0) [_] [_, _, _, _, _, _, _, _, _, _, _, _] [_, _, _, _] tyP_int.sz Z Z Z Z Z Z Z Z Z <| ND <| SQ <| SQ <| RG <| MV Z Z <| ND <| CF Z Z <| SK <| SQ <| RG <| LS (i := 0) [_, _, _, _, _, _, _, _, _, _, _, _] Z tyS_impl_Sender Z Z Z Z <| ?_
    refine CV1 Z fun_impl_following Z (fun w hs => impl_following (rdSender_mk ⟨_, _, Z, hrd1_0 _ (fun c hc => hs.at_ c (MR (ML hc)))⟩ ⟨_, _, Z, hrd1_1 _ (fun c hc => hs.at_ c (MR (MR (ML hc))))⟩ ⟨_, _, Z, hrd1_2 _ (fun c hc => hs.at_ c (MR (MR (MR (ML hc)))))⟩ ⟨_, _, Z, hrd1_3 _ (fun c hc => hs.at_ c (MR (MR (MR (MR (ML hc))))))⟩)) <| ?_
    refine FA Z tyF_impl_Sender_0 Z <| rw_storeN (i := 0) [_] [_, _, _, _, _, _, _, _, _, _, _, _] [_, _, _, _] tyP_int.sz Z Z Z Z Z Z Z Z Z <| ND <| SQ <| RG <| LS (i := 0) [_, _, _, _, _, _, _, _, _, _, _, _] Z tyS_impl_Sender Z Z Z Z <| rw_storeN (i := 1) [_, _, _, _, _, _, _, _, _, _, _, _] [_, _, _, _, _, _, _, _, _, _, _, _] [_, _, _, _] tyS_impl_Sender.sz Z Z Z Z Z Z Z Z Z <| ND <| ?_
    refine gw_FP (pg PR (pg PR (pg PR (pg PR PR)))) (gw_F (F' := (c1_0 ++ (c1_1 ++ (c1_2 ++ (c1_3)))) ++ ([])) (by simp only [aN]) ?_)
    refine ret_cn (c1_0 ++ (c1_1 ++ (c1_2 ++ (c1_3)))) Try.func36 (res1 Try.func36 Z (rv_s (i := 1) [_, _, _, _, _, _, _, _, _, _, _, _] tyS_impl_Sender Z Z Z Z)) ?_ ?_
    · refine ⟨_, Z, ?_⟩
      rw [loseP_eq hS h3 (show (p.data.size == 0) = true by simp [hz_])]
      exact owSender_mk h1_0 h1_1 h1_2 h1_3
    · exact (List.sublist_append_left _ _).trans (List.sublist_append_right _ _)
  refine SKP Z <| PF Z Z Z Z <| ND <| CF Z Z <| SK <| SQ <| SQ <| RG <| MV Z Z <| ND <| CF Z Z <| SK <| SQ <| RG <| LS (i := 0) [_, _, _, _, _, _, _, _, _, _, _, _] Z tyS_impl_Sender Z Z Z Z <| CV1 Z fun_impl_following Z (fun w hs => impl_following (rdSender_mk ⟨_, _, Z, hrd1_0 _ (fun c hc => hs.at_ c (MR (ML hc)))⟩ ⟨_, _, Z, hrd1_1 _ (fun c hc => hs.at_ c (MR (MR (ML hc))))⟩ ⟨_, _, Z, hrd1_2 _ (fun c hc => hs.at_ c (MR (MR (MR (ML hc)))))⟩ ⟨_, _, Z, hrd1_3 _ (fun c hc => hs.at_ c (MR (MR (MR (MR (ML hc))))))⟩)) <| ?_
  refine FA Z tyF_impl_Sender_0 Z <| rw_storeN (i := 0) [_] [_, _, _, _, _, _, _, _, _, _, _, _] [_, _, _, _] tyP_int.sz Z Z Z Z Z Z Z Z Z <| ND <| SQ <| RG <| LS (i := 0) [_, _, _, _, _, _, _, _, _, _, _, _] Z tyS_impl_Sender Z Z Z Z <| rw_storeN (i := 1) [_, _, _, _, _, _, _, _, _, _, _, _] [_, _, _, _, _, _, _, _, _, _, _, _] [_, _, _, _] tyS_impl_Sender.sz Z Z Z Z Z Z Z Z Z <| ND <| ?_
  refine gw_FP (pg PR (pg PR (pg PR (pg PR PR)))) (gw_F (F' := (c1_0 ++ (c1_1 ++ (c1_2 ++ (c1_3)))) ++ ([])) (by simp only [aN]) ?_)
  refine ret_cn (c1_0 ++ (c1_1 ++ (c1_2 ++ (c1_3)))) Try.func36 (res1 Try.func36 Z (rv_s (i := 1) [_, _, _, _, _, _, _, _, _, _, _, _] tyS_impl_Sender Z Z Z Z)) ?_ ?_
  · refine ⟨_, Z, ?_⟩
    rw [loseP_eq hS h3 (show (p.data.size == 0) = true by simp [hz_])]
    exact owSender_mk h1_0 h1_1 h1_2 h1_3
  · exact (List.sublist_append_left _ _).trans (List.sublist_append_right _ _)

set_option maxHeartbeats 2000000 in
set_option maxRecDepth 20000 in
theorem impl_AckPiece {w : World} {cs : List Value} {x : Sender} (hv : RdSender w cs x) {W : Nat} {txt : List UInt8} {p : Piece} (hS : SetOk W txt x p) : CN Try.prog 16 [.agg cs.toArray, .agg p.cells.toArray] w (fun v ch => ∃ cs', v = .agg cs'.toArray ∧ OwSender cs' (ackP x p) ch) := by
  obtain ⟨v0, v1, v2, v3, rfl, k0, k1, k2, k3⟩ := hv
  obtain ⟨A0, c0, rfl, hA0⟩ := k0
  obtain ⟨A1, c1, rfl, hA1⟩ := k1
  obtain ⟨A2, c2, rfl, hA2⟩ := k2
  obtain ⟨A3, c3, rfl, hA3⟩ := k3
  refine cn_of Try.func16 Z Z Z <| SQ <| RG <| BX [_, _, _, _, _, _, _, _, _, _, _, _] Z Z Z <| fun b1 => BX [_, _, _] Z Z Z <| fun b2 => AL Z tyZ_impl_Sender <| fun b3 => ND <| SQ <| RG <| LS (i := 2) [_, _, _, _, _, _, _, _, _, _, _, _] Z tyS_impl_Sender Z Z Z Z <| LS (i := 1) [_, _, _] Z tyS_impl_Piece Z Z Z Z <| CN1 Z fun_impl_settlePiece Z (fun w hs => impl_settlePiece_T ⟨_, _, _, _, Z, (hA0.s Pl.keeps hs), (hA1.s Pl.keeps hs), (hA2.s Pl.keeps hs), (hA3.s Pl.keeps hs)⟩ hS) <| fun v1 ch1 how1 => ?_
  obtain ⟨cs1, rfl, how1⟩ := how1
  obtain ⟨v1_0, v1_1, v1_2, v1_3, c1_0, c1_1, c1_2, c1_3, rfl, h1_0, h1_1, h1_2, h1_3, rfl⟩ := how1
  obtain ⟨R1_0, b1_0, rfl, hR1_0, hrd1_0⟩ := h1_0.shape eInt
  obtain ⟨R1_1, b1_1, rfl, hR1_1, hrd1_1⟩ := h1_1.shape eRange
  obtain ⟨R1_2, b1_2, rfl, hR1_2, hrd1_2⟩ := h1_2.shape eRange
  obtain ⟨R1_3, b1_3, rfl, hR1_3, hrd1_3⟩ := h1_3.shape eRange
  refine rw_F (F' := c1_0 ++ (c1_1 ++ (c1_2 ++ (c1_3 ++ ([]))))) (by simp only [aN]) <| rw_storeN (i := 0) [_, _, _, _, _, _, _, _, _, _, _, _] [_, _, _, _, _, _, _, _, _, _, _, _] [_, _, _] tyS_impl_Sender.sz Z Z Z Z Z Z Z Z Z <| ND <| ?_
  refine gw_FP (pg PR (pg PR (pg PR (pg PR PR)))) (gw_F (F' := (c1_0 ++ (c1_1 ++ (c1_2 ++ (c1_3)))) ++ ([])) (by simp only [aN]) ?_)
  refine ret_cn (c1_0 ++ (c1_1 ++ (c1_2 ++ (c1_3)))) Try.func16 (res1 Try.func16 Z (rv_s (i := 0) [_, _, _, _, _, _, _, _, _, _, _, _] tyS_impl_Sender Z Z Z Z)) ?_ ?_
  · refine ⟨_, Z, ?_⟩
    exact owSender_mk h1_0 h1_1 h1_2 h1_3
  · exact (List.sublist_append_left _ _).trans (List.sublist_append_right _ _)

set_option maxHeartbeats 2000000 in
set_option maxRecDepth 20000 in
theorem impl_LosePiece {w : World} {cs : List Value} {x : Sender} (hv : RdSender w cs x) {W : Nat} {txt : List UInt8} {p : Piece} (hS : SetOk W txt x p) : CN Try.prog 14 [.agg cs.toArray, .agg p.cells.toArray] w (fun v ch => ∃ cs', v = .agg cs'.toArray ∧ OwSender cs' (loseP x p) ch) := by
  obtain ⟨v0, v1, v2, v3, rfl, k0, k1, k2, k3⟩ := hv
  obtain ⟨A0, c0, rfl, hA0⟩ := k0
  obtain ⟨A1, c1, rfl, hA1⟩ := k1
  obtain ⟨A2, c2, rfl, hA2⟩ := k2
  obtain ⟨A3, c3, rfl, hA3⟩ := k3
  refine cn_of Try.func14 Z Z Z <| SQ <| RG <| BX [_, _, _, _, _, _, _, _, _, _, _, _] Z Z Z <| fun b1 => BX [_, _, _] Z Z Z <| fun b2 => AL Z tyZ_impl_Sender <| fun b3 => ND <| SQ <| RG <| LS (i := 2) [_, _, _, _, _, _, _, _, _, _, _, _] Z tyS_impl_Sender Z Z Z Z <| LS (i := 1) [_, _, _] Z tyS_impl_Piece Z Z Z Z <| CN1 Z fun_impl_settlePiece Z (fun w hs => impl_settlePiece_F ⟨_, _, _, _, Z, (hA0.s Pl.keeps hs), (hA1.s Pl.keeps hs), (hA2.s Pl.keeps hs), (hA3.s Pl.keeps hs)⟩ hS) <| fun v1 ch1 how1 => ?_
  obtain ⟨cs1, rfl, how1⟩ := how1
  obtain ⟨v1_0, v1_1, v1_2, v1_3, c1_0, c1_1, c1_2, c1_3, rfl, h1_0, h1_1, h1_2, h1_3, rfl⟩ := how1
  obtain ⟨R1_0, b1_0, rfl, hR1_0, hrd1_0⟩ := h1_0.shape eInt
  obtain ⟨R1_1, b1_1, rfl, hR1_1, hrd1_1⟩ := h1_1.shape eRange
  obtain ⟨R1_2, b1_2, rfl, hR1_2, hrd1_2⟩ := h1_2.shape eRange
  obtain ⟨R1_3, b1_3, rfl, hR1_3, hrd1_3⟩ := h1_3.shape eRange
  refine rw_F (F' := c1_0 ++ (c1_1 ++ (c1_2 ++ (c1_3 ++ ([]))))) (by simp only [aN]) <| rw_storeN (i := 0) [_, _, _, _, _, _, _, _, _, _, _, _] [_, _, _, _, _, _, _, _, _, _, _, _] [_, _, _] tyS_impl_Sender.sz Z Z Z Z Z Z Z Z Z <| ND <| ?_
  refine gw_FP (pg PR (pg PR (pg PR (pg PR PR)))) (gw_F (F' := (c1_0 ++ (c1_1 ++ (c1_2 ++ (c1_3)))) ++ ([])) (by simp only [aN]) ?_)
  refine ret_cn (c1_0 ++ (c1_1 ++ (c1_2 ++ (c1_3)))) Try.func14 (res1 Try.func14 Z (rv_s (i := 0) [_, _, _, _, _, _, _, _, _, _, _, _] tyS_impl_Sender Z Z Z Z)) ?_ ?_
  · refine ⟨_, Z, ?_⟩
    exact owSender_mk h1_0 h1_1 h1_2 h1_3
  · exact (List.sublist_append_left _ _).trans (List.sublist_append_right _ _)
end Go.Proofs.Ytbhnekiclbfmgaa
