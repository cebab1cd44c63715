/- Walks: draws. -/
import Derived.Test.YtbhnekiclbfmgaaGreatWXa
import Derived.Test.YtbhnekiclbfmgaaGreatWXd
import Derived.Test.YtbhnekiclbfmgaaGreatWXs
import Derived.Test.YtbhnekiclbfmgaaGreatWXv
import Derived.Test.YtbhnekiclbfmgaaGreatWXA
import Derived.Test.YtbhnekiclbfmgaaGreatWXF
import Derived.Test.YtbhnekiclbfmgaaGreatFactsX
namespace Go.Proofs.YtbhnekiclbfmgaaGreat
open SL Go.RowKit
theorem impl_within (a b c : Int) (w : World) : CV Tryz.prog 88 [.int .i64 a, .int .i64 b, .int .i64 c] w (.bool (within a b c)) := by
 refine cv_of Tryz.func88 Z Z Z<|SQ<|RG<|AS Z Z<|ND<|SQ<|RG<|MV Z Z<|MV Z Z<|rw_leq Z Z Z<|MV Z Z<|?_
 refine rw_caseL (j:=10) Z (fun h1=>?_) (fun h1=>?_)
 ·refine ON Z Z Z<|MV Z Z<|ON Z Z Z<|MV Z Z<|ON Z Z Z<|rw_leq Z Z Z<|PT Z Z Z Z<|AS Z Z<|ND<|RT Tryz.func88 Z Z<|?_
  simp only [within,h1] <;> rfl
 refine SKP Z<|PF Z Z Z Z<|AS Z Z<|ND<|RT Tryz.func88 Z Z<|?_
 simp only [within,h1] <;> rfl
theorem impl_isQuic (a : Int) (w : World) : CV Tryz.prog 70 [.int .i64 a] w (.bool (isQuic a)) := by
 refine cv_of Tryz.func70 Z Z Z<|SQ<|RG<|AS Z Z<|ND<|SQ<|RG<|MV Z Z<|CV1 Z fun_impl_within Z (fun w hs=>impl_within _ _ _ w)<|AS Z Z<|ND<|RT Tryz.func70 Z Z<|?_
 rfl
theorem impl_isRingSize (a : Int) (w : World) : CV Tryz.prog 87 [.int .i64 a] w (.bool (isRingSize a)) := by
 refine cv_of Tryz.func87 Z Z Z<|SQ<|RG<|AS Z Z<|ND<|SQ<|RG<|MV Z Z<|CV1 Z fun_impl_within Z (fun w hs=>impl_within _ _ _ w)<|MV Z Z<|?_
 refine rw_caseL (j:=5) Z (fun h1=>?_) (fun h1=>?_)
 ·refine ON Z Z Z<|MV Z Z<|ON Z Z Z<|MV Z Z<|ON Z Z Z<|rw_sub Z Z Z<|ON Z Z Z<|rw_and Z Z Z<|ON Z Z Z<|EQ1 Z Z Z<|PT Z Z Z Z<|AS Z Z<|ND<|RT Tryz.func87 Z Z<|?_
  simp only [isRingSize,h1] <;> rfl
 refine SKP Z<|PF Z Z Z Z<|AS Z Z<|ND<|RT Tryz.func87 Z Z<|?_
 simp only [isRingSize,h1] <;> rfl
theorem impl_IsRing_1 (n : Int) (w : World) : CV Tryz.prog 154 [.int .i64 n] w (.bool (!within n 0 255)) := by
 refine cv_of Tryz.func154 Z Z Z<|SQ<|RG<|AS Z Z<|ND<|SQ<|RG<|MV Z Z<|CV1 Z fun_impl_within Z (fun w hs=>impl_within _ _ _ w)<|NT Z Z<|AS Z Z<|ND<|RT Tryz.func154 Z Z<|?_
 rfl
theorem slices_IndexFunc_int {w : World} {v : Value} {l : List Int} (hv : RdS w 1 (Pl intC) v l) (hb : l.length ≤ 4194304) : CV Tryz.prog 174 [v, (.func (.func 154) #[] #[])] w (.int .i64 (badFrom 0 l)) := by
 obtain ⟨A,c,rfl,hA⟩:=hv
 refine cv_of Tryz.func174 Z Z Z<|SQ<|RG<|AS Z Z<|ND<|SQ<|SQ<|RG<|MV Z Z<|rw_len Z tyE_S_int Z<|MV Z Z<|ND<|BK<|?_
 refine gw_loopC (α:=Nat) (fun z_=>z_ ≤ l.length ∧ badFrom 0 l = badFrom z_ (l.drop z_)) (fun z_=>l.length - z_) (fun e z_=>(8,.int .i64 (z_ : Int)) :: e) 0 [(0,_),(1,_),(7,_)] (Sub.consE Z Z (Sub.cons (i:=0) Z (Sub.cons (i:=1) Z (Sub.cons (i:=7) Z (Sub.nil _))))) ?_ ?_
 ·exact ⟨Nat.zero_le _,rfl⟩
 ·rintro i hI1 ih1
  try dsimp only
  obtain ⟨hle,hI⟩:=hI1
  refine SQ<|RG<|rw_lss Z Z Z<|ND<|SQ<|?_
  refine gw_cond Z (fun h1=>?_) (fun h1=>?_)
  ·have hi2:=lt_of_dec h1
   obtain ⟨x3,hx3⟩:=get_of_lt hi2
   have hd3:=drop_cons hx3
   refine SK<|SQ<|BK<|SQ<|RG<|MV Z Z<|AS Z Z<|ND<|SQ<|RG<|MV Z Z<|MV Z Z<|MV Z Z<|?_
   have hq4:=hA.plain hx3
   refine rw_indexAddr (i) Z tyE_S_int Z Z Z (hA.some hi2) hi2<|rw_loadX _ Z tyP_int Z (fun w hs=>hq4.ld0 hs Z)<|rw_cvF Z Z fun_impl_IsRing_1 Z (fun w hs=>impl_IsRing_1 _ w)<|ND<|?_
   refine gw_cond Z (fun h2=>?_) (fun h2=>?_)
   ·refine SQ<|RG<|MV Z Z<|AS Z Z<|ND<|RT Tryz.func174 Z Z<|?_
    rw [hI,hd3]; simp [badFrom,h2]
   refine SK<|IB<|RG<|rw_add Z Z Z<|MV Z Z<|ND<|?_
   refine gw_sub (Sub.consE (i:=8) Z (int_succ (by omega)) (Sub.cons (i:=0) Z (Sub.cons (i:=1) Z (Sub.cons (i:=7) Z (Sub.nil _))))) (ih1 (i + 1) ?_ ?_)
   ·exact ⟨by omega,by rw [hI,hd3]; simp [badFrom,h2]⟩
   ·show l.length - (i + 1) < l.length - i; omega
  have hn5:=nil_of_dec h1
  refine EX Z<|SQ<|RG<|AS Z Z<|ND<|RT Tryz.func174 Z Z<|?_
  rw [hI,hn5]; rfl
theorem slices_ContainsFunc_int {w : World} {v : Value} {l : List Int} (hv : RdS w 1 (Pl intC) v l) (hb : l.length ≤ 4194304) : CV Tryz.prog 153 [v, (.func (.func 154) #[] #[])] w (.bool (!l.all fun n => within n 0 255)) := by
 obtain ⟨A,c,rfl,hA⟩:=hv
 refine cv_of Tryz.func153 Z Z Z<|SQ<|RG<|AS Z Z<|ND<|SQ<|RG<|MV Z Z<|MV Z Z<|CV1 Z fun_slices_IndexFunc_S_int_int Z (fun w hs=>slices_IndexFunc_int (hA.s Pl.keeps hs) (by omega))<|rw_geq Z Z Z<|AS Z Z<|ND<|RT Tryz.func153 Z Z<|?_
 exact congrArg _ (bad_all l 0)
theorem impl_IsRing {w : World} {cs : List Value} {x : Ring} (hv : RdRing w cs x) (hb : x.le 1048576) : CV Tryz.prog 119 [.agg cs.toArray] w (.bool (isRing x)) := by
 obtain ⟨v0,rfl,k0⟩:=hv
 obtain ⟨A0,c0,rfl,hA0⟩:=k0
 have hb0 : x.cells.length ≤ 1048576:=hb
 refine cv_of Tryz.func119 Z Z Z<|SQ<|RG<|BX [_,_,_,_] Z Z Z<|fun b1=>AS Z Z<|ND<|SQ<|SQ<|RG<|FA Z tyF_impl_Ring_0 Z<|LD (i:=0) Z tyP_int Z Z Z<|CV1 Z fun_impl_isRingSize Z (fun w hs=>impl_isRingSize _ w)<|NT Z Z<|MV Z Z<|?_
 refine rw_caseN (j:=7) Z (fun h1=>?_) (fun h1=>?_)
 ·refine SKP Z<|PT Z Z Z Z<|MV Z Z<|SKP Z<|PT Z Z Z Z<|ND<|CT Z Z<|SQ<|RG<|AS Z Z<|ND<|RT Tryz.func119 Z Z<|?_
  unfold isRing
  generalize (x.cells.all fun n=>within n 0 255) = ab at *
  simp_all [maxQuic]
 refine ON Z Z Z<|FA Z tyF_impl_Ring_3 Z<|ON Z Z Z<|LD (i:=0) Z tyP_S_int Z Z Z<|ON Z Z Z<|rw_len Z tyE_S_int Z<|ON Z Z Z<|FA Z tyF_impl_Ring_0 Z<|ON Z Z Z<|LD (i:=0) Z tyP_int Z Z Z<|ON Z Z Z<|rw_neq Z Z Z<|PF Z Z Z Z<|MV Z Z<|?_
 refine rw_caseN (j:=15) Z (fun h2=>?_) (fun h2=>?_)
 ·refine SKP Z<|PT Z Z Z Z<|ND<|CT Z Z<|SQ<|RG<|AS Z Z<|ND<|RT Tryz.func119 Z Z<|?_
  unfold isRing
  generalize (x.cells.all fun n=>within n 0 255) = ab at *
  simp_all [maxQuic]
 refine ON Z Z Z<|FA Z tyF_impl_Ring_3 Z<|ON Z Z Z<|LD (i:=0) Z tyP_S_int Z Z Z<|ON Z Z Z<|CV1 Z fun_slices_ContainsFunc_S_int_int Z (fun w hs=>slices_ContainsFunc_int (hA0.s Pl.keeps hs) (by omega))<|PF Z Z Z Z<|ND<|?_
 refine gw_cond Z (fun h3=>?_) (fun h3=>?_)
 ·refine SQ<|RG<|AS Z Z<|ND<|RT Tryz.func119 Z Z<|?_
  unfold isRing
  generalize (x.cells.all fun n=>within n 0 255) = ab at *
  simp_all [maxQuic]
 refine SK<|SQ<|RG<|FA Z tyF_impl_Ring_1 Z<|LD (i:=0) Z tyP_int Z Z Z<|CV1 Z fun_impl_isQuic Z (fun w hs=>impl_isQuic _ w)<|MV Z Z<|?_
 refine rw_caseL (j:=23) Z (fun h4=>?_) (fun h4=>?_)
 ·refine ON Z Z Z<|FA Z tyF_impl_Ring_2 Z<|ON Z Z Z<|LD (i:=0) Z tyP_int Z Z Z<|ON Z Z Z<|FA Z tyF_impl_Ring_1 Z<|ON Z Z Z<|LD (i:=0) Z tyP_int Z Z Z<|ON Z Z Z<|FA Z tyF_impl_Ring_1 Z<|ON Z Z Z<|LD (i:=0) Z tyP_int Z Z Z<|ON Z Z Z<|FA Z tyF_impl_Ring_0 Z<|ON Z Z Z<|LD (i:=0) Z tyP_int Z Z Z<|ON Z Z Z<|?_
  refine rw_add Z Z Z<|ON Z Z Z<|rw_min Z Z Z<|ON Z Z Z<|CV1 Z fun_impl_within Z (fun w hs=>impl_within _ _ _ w)<|PT Z Z Z Z<|AS Z Z<|ND<|RT Tryz.func119 Z Z<|?_
  unfold isRing
  generalize (x.cells.all fun n=>within n 0 255) = ab at *
  simp_all [maxQuic]
 refine SKP Z<|PF Z Z Z Z<|AS Z Z<|ND<|RT Tryz.func119 Z Z<|?_
 unfold isRing
 generalize (x.cells.all fun n=>within n 0 255) = ab at *
 simp_all [maxQuic]
theorem impl_isRange (r : Range) (w : World) : CV Tryz.prog 155 [.agg r.cells.toArray] w (.bool (isRange r)) := by
 refine cv_of Tryz.func155 Z Z Z<|SQ<|RG<|BX [_,_] Z Z Z<|fun b1=>AS Z Z<|ND<|SQ<|RG<|FA Z tyF_impl_Range_0 Z<|LD (i:=0) Z tyP_int Z Z Z<|rw_geq Z Z Z<|MV Z Z<|?_
 refine rw_caseL (j:=6) Z (fun h1=>?_) (fun h1=>?_)
 ·refine ON Z Z Z<|FA Z tyF_impl_Range_0 Z<|ON Z Z Z<|LD (i:=0) Z tyP_int Z Z Z<|ON Z Z Z<|FA Z tyF_impl_Range_1 Z<|ON Z Z Z<|LD (i:=0) Z tyP_int Z Z Z<|ON Z Z Z<|rw_lss Z Z Z<|PT Z Z Z Z<|MV Z Z<|?_
  refine rw_caseL (j:=13) Z (fun h2=>?_) (fun h2=>?_)
  ·refine ON Z Z Z<|FA Z tyF_impl_Range_1 Z<|ON Z Z Z<|LD (i:=0) Z tyP_int Z Z Z<|ON Z Z Z<|rw_leq Z Z Z<|PT Z Z Z Z<|AS Z Z<|ND<|RT Tryz.func155 Z Z<|?_
   simp only [isRange,h1,h2] <;> rfl
  refine SKP Z<|PF Z Z Z Z<|AS Z Z<|ND<|RT Tryz.func155 Z Z<|?_
  simp only [isRange,h1,h2] <;> rfl
 refine SKP Z<|PF Z Z Z Z<|MV Z Z<|SKP Z<|PF Z Z Z Z<|AS Z Z<|ND<|RT Tryz.func155 Z Z<|?_
 simp only [isRange,h1] <;> rfl
theorem impl_IsRanges {w : World} {v : Value} {l : List Range} (hv : RdS w 2 (Pl Range.cells) v l) (hb : l.length ≤ 4194304) : CV Tryz.prog 120 [v] w (.bool (isRanges l)) := by
 obtain ⟨A,c,rfl,hA⟩:=hv
 refine cv_of Tryz.func120 Z Z Z<|SQ<|RG<|AS Z Z<|ND<|SQ<|SQ<|RG<|MV Z Z<|rw_len Z tyE_S_impl_Range Z<|MV Z Z<|ND<|BK<|?_
 refine gw_loopC (α:=Nat) (fun z_=>z_ ≤ l.length ∧ isRanges l = rangesFrom (prevOf l z_) (l.drop z_)) (fun z_=>l.length - z_) (fun e z_=>(7,.int .i64 (z_ : Int)) :: e) 0 [(0,_),(5,_),(6,_)] (Sub.consE Z Z (Sub.cons (i:=0) Z (Sub.cons (i:=5) Z (Sub.cons (i:=6) Z (Sub.nil _))))) ?_ ?_
 ·exact ⟨Nat.zero_le _,rfl⟩
 ·rintro i hI1 ih1
  try dsimp only
  obtain ⟨hle,hI⟩:=hI1
  refine SQ<|RG<|rw_lss Z Z Z<|ND<|SQ<|?_
  refine gw_cond Z (fun h1=>?_) (fun h1=>?_)
  ·have hi2:=lt_of_dec h1
   obtain ⟨x3,hx3⟩:=get_of_lt hi2
   have hd3:=drop_cons hx3
   refine SK<|SQ<|BK<|SQ<|RG<|MV Z Z<|?_
   have hq4:=hA.plain hx3
   refine rw_indexAddr (i) Z tyE_S_impl_Range Z Z Z (hA.some hi2) hi2<|rw_loadX_s [_,_] Z tyS_impl_Range Z Z (fun w hs=>hq4.lds0 (n:=2) hs Z)<|AL Z tyZ_impl_Range<|fun b1=>AS Z Z<|ST (i:=0) [_,_] [_,_] tyS_impl_Range.sz Z Z Z Z Z Z Z Z<|ND<|SQ<|gw_draw' [dd 0,dd 1,dd 2,dd 3,dd 4,dd 5,dd 6,dd 7,dd 8,dd 9,dd 10,dd 11,dd 12,dd 13,dd 14] [15,16,17] mixed Z (FD Z) (ts:=[_,_,_]) Z<|DT Z Z (fun _ q=>LS (i:=0) [_,_] Z tyS_impl_Range Z Z Z Z q)<|?_
   refine DT Z Z (fun _ q=>CV1 Z fun_impl_isRange Z (fun w hs=>impl_isRange _ w) q)<|DT Z Z (fun _ q=>NT Z Z q)<|DM Z Z Z<|?_
   refine dw_caseN (j:=15) Z (fun h2=>?_) (fun h2=>?_)
   ·refine DSK Z<|dw_nil<|SKP Z<|PT Z Z Z Z<|ND<|CT Z Z<|SQ<|RG<|AS Z Z<|ND<|RT Tryz.func120 Z Z<|?_
    rw [hI,hd3]; simp [rangesFrom,h2]
   refine DT Z Z (fun _ q=>ON Z Z Z (MV Z Z q))<|DT Z Z (fun _ q=>ON Z Z Z (rw_gtr Z Z Z q))<|DT Z Z (fun _ q=>ON Z Z Z (MV Z Z q))<|?_
   refine dw_caseL (j:=18) Z (fun h3=>?_) (fun h3=>?_)
   ·have hp5:=pos_of h3
    refine DT Z Z (fun _ q=>ON Z Z Z (FA Z tyF_impl_Range_0 Z q))<|DT Z Z (fun _ q=>ON Z Z Z (LD (i:=0) Z tyP_int Z Z Z q))<|DT Z Z (fun _ q=>ON Z Z Z (MV Z Z q))<|DT Z Z (fun _ q=>ON Z Z Z (MV Z Z q))<|DT Z Z (fun _ q=>ON Z Z Z (rw_sub Z Z Z q))<|?_
    have hi6 : i - 1 < l.length:=by omega
    obtain ⟨x7,hx7⟩:=get_of_lt hi6
    have hd7:=drop_cons hx7
    have hq8:=hA.plain hx7
    refine DT Z Z (fun _ q=>ON Z Z Z (rw_indexAddr (i - 1) Z tyE_S_impl_Range Z Z (pred_of h3 (by omega)) (hA.some hi6) hi6 q))<|DT Z Z (fun _ q=>ON Z Z Z (FX Z tyF_impl_Range_1 Z q))<|DT Z Z (fun _ q=>ON Z Z Z (rw_loadX _ Z tyP_int Z (fun w hs=>hq8.ld hs Z) q))<|dw_nil<|ON Z Z Z<|rw_leq Z Z Z<|ON Z Z Z<|PT Z Z Z Z<|PF Z Z Z Z<|ND<|?_
    refine gw_cond Z (fun h4=>?_) (fun h4=>?_)
    ·refine SQ<|RG<|AS Z Z<|ND<|RT Tryz.func120 Z Z<|?_
     rw [hI,hd3]; simp [rangesFrom,h2,h4,prevOf_pos hp5 hx7]
    refine SK<|IB<|RG<|rw_add Z Z Z<|MV Z Z<|ND<|gw_dropN 1<|?_
    refine gw_sub (Sub.consE (i:=7) Z (int_succ (by omega)) (Sub.cons (i:=0) Z (Sub.cons (i:=5) Z (Sub.cons (i:=6) Z (Sub.nil _))))) (ih1 (i + 1) ?_ ?_)
    ·exact ⟨by omega,by rw [hI,hd3,prevOf_succ,hx3]; simp [rangesFrom,h2,h4,prevOf_pos hp5 hx7]⟩
    ·show l.length - (i + 1) < l.length - i; omega
   have hz9:=zero_of h3
   refine DSK Z<|dw_nil<|OF Z Z Z Z<|ON Z Z Z<|PF Z Z Z Z<|PF Z Z Z Z<|ND<|CF Z Z<|SK<|IB<|RG<|rw_add Z Z Z<|MV Z Z<|ND<|gw_dropN 1<|?_
   refine gw_sub (Sub.consE (i:=7) Z (int_succ (by omega)) (Sub.cons (i:=0) Z (Sub.cons (i:=5) Z (Sub.cons (i:=6) Z (Sub.nil _))))) (ih1 (i + 1) ?_ ?_)
   ·exact ⟨by omega,by rw [hI,hd3,prevOf_succ,hx3]; simp [rangesFrom,h2,prevOf_z (l:=l) hz9]⟩
   ·show l.length - (i + 1) < l.length - i; omega
  have hn10:=nil_of_dec h1
  refine EX Z<|SQ<|RG<|AS Z Z<|ND<|RT Tryz.func120 Z Z<|?_
  rw [hI,hn10]; rfl
theorem impl_CountNumbers {w : World} {v : Value} {l : List Range} (hv : RdS w 2 (Pl Range.cells) v l) (hb : l.length ≤ 4194304) : CV Tryz.prog 156 [v] w (.int .i64 (countNumbers l)) := by
 obtain ⟨A,c,rfl,hA⟩:=hv
 refine cv_of Tryz.func156 Z Z Z<|SQ<|RG<|AS Z Z<|ND<|SQ<|SQ<|RG<|MV Z Z<|CV1 Z fun_impl_IsRanges Z (fun w hs=>impl_IsRanges (hA.s Pl.keeps hs) (by omega))<|NT Z Z<|ND<|?_
 refine gw_condN Z (fun h1=>?_) (fun h1=>?_)
 ·refine SQ<|RG<|AS Z Z<|ND<|RT Tryz.func156 Z Z<|?_
  simp [countNumbers,h1]
 refine SK<|SQ<|RG<|AS Z Z<|ND<|SQ<|SQ<|RG<|MV Z Z<|rw_len Z tyE_S_impl_Range Z<|MV Z Z<|ND<|BK<|?_
 refine gw_loopC (α:=Nat × Int) (fun z_=>z_.1 ≤ l.length ∧ countNumbers l = countFrom z_.2 (l.drop z_.1)) (fun z_=>l.length - z_.1) (fun e z_=>(11,.int .i64 (z_.1 : Int)) :: (3,.int .i64 z_.2) :: e) (0,0) [(2,_),(9,_),(10,_)] (Sub.consE Z Z (Sub.consE Z Z (Sub.cons (i:=2) Z (Sub.cons (i:=9) Z (Sub.cons (i:=10) Z (Sub.nil _)))))) ?_ ?_
 ·exact ⟨Nat.zero_le _,by simp [countNumbers,h1]⟩
 ·rintro ⟨i,n⟩ hI1 ih1
  dsimp only at hI1
  dsimp only
  obtain ⟨hle,hI⟩:=hI1
  refine SQ<|RG<|rw_lss Z Z Z<|ND<|SQ<|?_
  refine gw_cond Z (fun h2=>?_) (fun h2=>?_)
  ·have hi2:=lt_of_dec h2
   obtain ⟨x3,hx3⟩:=get_of_lt hi2
   have hd3:=drop_cons hx3
   refine SK<|SQ<|BK<|SQ<|RG<|?_
   have hq4:=hA.plain hx3
   refine rw_indexAddr (i) Z tyE_S_impl_Range Z Z Z (hA.some hi2) hi2<|rw_loadX_s [_,_] Z tyS_impl_Range Z Z (fun w hs=>hq4.lds0 (n:=2) hs Z)<|AL Z tyZ_impl_Range<|fun b1=>ST (i:=0) [_,_] [_,_] tyS_impl_Range.sz Z Z Z Z Z Z Z Z<|ND<|RG<|MV Z Z<|FA Z tyF_impl_Range_1 Z<|LD (i:=0) Z tyP_int Z Z Z<|FA Z tyF_impl_Range_0 Z<|LD (i:=0) Z tyP_int Z Z Z<|rw_sub Z Z Z<|rw_add Z Z Z<|AS Z Z<|?_
   refine ND<|IB<|RG<|rw_add Z Z Z<|MV Z Z<|ND<|gw_dropN 1<|?_
   refine gw_sub (Sub.consE (i:=11) Z (int_succ (by omega)) (Sub.consE (i:=3) Z Z (Sub.cons (i:=2) Z (Sub.cons (i:=9) Z (Sub.cons (i:=10) Z (Sub.nil _)))))) (ih1 (i + 1,w64 (n + w64 (x3.high - x3.low))) ?_ ?_)
   ·exact ⟨by omega,by rw [hI,hd3]; simp [countFrom]⟩
   ·show l.length - (i + 1) < l.length - i; omega
  have hn5:=nil_of_dec h2
  refine EX Z<|SQ<|RG<|MV Z Z<|AS Z Z<|ND<|RT Tryz.func156 Z Z<|?_
  rw [hI,hn5]; rfl
theorem impl_copyRanges {w : World} {v : Value} {l : List Range} (hv : RdS w 2 (Pl Range.cells) v l) (hb : l.length ≤ 4194304) : CN Tryz.prog 157 [v] w (fun v ch => OwA 132 2 (PlO Range.cells) v l ch) := by
 obtain ⟨A,c,rfl,hA⟩:=hv
 refine cn_of Tryz.func157 Z Z Z<|SQ<|RG<|AS Z Z<|ND<|SQ<|RG<|rw_slice0 Z tyM_S_impl_Range (PlO Range.cells)<|fun v1 how1=>MV Z Z<|rw_appendP Z tyM_S_impl_Range eRange (fun _=>Z) Z Z how1 (fun w hs=>hA.sat Pl.keeps hs) (.refl _) (by first | omega | (simp; omega))<|fun v2 ch2 how2=>AS Z Z<|ND<|?_
 refine ret_cn ch2 Tryz.func157 (res1 Tryz.func157 Z (rv_tmp Z)) ?_ ?_
 ·exact how2
 ·simp
theorem impl_AddRange {w : World} {v : Value} {l : List Range} (hv : RdS w 2 (Pl Range.cells) v l) (hb : l.length ≤ 4194304) (r : Range) : CN Tryz.prog 158 [v, .agg r.cells.toArray] w (fun v ch => OwS 132 2 (PlO Range.cells) v (addRange l r) ch) := by
 obtain ⟨A,c,rfl,hA⟩:=hv
 refine cn_of Tryz.func158 Z Z Z<|SQ<|RG<|BX [_,_] Z Z Z<|fun b1=>AS Z Z<|ND<|SQ<|SQ<|RG<|MV Z Z<|CV1 Z fun_impl_IsRanges Z (fun w hs=>impl_IsRanges (hA.s Pl.keeps hs) (by omega))<|NT Z Z<|MV Z Z<|?_
 refine rw_caseN (j:=12) Z (fun h1=>?_) (fun h1=>?_)
 ·refine SKP Z<|PT Z Z Z Z<|ND<|CT Z Z<|SQ<|RG<|MV Z Z<|CN1 Z fun_impl_copyRanges Z (fun w hs=>impl_copyRanges (hA.s Pl.keeps hs) (by omega))<|fun v1 ch1 how1=>AS Z Z<|ND<|?_
  refine ret_cn ch1 Tryz.func158 (res1 Tryz.func158 Z (rv_tmp Z)) ?_ ?_
  ·have hm : addRange l r = l:=by simp [addRange,h1]
   rw [hm]; exact OwA.s how1
  ·simp
 refine ON Z Z Z<|LS (i:=0) [_,_] Z tyS_impl_Range Z Z Z Z<|ON Z Z Z<|CV1 Z fun_impl_isRange Z (fun w hs=>impl_isRange _ w)<|ON Z Z Z<|NT Z Z<|PF Z Z Z Z<|ND<|?_
 refine gw_condN Z (fun h2=>?_) (fun h2=>?_)
 ·refine SQ<|RG<|MV Z Z<|CN1 Z fun_impl_copyRanges Z (fun w hs=>impl_copyRanges (hA.s Pl.keeps hs) (by omega))<|fun v2 ch2 how2=>AS Z Z<|ND<|?_
  refine ret_cn ch2 Tryz.func158 (res1 Tryz.func158 Z (rv_tmp Z)) ?_ ?_
  ·have hm : addRange l r = l:=by simp [addRange,h1,h2]
   rw [hm]; exact OwA.s how2
  ·simp
 refine SK<|SQ<|RG<|rw_slice0 Z tyM_S_impl_Range (PlO Range.cells)<|fun v3 how3=>AS Z Z<|AS Z Z<|ND<|SQ<|SQ<|RG<|MV Z Z<|rw_len Z tyE_S_impl_Range Z<|MV Z Z<|ND<|BK<|?_
 refine gw_loopX (α:=Nat × Range × Bool × List Range × Value × List Ck) (fun z_=>z_.1 ≤ l.length ∧ z_.2.2.2.1.length + (bif z_.2.2.1 then 0 else 1) ≤ z_.1 + 1 ∧ OwA 132 2 (PlO Range.cells) z_.2.2.2.2.1 z_.2.2.2.1 z_.2.2.2.2.2 ∧ addRange l r = z_.2.2.2.1 ++ addGo z_.2.1 z_.2.2.1 (l.drop z_.1)) (fun z_=>l.length - z_.1) (fun e z_=>(22,.int .i64 (z_.1 : Int)) :: (6,.bool z_.2.2.1) :: (5,z_.2.2.2.2.1) :: e) (fun B z_=>B.set 0 ⟨b1,132,z_.2.1.cells⟩) (fun F z_=>z_.2.2.2.2.2 ++ F) (0,r,false,[],v3,[]) [(3,_),(4,_),(20,_),(21,_)] (Sub.consE Z Z (Sub.consE Z Z (Sub.consE Z Z (Sub.cons (i:=3) Z (Sub.cons (i:=4) Z (Sub.cons (i:=20) Z (Sub.cons (i:=21) Z (Sub.nil _)))))))) Z Z ?_ ?_
 ·exact ⟨Nat.zero_le _,Nat.le_refl _,how3,by simp [addRange,h1,h2]⟩
 ·rintro ⟨i,r,pl,o,v,ch⟩ hI4 ih4
  dsimp only at hI4
  dsimp only [List.set]
  obtain ⟨hle,ho,hO,hI⟩:=hI4
  refine SQ<|RG<|rw_lss Z Z Z<|ND<|SQ<|?_
  refine gw_cond Z (fun h3=>?_) (fun h3=>?_)
  ·have hi5:=lt_of_dec h3
   obtain ⟨x6,hx6⟩:=get_of_lt hi5
   have hd6:=drop_cons hx6
   refine SK<|SQ<|BK<|SQ<|RG<|?_
   have hq7:=hA.plain hx6
   refine rw_indexAddr (i) Z tyE_S_impl_Range Z Z Z (hA.some hi5) hi5<|rw_loadX_s [_,_] Z tyS_impl_Range Z Z (fun w hs=>hq7.lds0 (n:=2) hs Z)<|AL Z tyZ_impl_Range<|fun b2=>ST (i:=0) [_,_] [_,_] tyS_impl_Range.sz Z Z Z Z Z Z Z Z<|ND<|BK<|SQ<|RG<|FA Z tyF_impl_Range_1 Z<|LD (i:=0) Z tyP_int Z Z Z<|FA Z tyF_impl_Range_0 Z<|LD (i:=1) Z tyP_int Z Z Z<|rw_lss Z Z Z<|AS Z Z<|ND<|?_
   refine gw_cond Z (fun h4=>?_) (fun h4=>?_)
   ·refine RG<|MV Z Z<|LS (i:=0) [_,_] Z tyS_impl_Range Z Z Z Z<|rw_slice (xs:=[(0,_)]) [_,_] Z tyM_S_impl_Range Z Z Z Z<|fun b3=>rw_append1 (i:=0) (a:=x6) Z tyM_S_impl_Range eRange Z Z Z hO ⟨Z,Z⟩ (.refl _) (by simp [] at ho ⊢; omega)<|fun v8 ch8 how8=>AS Z Z<|ND<|IB<|IB<|RG<|rw_add Z Z Z<|MV Z Z<|ND<|?_
    refine gw_dropN 2<|?_
    refine gw_sub (Sub.consE (i:=22) Z (int_succ (by omega)) (Sub.consE (i:=6) Z Z (Sub.consE (i:=5) Z Z (Sub.cons (i:=3) Z (Sub.cons (i:=4) Z (Sub.cons (i:=20) Z (Sub.cons (i:=21) Z (Sub.nil _)))))))) (ih4 (i + 1,r,pl,(o ++ [x6]),v8,ch8) ?_ ?_)
    ·refine ⟨by omega,?_,how8,?_⟩
     ·simp [] at ho ⊢; omega
     ·rw [hI,hd6]; simp [addGo,h4]
    ·show l.length - (i + 1) < l.length - i; omega
   refine SQ<|RG<|FA Z tyF_impl_Range_0 Z<|LD (i:=0) Z tyP_int Z Z Z<|FA Z tyF_impl_Range_1 Z<|LD (i:=1) Z tyP_int Z Z Z<|rw_gtr Z Z Z<|AS Z Z<|ND<|?_
   refine gw_cond Z (fun h5=>?_) (fun h5=>?_)
   ·refine SQ<|SQ<|RG<|MV Z Z<|NT Z Z<|ND<|?_
    refine gw_condN Z (fun h6=>?_) (fun h6=>?_)
    ·refine SQ<|RG<|MV Z Z<|LS (i:=1) [_,_] Z tyS_impl_Range Z Z Z Z<|rw_slice (xs:=[(0,_)]) [_,_] Z tyM_S_impl_Range Z Z Z Z<|fun b4=>rw_append1 (i:=0) (a:=r) Z tyM_S_impl_Range eRange Z Z Z hO ⟨Z,Z⟩ (.refl _) (by simp [h6] at ho ⊢; omega)<|fun v9 ch9 how9=>AS Z Z<|ND<|RG<|AS Z Z<|ND<|RG<|MV Z Z<|LS (i:=1) [_,_] Z tyS_impl_Range Z Z Z Z<|rw_slice (xs:=[(0,_)]) [_,_] Z tyM_S_impl_Range Z Z Z Z<|fun b5=>rw_append1 (i:=0) (a:=x6) Z tyM_S_impl_Range eRange Z Z Z how9 ⟨Z,Z⟩ (.refl _) (by simp [h6] at ho ⊢; omega)<|fun v10 ch10 how10=>?_
     refine AS Z Z<|ND<|IB<|IB<|RG<|rw_add Z Z Z<|MV Z Z<|ND<|?_
     refine gw_dropN 3<|?_
     refine gw_sub (Sub.consE (i:=22) Z (int_succ (by omega)) (Sub.consE (i:=6) Z Z (Sub.consE (i:=5) Z Z (Sub.cons (i:=3) Z (Sub.cons (i:=4) Z (Sub.cons (i:=20) Z (Sub.cons (i:=21) Z (Sub.nil _)))))))) (ih4 (i + 1,r,true,(o ++ [r] ++ [x6]),v10,ch10) ?_ ?_)
     ·refine ⟨by omega,?_,how10,?_⟩
      ·simp [h6] at ho ⊢; omega
      ·rw [hI,hd6]; simp [addGo,h4,h5,h6]
     ·show l.length - (i + 1) < l.length - i; omega
    refine SK<|RG<|MV Z Z<|LS (i:=0) [_,_] Z tyS_impl_Range Z Z Z Z<|rw_slice (xs:=[(0,_)]) [_,_] Z tyM_S_impl_Range Z Z Z Z<|fun b6=>rw_append1 (i:=0) (a:=x6) Z tyM_S_impl_Range eRange Z Z Z hO ⟨Z,Z⟩ (.refl _) (by simp [h6] at ho ⊢; omega)<|fun v11 ch11 how11=>AS Z Z<|ND<|IB<|IB<|RG<|rw_add Z Z Z<|MV Z Z<|ND<|?_
    refine gw_dropN 2<|?_
    refine gw_sub (Sub.consE (i:=22) Z (int_succ (by omega)) (Sub.consE (i:=6) Z Z (Sub.consE (i:=5) Z Z (Sub.cons (i:=3) Z (Sub.cons (i:=4) Z (Sub.cons (i:=20) Z (Sub.cons (i:=21) Z (Sub.nil _)))))))) (ih4 (i + 1,r,pl,(o ++ [x6]),v11,ch11) ?_ ?_)
    ·refine ⟨by omega,?_,how11,?_⟩
     ·simp [h6] at ho ⊢; omega
     ·rw [hI,hd6]; simp [addGo,h4,h5,h6]
    ·show l.length - (i + 1) < l.length - i; omega
   refine RG<|FA Z tyF_impl_Range_0 Z<|LD (i:=1) Z tyP_int Z Z Z<|FA Z tyF_impl_Range_0 Z<|LD (i:=0) Z tyP_int Z Z Z<|rw_min Z Z Z<|FA Z tyF_impl_Range_1 Z<|LD (i:=1) Z tyP_int Z Z Z<|FA Z tyF_impl_Range_1 Z<|LD (i:=0) Z tyP_int Z Z Z<|rw_max Z Z Z<|rw_build [_,_] Z tyB_impl_Range tyZ_impl_Range Z Z<|ST (i:=1) [_,_] [_,_] tyS_impl_Range.sz Z Z Z Z Z Z Z Z<|ND<|?_
   refine IB<|IB<|RG<|rw_add Z Z Z<|MV Z Z<|ND<|?_
   refine gw_dropN 1<|?_
   refine gw_sub (Sub.consE (i:=22) Z (int_succ (by omega)) (Sub.consE (i:=6) Z Z (Sub.consE (i:=5) Z Z (Sub.cons (i:=3) Z (Sub.cons (i:=4) Z (Sub.cons (i:=20) Z (Sub.cons (i:=21) Z (Sub.nil _)))))))) (ih4 (i + 1,⟨min r.low x6.low,max r.high x6.high⟩,pl,o,v,ch) ?_ ?_)
   ·refine ⟨by omega,?_,hO,?_⟩
    ·simp [] at ho ⊢; omega
    ·rw [hI,hd6]; simp [addGo,h4,h5]
   ·show l.length - (i + 1) < l.length - i; omega
  have hn12:=nil_of_dec h3
  refine EX Z<|SQ<|SQ<|RG<|MV Z Z<|NT Z Z<|ND<|?_
  refine gw_condN Z (fun h7=>?_) (fun h7=>?_)
  ·refine RG<|MV Z Z<|LS (i:=0) [_,_] Z tyS_impl_Range Z Z Z Z<|rw_slice (xs:=[(0,_)]) [_,_] Z tyM_S_impl_Range Z Z Z Z<|fun b7=>rw_append1 (i:=0) (a:=r) Z tyM_S_impl_Range eRange Z Z Z hO ⟨Z,Z⟩ (.refl _) (by simp [h7] at ho ⊢; omega)<|fun v13 ch13 how13=>AS Z Z<|ND<|SQ<|RG<|MV Z Z<|AS Z Z<|ND<|?_
   refine ret_cn ch13 Tryz.func158 (res1 Tryz.func158 Z (rv_tmp Z)) ?_ ?_
   ·rw [hI,hn12]; simp only [addGo,cond_false,h7]; exact OwA.s how13
   ·simp
  refine SK<|SQ<|RG<|MV Z Z<|AS Z Z<|ND<|?_
  refine ret_cn ch Tryz.func158 (res1 Tryz.func158 Z (rv_tmp Z)) ?_ ?_
  ·rw [hI,hn12]; simp only [addGo,cond_true,List.append_nil,h7]; exact OwA.s hO
  ·simp
theorem impl_endsBehind {w : World} {v : Value} {l : List Range} (hv : RdS w 2 (Pl Range.cells) v l) (hb : l.length ≤ 4194304) (p : Int) : CV Tryz.prog 123 [v, .int .i64 p] w (.bool (endsBehind l p)) := by
 obtain ⟨A,c,rfl,hA⟩:=hv
 refine cv_of Tryz.func123 Z Z Z<|SQ<|RG<|AS Z Z<|ND<|SQ<|RG<|MV Z Z<|rw_len Z tyE_S_impl_Range Z<|rw_gtr Z Z Z<|MV Z Z<|?_
 refine rw_caseL (j:=8) Z (fun h1=>?_) (fun h1=>?_)
 ·have hps1 : 0 < l.length:=by simpa using h1
  refine ON Z Z Z<|MV Z Z<|ON Z Z Z<|MV Z Z<|ON Z Z Z<|rw_len Z tyE_S_impl_Range Z<|ON Z Z Z<|rw_sub Z Z Z<|ON Z Z Z<|?_
  have hi2 : l.length - 1 < l.length:=by omega
  obtain ⟨x3,hx3⟩:=get_of_lt hi2
  have hd3:=drop_cons hx3
  have hq4:=hA.plain hx3
  refine rw_indexAddr (l.length - 1) Z tyE_S_impl_Range Z Z (lenpred_of (by omega) (by omega)) (hA.some hi2) hi2<|ON Z Z Z<|FX Z tyF_impl_Range_1 Z<|ON Z Z Z<|rw_loadX _ Z tyP_int Z (fun w hs=>hq4.ld hs Z)<|ON Z Z Z<|MV Z Z<|ON Z Z Z<|rw_gtr Z Z Z<|PT Z Z Z Z<|AS Z Z<|ND<|RT Tryz.func123 Z Z<|?_
  simp [endsBehind,hx3]
 have hz5 : l = []:=by simpa using h1
 refine SKP Z<|PF Z Z Z Z<|AS Z Z<|ND<|RT Tryz.func123 Z Z<|?_
 simp [endsBehind,hz5]
theorem impl_areWhole {w : World} {v v1 v2 : Value} {la lb lc : List Range} (hv : RdS w 2 (Pl Range.cells) v la) (hb : la.length ≤ 1048576) (hv1 : RdS w 2 (Pl Range.cells) v1 lb) (hb1 : lb.length ≤ 1048576) (hv2 : RdS w 2 (Pl Range.cells) v2 lc) (hb2 : lc.length ≤ 1048576) (e : Int) : CV Tryz.prog 121 [v, v1, v2, .int .i64 e] w (.bool (areWhole la lb lc e)) := by
 obtain ⟨A,c,rfl,hA⟩:=hv
 obtain ⟨A1,c1,rfl,hA1⟩:=hv1
 obtain ⟨A2,c2,rfl,hA2⟩:=hv2
 refine cv_of Tryz.func121 Z Z Z<|SQ<|RG<|AS Z Z<|ND<|SQ<|SQ<|RG<|MV Z Z<|CV1 Z fun_impl_CountNumbers Z (fun w hs=>impl_CountNumbers (hA.s Pl.keeps hs) (by omega))<|MV Z Z<|CV1 Z fun_impl_CountNumbers Z (fun w hs=>impl_CountNumbers (hA1.s Pl.keeps hs) (by omega))<|rw_add Z Z Z<|MV Z Z<|CV1 Z fun_impl_CountNumbers Z (fun w hs=>impl_CountNumbers (hA2.s Pl.keeps hs) (by omega))<|rw_add Z Z Z<|MV Z Z<|?_
 refine rw_neq Z Z Z<|ND<|?_
 refine gw_condN Z (fun h1=>?_) (fun h1=>?_)
 ·refine SQ<|RG<|AS Z Z<|ND<|RT Tryz.func121 Z Z<|?_
  simp [areWhole,h1]
 refine SK<|SQ<|RG<|MV Z Z<|CN1 Z fun_impl_copyRanges Z (fun w hs=>impl_copyRanges (hA.s Pl.keeps hs) (by omega))<|fun v1 ch1 how1=>AS Z Z<|ND<|SQ<|SQ<|RG<|MV Z Z<|CN1 Z fun_impl_copyRanges Z (fun w hs=>impl_copyRanges (hA1.s Pl.keeps hs) (by omega))<|fun v2 ch2 how2=>MV Z Z<|rw_appendP Z tyM_S_impl_Range eRange (fun _=>Z) Z Z how2 (fun w hs=>hA2.sat Pl.keeps hs) (.refl _) (by first | omega | (simp; omega))<|fun v3 ch3 how3=>?_
 obtain ⟨R4,rc4,rfl,hR4,hrd4⟩:=(OwA.s how3).shape eRange
 refine rw_len Z tyE_S_impl_Range Z<|MV Z Z<|ND<|BK<|gw_FP (F':=ch1 ++ (ch3 ++ ([]))) (pg (pp PR) PR)<|?_
 refine gw_loopX (α:=Nat × Value × List Ck) (fun z_=>z_.1 ≤ (lb ++ lc).length ∧ OwS 132 2 (PlO Range.cells) z_.2.1 (addAll la ((lb ++ lc).take z_.1)) z_.2.2) (fun z_=>(lb ++ lc).length - z_.1) (fun e z_=>(29,.int .i64 (z_.1 : Int)) :: (9,z_.2.1) :: e) (fun B _=>B) (fun F z_=>z_.2.2 ++ (ch3 ++ ([]))) (0,v1,ch1) [(3,_),(8,_),(27,_),(28,_)] (Sub.consE Z Z (Sub.consE Z Z (Sub.cons (i:=3) Z (Sub.cons (i:=8) Z (Sub.cons (i:=27) Z (Sub.cons (i:=28) Z (Sub.nil _))))))) Z Z ?_ ?_
 ·exact ⟨Nat.zero_le _,OwA.s how1⟩
 ·rintro ⟨i,v,ch⟩ hI5 ih5
  dsimp only at hI5
  dsimp only
  obtain ⟨hle,hO⟩:=hI5
  have hal:=addAll_len ((lb ++ lc).take i) la
  simp only [List.length_take,List.length_append] at hal hle
  refine SQ<|RG<|rw_lss Z Z Z<|ND<|SQ<|?_
  refine gw_cond Z (fun h2=>?_) (fun h2=>?_)
  ·have hi6:=lt_of_dec h2
   obtain ⟨x7,hx7⟩:=get_of_lt hi6
   have hd7:=drop_cons hx7
   refine SK<|SQ<|BK<|SQ<|RG<|rw_indexAddr (i) Z tyE_S_impl_Range Z Z Z (hR4 (Nat.zero_lt_of_lt hi6)) hi6<|rw_loadX_s [_,_] Z tyS_impl_Range Z Z (fun w hs=>((hrd4 _ (fun c hc=>hs.at_ c (MR (MR (ML hc))))).plain hx7).cut0 (n:=2) Z)<|AL Z tyZ_impl_Range<|fun b1=>ST (i:=0) [_,_] [_,_] tyS_impl_Range.sz Z Z Z Z Z Z Z Z<|ND<|RG<|MV Z Z<|LS (i:=0) [_,_] Z tyS_impl_Range Z Z Z Z<|CN1 Z fun_impl_AddRange Z (fun w hs=>impl_AddRange (hO.rdH eRange hs (fun c hc=>MR (ML hc))) (by omega) _)<|fun v8 ch8 how8=>?_
   obtain ⟨R8,rc8,rfl,hR8,hrd8⟩:=how8.shape eRange
   refine AS Z Z<|ND<|IB<|RG<|rw_add Z Z Z<|MV Z Z<|ND<|?_
   refine gw_FP (F':=ch8 ++ (ch ++ (ch3 ++ ([])))) (pg PR (pg PR PR))<|gw_dropF (F':=ch8 ++ (ch3 ++ ([]))) (List.Sublist.append_left (List.sublist_append_right _ _) _)<|gw_dropN 1<|?_
   refine gw_sub (Sub.consE (i:=29) Z (int_succ (by omega)) (Sub.consE (i:=9) Z Z (Sub.cons (i:=3) Z (Sub.cons (i:=8) Z (Sub.cons (i:=27) Z (Sub.cons (i:=28) Z (Sub.nil _))))))) (ih5 (i + 1,.slice R8 (addRange (addAll la ((lb ++ lc).take i)) x7).length rc8,ch8) ?_ ?_)
   ·exact ⟨by omega,by rw [addAll_take hx7]; exact how8⟩
   ·show (lb ++ lc).length - (i + 1) < (lb ++ lc).length - i; omega
  have hn9:=nil_of_dec h2
  refine EX Z<|SQ<|RG<|MV Z Z<|CV1 Z fun_impl_CountNumbers Z (fun w hs=>impl_CountNumbers (hO.rdH eRange hs (fun c hc=>MR (ML hc))) (by omega))<|MV Z Z<|EQ1 Z Z Z<|MV Z Z<|?_
  refine rw_caseL (j:=41) Z (fun h3=>?_) (fun h3=>?_)
  ·refine ON Z Z Z<|MV Z Z<|ON Z Z Z<|MV Z Z<|ON Z Z Z<|CV1 Z fun_impl_endsBehind Z (fun w hs=>impl_endsBehind (hO.rdH eRange hs (fun c hc=>MR (ML hc))) (by omega) _)<|ON Z Z Z<|NT Z Z<|PT Z Z Z Z<|AS Z Z<|ND<|RT Tryz.func121 Z Z<|?_
   simp only [take_all hn9] at *
   simp [areWhole,h1,h3]
  refine SKP Z<|PF Z Z Z Z<|AS Z Z<|ND<|RT Tryz.func121 Z Z<|?_
  simp only [take_all hn9] at *
  simp [areWhole,h1,h3]
theorem impl_FirstGap {w : World} {v : Value} {l : List Range} (hv : RdS w 2 (Pl Range.cells) v l) (hb : l.length ≤ 4194304) (n0 : Int) : CV Tryz.prog 122 [v, .int .i64 n0] w (.int .i64 (firstGap l n0)) := by
 obtain ⟨A,c,rfl,hA⟩:=hv
 refine cv_of Tryz.func122 Z Z Z<|SQ<|RG<|AS Z Z<|ND<|SQ<|SQ<|RG<|MV Z Z<|CV1 Z fun_impl_IsRanges Z (fun w hs=>impl_IsRanges (hA.s Pl.keeps hs) (by omega))<|NT Z Z<|MV Z Z<|?_
 refine rw_caseN (j:=10) Z (fun h1=>?_) (fun h1=>?_)
 ·refine SKP Z<|PT Z Z Z Z<|ND<|CT Z Z<|SQ<|RG<|AS Z Z<|ND<|RT Tryz.func122 Z Z<|?_
  simp [firstGap,h1]
 refine ON Z Z Z<|MV Z Z<|ON Z Z Z<|rw_lss Z Z Z<|PF Z Z Z Z<|ND<|?_
 refine gw_cond Z (fun h2=>?_) (fun h2=>?_)
 ·refine SQ<|RG<|AS Z Z<|ND<|RT Tryz.func122 Z Z<|?_
  simp [firstGap,h1,h2]
 refine SK<|SQ<|SQ<|RG<|MV Z Z<|rw_len Z tyE_S_impl_Range Z<|MV Z Z<|ND<|BK<|?_
 refine gw_loopC (α:=Nat × Int) (fun z_=>z_.1 ≤ l.length ∧ firstGap l n0 = gapFrom z_.2 (l.drop z_.1)) (fun z_=>l.length - z_.1) (fun e z_=>(16,.int .i64 (z_.1 : Int)) :: (1,.int .i64 z_.2) :: e) (0,n0) [(4,_),(14,_),(15,_)] (Sub.consE Z Z (Sub.consE Z Z (Sub.cons (i:=4) Z (Sub.cons (i:=14) Z (Sub.cons (i:=15) Z (Sub.nil _)))))) ?_ ?_
 ·exact ⟨Nat.zero_le _,by simp [firstGap,h1,h2]⟩
 ·rintro ⟨i,n⟩ hI1 ih1
  dsimp only at hI1
  dsimp only
  obtain ⟨hle,hI⟩:=hI1
  refine SQ<|RG<|rw_lss Z Z Z<|ND<|SQ<|?_
  refine gw_cond Z (fun h3=>?_) (fun h3=>?_)
  ·have hi2:=lt_of_dec h3
   obtain ⟨x3,hx3⟩:=get_of_lt hi2
   have hd3:=drop_cons hx3
   refine SK<|SQ<|BK<|SQ<|RG<|?_
   have hq4:=hA.plain hx3
   refine rw_indexAddr (i) Z tyE_S_impl_Range Z Z Z (hA.some hi2) hi2<|rw_loadX_s [_,_] Z tyS_impl_Range Z Z (fun w hs=>hq4.lds0 (n:=2) hs Z)<|AL Z tyZ_impl_Range<|fun b1=>ST (i:=0) [_,_] [_,_] tyS_impl_Range.sz Z Z Z Z Z Z Z Z<|ND<|SQ<|RG<|FA Z tyF_impl_Range_0 Z<|LD (i:=0) Z tyP_int Z Z Z<|MV Z Z<|rw_leq Z Z Z<|MV Z Z<|?_
   refine rw_caseL (j:=24) Z (fun h4=>?_) (fun h4=>?_)
   ·refine ON Z Z Z<|MV Z Z<|ON Z Z Z<|FA Z tyF_impl_Range_1 Z<|ON Z Z Z<|LD (i:=0) Z tyP_int Z Z Z<|ON Z Z Z<|rw_lss Z Z Z<|PT Z Z Z Z<|ND<|?_
    refine gw_cond Z (fun h5=>?_) (fun h5=>?_)
    ·refine RG<|FA Z tyF_impl_Range_1 Z<|LD (i:=0) Z tyP_int Z Z Z<|AS Z Z<|ND<|IB<|RG<|rw_add Z Z Z<|MV Z Z<|ND<|gw_dropN 1<|?_
     refine gw_sub (Sub.consE (i:=16) Z (int_succ (by omega)) (Sub.consE (i:=1) Z Z (Sub.cons (i:=4) Z (Sub.cons (i:=14) Z (Sub.cons (i:=15) Z (Sub.nil _)))))) (ih1 (i + 1,x3.high) ?_ ?_)
     ·exact ⟨by omega,by rw [hI,hd3]; simp [gapFrom,h4,h5]⟩
     ·show l.length - (i + 1) < l.length - i; omega
    refine SK<|IB<|RG<|rw_add Z Z Z<|MV Z Z<|ND<|gw_dropN 1<|?_
    refine gw_sub (Sub.consE (i:=16) Z (int_succ (by omega)) (Sub.consE (i:=1) Z Z (Sub.cons (i:=4) Z (Sub.cons (i:=14) Z (Sub.cons (i:=15) Z (Sub.nil _)))))) (ih1 (i + 1,n) ?_ ?_)
    ·exact ⟨by omega,by rw [hI,hd3]; simp [gapFrom,h4,h5]⟩
    ·show l.length - (i + 1) < l.length - i; omega
   refine SKP Z<|PF Z Z Z Z<|ND<|CF Z Z<|SK<|IB<|RG<|rw_add Z Z Z<|MV Z Z<|ND<|gw_dropN 1<|?_
   refine gw_sub (Sub.consE (i:=16) Z (int_succ (by omega)) (Sub.consE (i:=1) Z Z (Sub.cons (i:=4) Z (Sub.cons (i:=14) Z (Sub.cons (i:=15) Z (Sub.nil _)))))) (ih1 (i + 1,n) ?_ ?_)
   ·exact ⟨by omega,by rw [hI,hd3]; simp [gapFrom,h4]⟩
   ·show l.length - (i + 1) < l.length - i; omega
  have hn5:=nil_of_dec h3
  refine EX Z<|SQ<|RG<|MV Z Z<|AS Z Z<|ND<|RT Tryz.func122 Z Z<|?_
  rw [hI,hn5]; rfl
theorem impl_following {w : World} {cs : List Value} {x : Sender} (hv : RdSender w cs x)  : CV Tryz.prog 124 [.agg cs.toArray] w (.int .i64 (following x)) := by
 obtain ⟨v0,v1,v2,v3,rfl,k0,k1,k2,k3⟩:=hv
 obtain ⟨A0,c0,rfl,hA0⟩:=k0
 obtain ⟨A1,c1,rfl,hA1⟩:=k1
 obtain ⟨A2,c2,rfl,hA2⟩:=k2
 obtain ⟨A3,c3,rfl,hA3⟩:=k3
 refine cv_of Tryz.func124 Z Z Z<|SQ<|RG<|BX [_,_,_,_,_,_,_,_,_,_,_,_] Z Z Z<|fun b1=>AS Z Z<|ND<|SQ<|BK<|SQ<|RG<|FA Z tyF_impl_Sender_6 Z<|LD (i:=0) Z tyP_int Z Z Z<|EQ1 Z Z Z<|MV Z Z<|?_
 refine rw_caseL (j:=7) Z (fun h1=>?_) (fun h1=>?_)
 ·refine ON Z Z Z<|FA Z tyF_impl_Sender_1 Z<|ON Z Z Z<|FA Z tyF_impl_Ring_1 Z<|ON Z Z Z<|LD (i:=0) Z tyP_int Z Z Z<|ON Z Z Z<|FA Z tyF_impl_Sender_1 Z<|ON Z Z Z<|FA Z tyF_impl_Ring_2 Z<|ON Z Z Z<|LD (i:=0) Z tyP_int Z Z Z<|ON Z Z Z<|EQ1 Z Z Z<|PT Z Z Z Z<|AS Z Z<|ND<|?_
  refine gw_cond Z (fun h2=>?_) (fun h2=>?_)
  ·refine SQ<|RG<|AS Z Z<|ND<|RT Tryz.func124 Z Z<|?_
   simp [following,h1,h2]
  refine SQ<|RG<|FA Z tyF_impl_Sender_6 Z<|LD (i:=0) Z tyP_int Z Z Z<|EQ1 Z Z Z<|MV Z Z<|?_
  refine rw_caseL (j:=20) Z (fun h3=>?_) (fun h3=>?_)
  ·refine SKP Z<|PT Z Z Z Z<|MV Z Z<|SKP Z<|PT Z Z Z Z<|AS Z Z<|ND<|CT Z Z<|SQ<|RG<|AS Z Z<|ND<|RT Tryz.func124 Z Z<|?_
   simp [following,h1,h2,h3]
  refine ON Z Z Z<|FA Z tyF_impl_Sender_6 Z<|ON Z Z Z<|LD (i:=0) Z tyP_int Z Z Z<|ON Z Z Z<|EQ1 Z Z Z<|PF Z Z Z Z<|MV Z Z<|?_
  refine rw_caseL (j:=25) Z (fun h4=>?_) (fun h4=>?_)
  ·refine SKP Z<|PT Z Z Z Z<|AS Z Z<|ND<|CT Z Z<|SQ<|RG<|AS Z Z<|ND<|RT Tryz.func124 Z Z<|?_
   simp [following,h1,h2,h3]
  refine ON Z Z Z<|FA Z tyF_impl_Sender_6 Z<|ON Z Z Z<|LD (i:=0) Z tyP_int Z Z Z<|ON Z Z Z<|EQ1 Z Z Z<|ON Z Z Z<|MV Z Z<|?_
  refine rw_caseL (j:=29) Z (fun h5=>?_) (fun h5=>?_)
  ·refine ON Z Z Z<|FA Z tyF_impl_Sender_0 Z<|ON Z Z Z<|LD (i:=0) Z tyP_int Z Z Z<|ON Z Z Z<|EQ1 Z Z Z<|ON Z Z Z<|PT Z Z Z Z<|PF Z Z Z Z<|AS Z Z<|ND<|?_
   refine gw_cond Z (fun h6=>?_) (fun h6=>?_)
   ·refine SQ<|RG<|AS Z Z<|ND<|RT Tryz.func124 Z Z<|?_
    simp [following,h1,h2,h3,h5,h6]
   refine SQ<|RG<|FA Z tyF_impl_Sender_7 Z<|LD (i:=0) Z tyP_int Z Z Z<|rw_gtr Z Z Z<|MV Z Z<|?_
   refine rw_caseL (j:=39) Z (fun h7=>?_) (fun h7=>?_)
   ·refine SKP Z<|PT Z Z Z Z<|AS Z Z<|ND<|CT Z Z<|SQ<|RG<|AS Z Z<|ND<|RT Tryz.func124 Z Z<|?_
    simp_all []
   refine ON Z Z Z<|FA Z tyF_impl_Sender_6 Z<|ON Z Z Z<|LD (i:=0) Z tyP_int Z Z Z<|ON Z Z Z<|EQ1 Z Z Z<|ON Z Z Z<|MV Z Z<|?_
   refine rw_caseL (j:=43) Z (fun h8=>?_) (fun h8=>?_)
   ·refine ON Z Z Z<|FA Z tyF_impl_Sender_0 Z<|ON Z Z Z<|LD (i:=0) Z tyP_int Z Z Z<|ON Z Z Z<|EQ1 Z Z Z<|ON Z Z Z<|PT Z Z Z Z<|PF Z Z Z Z<|AS Z Z<|ND<|?_
    refine gw_cond Z (fun h9=>?_) (fun h9=>?_)
    ·refine SQ<|RG<|AS Z Z<|ND<|RT Tryz.func124 Z Z<|?_
     simp_all []
    refine SK<|IB<|SQ<|RG<|AS Z Z<|ND<|RT Tryz.func124 Z Z<|?_
    simp_all []
   refine SKP Z<|ON Z Z Z<|PF Z Z Z Z<|PF Z Z Z Z<|AS Z Z<|ND<|CF Z Z<|SK<|IB<|SQ<|RG<|AS Z Z<|ND<|RT Tryz.func124 Z Z<|?_
   simp_all []
  refine SKP Z<|ON Z Z Z<|PF Z Z Z Z<|PF Z Z Z Z<|AS Z Z<|ND<|CF Z Z<|SQ<|RG<|FA Z tyF_impl_Sender_7 Z<|LD (i:=0) Z tyP_int Z Z Z<|rw_gtr Z Z Z<|MV Z Z<|?_
  refine rw_caseL (j:=39) Z (fun h10=>?_) (fun h10=>?_)
  ·refine SKP Z<|PT Z Z Z Z<|AS Z Z<|ND<|CT Z Z<|SQ<|RG<|AS Z Z<|ND<|RT Tryz.func124 Z Z<|?_
   simp_all []
  refine ON Z Z Z<|FA Z tyF_impl_Sender_6 Z<|ON Z Z Z<|LD (i:=0) Z tyP_int Z Z Z<|ON Z Z Z<|EQ1 Z Z Z<|ON Z Z Z<|MV Z Z<|?_
  refine rw_caseL (j:=43) Z (fun h11=>?_) (fun h11=>?_)
  ·refine ON Z Z Z<|FA Z tyF_impl_Sender_0 Z<|ON Z Z Z<|LD (i:=0) Z tyP_int Z Z Z<|ON Z Z Z<|EQ1 Z Z Z<|ON Z Z Z<|PT Z Z Z Z<|PF Z Z Z Z<|AS Z Z<|ND<|?_
   refine gw_cond Z (fun h12=>?_) (fun h12=>?_)
   ·refine SQ<|RG<|AS Z Z<|ND<|RT Tryz.func124 Z Z<|?_
    simp_all []
   refine SK<|IB<|SQ<|RG<|AS Z Z<|ND<|RT Tryz.func124 Z Z<|?_
   simp_all []
  refine SKP Z<|ON Z Z Z<|PF Z Z Z Z<|PF Z Z Z Z<|AS Z Z<|ND<|CF Z Z<|SK<|IB<|SQ<|RG<|AS Z Z<|ND<|RT Tryz.func124 Z Z<|?_
  simp_all []
 refine SKP Z<|PF Z Z Z Z<|AS Z Z<|ND<|CF Z Z<|SQ<|RG<|FA Z tyF_impl_Sender_6 Z<|LD (i:=0) Z tyP_int Z Z Z<|EQ1 Z Z Z<|MV Z Z<|?_
 refine rw_caseL (j:=20) Z (fun h13=>?_) (fun h13=>?_)
 ·refine SKP Z<|PT Z Z Z Z<|MV Z Z<|SKP Z<|PT Z Z Z Z<|AS Z Z<|ND<|CT Z Z<|SQ<|RG<|AS Z Z<|ND<|RT Tryz.func124 Z Z<|?_
  simp [following,h1,h13]
 refine ON Z Z Z<|FA Z tyF_impl_Sender_6 Z<|ON Z Z Z<|LD (i:=0) Z tyP_int Z Z Z<|ON Z Z Z<|EQ1 Z Z Z<|PF Z Z Z Z<|MV Z Z<|?_
 refine rw_caseL (j:=25) Z (fun h14=>?_) (fun h14=>?_)
 ·refine SKP Z<|PT Z Z Z Z<|AS Z Z<|ND<|CT Z Z<|SQ<|RG<|AS Z Z<|ND<|RT Tryz.func124 Z Z<|?_
  simp_all []
 refine ON Z Z Z<|FA Z tyF_impl_Sender_6 Z<|ON Z Z Z<|LD (i:=0) Z tyP_int Z Z Z<|ON Z Z Z<|EQ1 Z Z Z<|ON Z Z Z<|MV Z Z<|?_
 refine rw_caseL (j:=29) Z (fun h15=>?_) (fun h15=>?_)
 ·refine ON Z Z Z<|FA Z tyF_impl_Sender_0 Z<|ON Z Z Z<|LD (i:=0) Z tyP_int Z Z Z<|ON Z Z Z<|EQ1 Z Z Z<|ON Z Z Z<|PT Z Z Z Z<|PF Z Z Z Z<|AS Z Z<|ND<|?_
  refine gw_cond Z (fun h16=>?_) (fun h16=>?_)
  ·refine SQ<|RG<|AS Z Z<|ND<|RT Tryz.func124 Z Z<|?_
   simp [following,h1,h13,h15,h16]
  refine SQ<|RG<|FA Z tyF_impl_Sender_7 Z<|LD (i:=0) Z tyP_int Z Z Z<|rw_gtr Z Z Z<|MV Z Z<|?_
  refine rw_caseL (j:=39) Z (fun h17=>?_) (fun h17=>?_)
  ·refine SKP Z<|PT Z Z Z Z<|AS Z Z<|ND<|CT Z Z<|SQ<|RG<|AS Z Z<|ND<|RT Tryz.func124 Z Z<|?_
   simp [following,h1,h13,h15,h16,h17]
  refine ON Z Z Z<|FA Z tyF_impl_Sender_6 Z<|ON Z Z Z<|LD (i:=0) Z tyP_int Z Z Z<|ON Z Z Z<|EQ1 Z Z Z<|ON Z Z Z<|MV Z Z<|?_
  refine rw_caseL (j:=43) Z (fun h18=>?_) (fun h18=>?_)
  ·refine ON Z Z Z<|FA Z tyF_impl_Sender_0 Z<|ON Z Z Z<|LD (i:=0) Z tyP_int Z Z Z<|ON Z Z Z<|EQ1 Z Z Z<|ON Z Z Z<|PT Z Z Z Z<|PF Z Z Z Z<|AS Z Z<|ND<|?_
   refine gw_cond Z (fun h19=>?_) (fun h19=>?_)
   ·refine SQ<|RG<|AS Z Z<|ND<|RT Tryz.func124 Z Z<|?_
    simp [following,h1,h13,h15,h16,h17,h19]
   refine SK<|IB<|SQ<|RG<|AS Z Z<|ND<|RT Tryz.func124 Z Z<|?_
   simp [following,h1,h13,h15,h16,h17,h19]
  refine SKP Z<|ON Z Z Z<|PF Z Z Z Z<|PF Z Z Z Z<|AS Z Z<|ND<|CF Z Z<|SK<|IB<|SQ<|RG<|AS Z Z<|ND<|RT Tryz.func124 Z Z<|?_
  simp_all []
 refine SKP Z<|ON Z Z Z<|PF Z Z Z Z<|PF Z Z Z Z<|AS Z Z<|ND<|CF Z Z<|SQ<|RG<|FA Z tyF_impl_Sender_7 Z<|LD (i:=0) Z tyP_int Z Z Z<|rw_gtr Z Z Z<|MV Z Z<|?_
 refine rw_caseL (j:=39) Z (fun h20=>?_) (fun h20=>?_)
 ·refine SKP Z<|PT Z Z Z Z<|AS Z Z<|ND<|CT Z Z<|SQ<|RG<|AS Z Z<|ND<|RT Tryz.func124 Z Z<|?_
  simp [following,h1,h13,h15,h20]
 refine ON Z Z Z<|FA Z tyF_impl_Sender_6 Z<|ON Z Z Z<|LD (i:=0) Z tyP_int Z Z Z<|ON Z Z Z<|EQ1 Z Z Z<|ON Z Z Z<|MV Z Z<|?_
 refine rw_caseL (j:=43) Z (fun h21=>?_) (fun h21=>?_)
 ·refine ON Z Z Z<|FA Z tyF_impl_Sender_0 Z<|ON Z Z Z<|LD (i:=0) Z tyP_int Z Z Z<|ON Z Z Z<|EQ1 Z Z Z<|ON Z Z Z<|PT Z Z Z Z<|PF Z Z Z Z<|AS Z Z<|ND<|?_
  refine gw_cond Z (fun h22=>?_) (fun h22=>?_)
  ·refine SQ<|RG<|AS Z Z<|ND<|RT Tryz.func124 Z Z<|?_
   simp_all []
  refine SK<|IB<|SQ<|RG<|AS Z Z<|ND<|RT Tryz.func124 Z Z<|?_
  simp [following,h1,h13,h15,h20,h22]
 refine SKP Z<|ON Z Z Z<|PF Z Z Z Z<|PF Z Z Z Z<|AS Z Z<|ND<|CF Z Z<|SK<|IB<|SQ<|RG<|AS Z Z<|ND<|RT Tryz.func124 Z Z<|?_
 simp [following,h1,h13,h15,h20]
set_option maxHeartbeats 2000000 in
set_option maxRecDepth 20000 in
theorem impl_IsSender {w : World} {cs : List Value} {x : Sender} (hv : RdSender w cs x) (hb : x.le 1048576) : CV Tryz.prog 71 [.agg cs.toArray] w (.bool (isSender x)) := by
 obtain ⟨v0,v1,v2,v3,rfl,k0,k1,k2,k3⟩:=hv
 obtain ⟨A0,c0,rfl,hA0⟩:=k0
 obtain ⟨A1,c1,rfl,hA1⟩:=k1
 obtain ⟨A2,c2,rfl,hA2⟩:=k2
 obtain ⟨A3,c3,rfl,hA3⟩:=k3
 obtain ⟨hb0,hb1,hb2,hb3⟩:=hb
 refine cv_of Tryz.func71 Z Z Z<|SQ<|RG<|BX [_,_,_,_,_,_,_,_,_,_,_,_] Z Z Z<|fun b1=>AS Z Z<|ND<|SQ<|SQ<|RG<|FA Z tyF_impl_Sender_1 Z<|LS (i:=0) [_,_,_,_] Z tyS_impl_Ring Z Z Z Z<|CV1 Z fun_impl_IsRing Z (fun w hs=>impl_IsRing ⟨_,Z,(hA0.s Pl.keeps hs)⟩ (show _ ≤ _ from hb0))<|NT Z Z<|MV Z Z<|?_
 refine rw_caseN (j:=9) Z (fun h1=>?_) (fun h1=>?_)
 ·refine SKP Z<|PT Z Z Z Z<|MV Z Z<|SKP Z<|PT Z Z Z Z<|MV Z Z<|SKP Z<|PT Z Z Z Z<|MV Z Z<|SKP Z<|PT Z Z Z Z<|MV Z Z<|SKP Z<|PT Z Z Z Z<|MV Z Z<|SKP Z<|PT Z Z Z Z<|ND<|CT Z Z<|SQ<|RG<|AS Z Z<|ND<|RT Tryz.func71 Z Z<|?_
  simp [isSender,senderBase,senderReset,h1]
 refine ON Z Z Z<|FA Z tyF_impl_Sender_2 Z<|ON Z Z Z<|LD (i:=0) Z tyP_S_impl_Range Z Z Z<|ON Z Z Z<|CV1 Z fun_impl_IsRanges Z (fun w hs=>impl_IsRanges (hA1.s Pl.keeps hs) (by omega))<|ON Z Z Z<|NT Z Z<|PF Z Z Z Z<|MV Z Z<|?_
 refine rw_caseN (j:=15) Z (fun h2=>?_) (fun h2=>?_)
 ·refine SKP Z<|PT Z Z Z Z<|MV Z Z<|SKP Z<|PT Z Z Z Z<|MV Z Z<|SKP Z<|PT Z Z Z Z<|MV Z Z<|SKP Z<|PT Z Z Z Z<|MV Z Z<|SKP Z<|PT Z Z Z Z<|ND<|CT Z Z<|SQ<|RG<|AS Z Z<|ND<|RT Tryz.func71 Z Z<|?_
  simp [isSender,senderBase,senderReset,h1,h2]
 refine ON Z Z Z<|FA Z tyF_impl_Sender_3 Z<|ON Z Z Z<|LD (i:=0) Z tyP_S_impl_Range Z Z Z<|ON Z Z Z<|CV1 Z fun_impl_IsRanges Z (fun w hs=>impl_IsRanges (hA2.s Pl.keeps hs) (by omega))<|ON Z Z Z<|NT Z Z<|PF Z Z Z Z<|MV Z Z<|?_
 refine rw_caseN (j:=21) Z (fun h3=>?_) (fun h3=>?_)
 ·refine SKP Z<|PT Z Z Z Z<|MV Z Z<|SKP Z<|PT Z Z Z Z<|MV Z Z<|SKP Z<|PT Z Z Z Z<|MV Z Z<|SKP Z<|PT Z Z Z Z<|ND<|CT Z Z<|SQ<|RG<|AS Z Z<|ND<|RT Tryz.func71 Z Z<|?_
  simp [isSender,senderBase,senderReset,h1,h2,h3]
 refine ON Z Z Z<|FA Z tyF_impl_Sender_4 Z<|ON Z Z Z<|LD (i:=0) Z tyP_S_impl_Range Z Z Z<|ON Z Z Z<|CV1 Z fun_impl_IsRanges Z (fun w hs=>impl_IsRanges (hA3.s Pl.keeps hs) (by omega))<|ON Z Z Z<|NT Z Z<|PF Z Z Z Z<|MV Z Z<|?_
 refine rw_caseN (j:=27) Z (fun h4=>?_) (fun h4=>?_)
 ·refine SKP Z<|PT Z Z Z Z<|MV Z Z<|SKP Z<|PT Z Z Z Z<|MV Z Z<|SKP Z<|PT Z Z Z Z<|ND<|CT Z Z<|SQ<|RG<|AS Z Z<|ND<|RT Tryz.func71 Z Z<|?_
  simp [isSender,senderBase,senderReset,h1,h2,h3,h4]
 refine ON Z Z Z<|FA Z tyF_impl_Sender_7 Z<|ON Z Z Z<|LD (i:=0) Z tyP_int Z Z Z<|ON Z Z Z<|FA Z tyF_impl_Sender_1 Z<|ON Z Z Z<|FA Z tyF_impl_Ring_2 Z<|ON Z Z Z<|LD (i:=0) Z tyP_int Z Z Z<|ON Z Z Z<|CV1 Z fun_impl_within Z (fun w hs=>impl_within _ _ _ w)<|ON Z Z Z<|NT Z Z<|PF Z Z Z Z<|MV Z Z<|?_
 refine rw_caseN (j:=36) Z (fun h5=>?_) (fun h5=>?_)
 ·refine SKP Z<|PT Z Z Z Z<|MV Z Z<|SKP Z<|PT Z Z Z Z<|ND<|CT Z Z<|SQ<|RG<|AS Z Z<|ND<|RT Tryz.func71 Z Z<|?_
  simp [isSender,senderBase,senderReset,h1,h2,h3,h4,h5]
 refine ON Z Z Z<|FA Z tyF_impl_Sender_8 Z<|ON Z Z Z<|LD (i:=0) Z tyP_int Z Z Z<|ON Z Z Z<|CV1 Z fun_impl_isQuic Z (fun w hs=>impl_isQuic _ w)<|ON Z Z Z<|NT Z Z<|PF Z Z Z Z<|MV Z Z<|?_
 refine rw_caseN (j:=42) Z (fun h6=>?_) (fun h6=>?_)
 ·refine SKP Z<|PT Z Z Z Z<|ND<|CT Z Z<|SQ<|RG<|AS Z Z<|ND<|RT Tryz.func71 Z Z<|?_
  simp [isSender,senderBase,senderReset,h1,h2,h3,h4,h5,h6]
 refine ON Z Z Z<|FA Z tyF_impl_Sender_6 Z<|ON Z Z Z<|LD (i:=0) Z tyP_int Z Z Z<|ON Z Z Z<|CV1 Z fun_impl_within Z (fun w hs=>impl_within _ _ _ w)<|ON Z Z Z<|NT Z Z<|PF Z Z Z Z<|ND<|?_
 refine gw_condN Z (fun h7=>?_) (fun h7=>?_)
 ·refine SQ<|RG<|AS Z Z<|ND<|RT Tryz.func71 Z Z<|?_
  simp [isSender,senderBase,senderReset,h1,h2,h3,h4,h5,h6,h7]
 refine SK<|SQ<|SQ<|RG<|FA Z tyF_impl_Sender_0 Z<|LD (i:=0) Z tyP_int Z Z Z<|EQ1 Z Z Z<|MV Z Z<|?_
 refine rw_caseL (j:=51) Z (fun h8=>?_) (fun h8=>?_)
 ·refine SKP Z<|PT Z Z Z Z<|ND<|CT Z Z<|SQ<|RG<|FA Z tyF_impl_Sender_2 Z<|LD (i:=0) Z tyP_S_impl_Range Z Z Z<|rw_len Z tyE_S_impl_Range Z<|EQ1 Z Z Z<|MV Z Z<|?_
  refine rw_caseL (j:=60) Z (fun h9=>?_) (fun h9=>?_)
  ·have hnil1:=nil_of_eq h9
   refine ON Z Z Z<|FA Z tyF_impl_Sender_3 Z<|ON Z Z Z<|LD (i:=0) Z tyP_S_impl_Range Z Z Z<|ON Z Z Z<|rw_len Z tyE_S_impl_Range Z<|ON Z Z Z<|EQ1 Z Z Z<|PT Z Z Z Z<|MV Z Z<|?_
   refine rw_caseL (j:=66) Z (fun h10=>?_) (fun h10=>?_)
   ·have hnil2:=nil_of_eq h10
    refine ON Z Z Z<|FA Z tyF_impl_Sender_4 Z<|ON Z Z Z<|LD (i:=0) Z tyP_S_impl_Range Z Z Z<|ON Z Z Z<|rw_len Z tyE_S_impl_Range Z<|ON Z Z Z<|EQ1 Z Z Z<|PT Z Z Z Z<|AS Z Z<|ND<|SQ<|RG<|MV Z Z<|MV Z Z<|?_
    refine rw_caseL (j:=73) Z (fun h11=>?_) (fun h11=>?_)
    ·have hnil3:=nil_of_eq h11
     refine ON Z Z Z<|FA Z tyF_impl_Sender_1 Z<|ON Z Z Z<|FA Z tyF_impl_Ring_1 Z<|ON Z Z Z<|LD (i:=0) Z tyP_int Z Z Z<|ON Z Z Z<|FA Z tyF_impl_Sender_1 Z<|ON Z Z Z<|FA Z tyF_impl_Ring_2 Z<|ON Z Z Z<|LD (i:=0) Z tyP_int Z Z Z<|ON Z Z Z<|EQ1 Z Z Z<|PT Z Z Z Z<|MV Z Z<|?_
     refine rw_caseL (j:=82) Z (fun h12=>?_) (fun h12=>?_)
     ·refine ON Z Z Z<|FA Z tyF_impl_Sender_5 Z<|ON Z Z Z<|LD (i:=0) Z tyP_int Z Z Z<|ON Z Z Z<|FA Z tyF_impl_Sender_7 Z<|ON Z Z Z<|LD (i:=0) Z tyP_int Z Z Z<|ON Z Z Z<|EQ1 Z Z Z<|PT Z Z Z Z<|MV Z Z<|?_
      refine rw_caseL (j:=89) Z (fun h13=>?_) (fun h13=>?_)
      ·refine ON Z Z Z<|FA Z tyF_impl_Sender_7 Z<|ON Z Z Z<|LD (i:=0) Z tyP_int Z Z Z<|ON Z Z Z<|FA Z tyF_impl_Sender_1 Z<|ON Z Z Z<|FA Z tyF_impl_Ring_2 Z<|ON Z Z Z<|LD (i:=0) Z tyP_int Z Z Z<|ON Z Z Z<|EQ1 Z Z Z<|PT Z Z Z Z<|MV Z Z<|?_
       refine rw_caseL (j:=97) Z (fun h14=>?_) (fun h14=>?_)
       ·refine ON Z Z Z<|FA Z tyF_impl_Sender_6 Z<|ON Z Z Z<|LD (i:=0) Z tyP_int Z Z Z<|ON Z Z Z<|EQ1 Z Z Z<|PT Z Z Z Z<|AS Z Z<|ND<|RT Tryz.func71 Z Z<|?_
        simp [isSender,senderBase,senderReset,h1,h2,h3,h4,h5,h6,h7,h8,h9,h10,h11,h12,h13,h14]
       refine SKP Z<|PF Z Z Z Z<|AS Z Z<|ND<|RT Tryz.func71 Z Z<|?_
       simp [isSender,senderBase,senderReset,h1,h2,h3,h4,h5,h6,h7,h8,h9,h10,h11,h12,h13,h14]
      refine SKP Z<|PF Z Z Z Z<|MV Z Z<|SKP Z<|PF Z Z Z Z<|AS Z Z<|ND<|RT Tryz.func71 Z Z<|?_
      simp [isSender,senderBase,senderReset,h1,h2,h3,h4,h5,h6,h7,h8,h9,h10,h11,h12,h13]
     refine SKP Z<|PF Z Z Z Z<|MV Z Z<|SKP Z<|PF Z Z Z Z<|MV Z Z<|SKP Z<|PF Z Z Z Z<|AS Z Z<|ND<|RT Tryz.func71 Z Z<|?_
     simp [isSender,senderBase,senderReset,h1,h2,h3,h4,h5,h6,h7,h8,h9,h10,h11,h12]
    have hpos4:=pos_of_ne h11
    refine SKP Z<|PF Z Z Z Z<|MV Z Z<|SKP Z<|PF Z Z Z Z<|MV Z Z<|SKP Z<|PF Z Z Z Z<|MV Z Z<|SKP Z<|PF Z Z Z Z<|AS Z Z<|ND<|RT Tryz.func71 Z Z<|?_
    simp [isSender,senderBase,senderReset,h1,h2,h3,h4,h5,h6,h7,h8,h9,h10,h11]
   have hpos5:=pos_of_ne h10
   refine SKP Z<|PF Z Z Z Z<|AS Z Z<|ND<|SQ<|RG<|MV Z Z<|MV Z Z<|SKP Z<|PF Z Z Z Z<|MV Z Z<|SKP Z<|PF Z Z Z Z<|MV Z Z<|SKP Z<|PF Z Z Z Z<|MV Z Z<|SKP Z<|PF Z Z Z Z<|AS Z Z<|ND<|RT Tryz.func71 Z Z<|?_
   simp [isSender,senderBase,senderReset,h1,h2,h3,h4,h5,h6,h7,h8,h9,h10]
  have hpos6:=pos_of_ne h9
  refine SKP Z<|PF Z Z Z Z<|MV Z Z<|SKP Z<|PF Z Z Z Z<|AS Z Z<|ND<|SQ<|RG<|MV Z Z<|MV Z Z<|SKP Z<|PF Z Z Z Z<|MV Z Z<|SKP Z<|PF Z Z Z Z<|MV Z Z<|SKP Z<|PF Z Z Z Z<|MV Z Z<|SKP Z<|PF Z Z Z Z<|AS Z Z<|ND<|RT Tryz.func71 Z Z<|?_
  simp [isSender,senderBase,senderReset,h1,h2,h3,h4,h5,h6,h7,h8,h9]
 refine ON Z Z Z<|FA Z tyF_impl_Sender_0 Z<|ON Z Z Z<|LD (i:=0) Z tyP_int Z Z Z<|ON Z Z Z<|EQ1 Z Z Z<|PF Z Z Z Z<|ND<|?_
 refine gw_cond Z (fun h15=>?_) (fun h15=>?_)
 ·refine SQ<|RG<|FA Z tyF_impl_Sender_2 Z<|LD (i:=0) Z tyP_S_impl_Range Z Z Z<|rw_len Z tyE_S_impl_Range Z<|EQ1 Z Z Z<|MV Z Z<|?_
  refine rw_caseL (j:=60) Z (fun h16=>?_) (fun h16=>?_)
  ·have hnil7:=nil_of_eq h16
   refine ON Z Z Z<|FA Z tyF_impl_Sender_3 Z<|ON Z Z Z<|LD (i:=0) Z tyP_S_impl_Range Z Z Z<|ON Z Z Z<|rw_len Z tyE_S_impl_Range Z<|ON Z Z Z<|EQ1 Z Z Z<|PT Z Z Z Z<|MV Z Z<|?_
   refine rw_caseL (j:=66) Z (fun h17=>?_) (fun h17=>?_)
   ·have hnil8:=nil_of_eq h17
    refine ON Z Z Z<|FA Z tyF_impl_Sender_4 Z<|ON Z Z Z<|LD (i:=0) Z tyP_S_impl_Range Z Z Z<|ON Z Z Z<|rw_len Z tyE_S_impl_Range Z<|ON Z Z Z<|EQ1 Z Z Z<|PT Z Z Z Z<|AS Z Z<|ND<|SQ<|RG<|MV Z Z<|MV Z Z<|?_
    refine rw_caseL (j:=73) Z (fun h18=>?_) (fun h18=>?_)
    ·have hnil9:=nil_of_eq h18
     refine ON Z Z Z<|FA Z tyF_impl_Sender_1 Z<|ON Z Z Z<|FA Z tyF_impl_Ring_1 Z<|ON Z Z Z<|LD (i:=0) Z tyP_int Z Z Z<|ON Z Z Z<|FA Z tyF_impl_Sender_1 Z<|ON Z Z Z<|FA Z tyF_impl_Ring_2 Z<|ON Z Z Z<|LD (i:=0) Z tyP_int Z Z Z<|ON Z Z Z<|EQ1 Z Z Z<|PT Z Z Z Z<|MV Z Z<|?_
     refine rw_caseL (j:=82) Z (fun h19=>?_) (fun h19=>?_)
     ·refine ON Z Z Z<|FA Z tyF_impl_Sender_5 Z<|ON Z Z Z<|LD (i:=0) Z tyP_int Z Z Z<|ON Z Z Z<|FA Z tyF_impl_Sender_7 Z<|ON Z Z Z<|LD (i:=0) Z tyP_int Z Z Z<|ON Z Z Z<|EQ1 Z Z Z<|PT Z Z Z Z<|MV Z Z<|?_
      refine rw_caseL (j:=89) Z (fun h20=>?_) (fun h20=>?_)
      ·refine ON Z Z Z<|FA Z tyF_impl_Sender_7 Z<|ON Z Z Z<|LD (i:=0) Z tyP_int Z Z Z<|ON Z Z Z<|FA Z tyF_impl_Sender_1 Z<|ON Z Z Z<|FA Z tyF_impl_Ring_2 Z<|ON Z Z Z<|LD (i:=0) Z tyP_int Z Z Z<|ON Z Z Z<|EQ1 Z Z Z<|PT Z Z Z Z<|MV Z Z<|?_
       refine rw_caseL (j:=97) Z (fun h21=>?_) (fun h21=>?_)
       ·refine ON Z Z Z<|FA Z tyF_impl_Sender_6 Z<|ON Z Z Z<|LD (i:=0) Z tyP_int Z Z Z<|ON Z Z Z<|EQ1 Z Z Z<|PT Z Z Z Z<|AS Z Z<|ND<|RT Tryz.func71 Z Z<|?_
        simp [isSender,senderBase,senderReset,h1,h2,h3,h4,h5,h6,h7,h8,h15,h16,h17,h18,h19,h20,h21]
       refine SKP Z<|PF Z Z Z Z<|AS Z Z<|ND<|RT Tryz.func71 Z Z<|?_
       simp [isSender,senderBase,senderReset,h1,h2,h3,h4,h5,h6,h7,h8,h15,h16,h17,h18,h19,h20,h21]
      refine SKP Z<|PF Z Z Z Z<|MV Z Z<|SKP Z<|PF Z Z Z Z<|AS Z Z<|ND<|RT Tryz.func71 Z Z<|?_
      simp [isSender,senderBase,senderReset,h1,h2,h3,h4,h5,h6,h7,h8,h15,h16,h17,h18,h19,h20]
     refine SKP Z<|PF Z Z Z Z<|MV Z Z<|SKP Z<|PF Z Z Z Z<|MV Z Z<|SKP Z<|PF Z Z Z Z<|AS Z Z<|ND<|RT Tryz.func71 Z Z<|?_
     simp [isSender,senderBase,senderReset,h1,h2,h3,h4,h5,h6,h7,h8,h15,h16,h17,h18,h19]
    have hpos10:=pos_of_ne h18
    refine SKP Z<|PF Z Z Z Z<|MV Z Z<|SKP Z<|PF Z Z Z Z<|MV Z Z<|SKP Z<|PF Z Z Z Z<|MV Z Z<|SKP Z<|PF Z Z Z Z<|AS Z Z<|ND<|RT Tryz.func71 Z Z<|?_
    simp [isSender,senderBase,senderReset,h1,h2,h3,h4,h5,h6,h7,h8,h15,h16,h17,h18]
   have hpos11:=pos_of_ne h17
   refine SKP Z<|PF Z Z Z Z<|AS Z Z<|ND<|SQ<|RG<|MV Z Z<|MV Z Z<|SKP Z<|PF Z Z Z Z<|MV Z Z<|SKP Z<|PF Z Z Z Z<|MV Z Z<|SKP Z<|PF Z Z Z Z<|MV Z Z<|SKP Z<|PF Z Z Z Z<|AS Z Z<|ND<|RT Tryz.func71 Z Z<|?_
   simp [isSender,senderBase,senderReset,h1,h2,h3,h4,h5,h6,h7,h8,h15,h16,h17]
  have hpos12:=pos_of_ne h16
  refine SKP Z<|PF Z Z Z Z<|MV Z Z<|SKP Z<|PF Z Z Z Z<|AS Z Z<|ND<|SQ<|RG<|MV Z Z<|MV Z Z<|SKP Z<|PF Z Z Z Z<|MV Z Z<|SKP Z<|PF Z Z Z Z<|MV Z Z<|SKP Z<|PF Z Z Z Z<|MV Z Z<|SKP Z<|PF Z Z Z Z<|AS Z Z<|ND<|RT Tryz.func71 Z Z<|?_
  simp [isSender,senderBase,senderReset,h1,h2,h3,h4,h5,h6,h7,h8,h15,h16]
 refine SK<|SQ<|RG<|FA Z tyF_impl_Sender_1 Z<|FA Z tyF_impl_Ring_2 Z<|LD (i:=0) Z tyP_int Z Z Z<|AS Z Z<|ND<|SQ<|SQ<|RG<|FA Z tyF_impl_Sender_6 Z<|LD (i:=0) Z tyP_int Z Z Z<|EQ1 Z Z Z<|ND<|?_
 refine gw_cond Z (fun h22=>?_) (fun h22=>?_)
 ·refine RG<|AS Z Z<|ND<|SQ<|gw_draw' [dd 0,dd 1,dd 2,dd 3,dd 4,dd 5,dd 6,dd 7,dd 8,dd 9,dd 10,dd 11,dd 12,dd 13,dd 14,dd 15,dd 16,dd 17,dd 18,dd 19,dd 20,dd 21,dd 22,dd 23,dd 24,dd 25,dd 26,dd 27,dd 28,dd 29,dd 30,dd 31,dd 32,dd 33,dd 34,dd 35,dd 36,dd 37,dd 38,dd 39,dd 40,dd 41,dd 42,dd 43,dd 44,dd 45,dd 46,dd 47,dd 48,dd 49,dd 50] [51,52,53] mixed Z (FD Z) (ts:=[_,_,_]) Z<|?_
  refine DT Z Z (fun _ q=>FA Z tyF_impl_Sender_2 Z q)<|DT Z Z (fun _ q=>LD (i:=0) Z tyP_S_impl_Range Z Z Z q)<|DT Z Z (fun _ q=>FA Z tyF_impl_Sender_3 Z q)<|DT Z Z (fun _ q=>LD (i:=0) Z tyP_S_impl_Range Z Z Z q)<|DT Z Z (fun _ q=>FA Z tyF_impl_Sender_4 Z q)<|DT Z Z (fun _ q=>LD (i:=0) Z tyP_S_impl_Range Z Z Z q)<|DT Z Z (fun _ q=>FA Z tyF_impl_Sender_1 Z q)<|DT Z Z (fun _ q=>FA Z tyF_impl_Ring_2 Z q)<|?_
  refine DT Z Z (fun _ q=>LD (i:=0) Z tyP_int Z Z Z q)<|DT Z Z (fun _ q=>CV1 Z fun_impl_areWhole Z (fun w hs=>impl_areWhole (hA1.s Pl.keeps hs) (by omega) (hA2.s Pl.keeps hs) (by omega) (hA3.s Pl.keeps hs) (by omega) _) q)<|DM Z Z Z<|?_
  refine dw_caseL (j:=118) Z (fun h23=>?_) (fun h23=>?_)
  ·refine DT Z Z (fun _ q=>ON Z Z Z (FA Z tyF_impl_Sender_4 Z q))<|DT Z Z (fun _ q=>ON Z Z Z (LD (i:=0) Z tyP_S_impl_Range Z Z Z q))<|DT Z Z (fun _ q=>ON Z Z Z (CV1 Z fun_impl_FirstGap Z (fun w hs=>impl_FirstGap (hA3.s Pl.keeps hs) (by omega) _) q))<|DT Z Z (fun _ q=>ON Z Z Z (FA Z tyF_impl_Sender_1 Z q))<|DT Z Z (fun _ q=>ON Z Z Z (FA Z tyF_impl_Ring_1 Z q))<|?_
   refine DT Z Z (fun _ q=>ON Z Z Z (LD (i:=0) Z tyP_int Z Z Z q))<|DT Z Z (fun _ q=>ON Z Z Z (EQ1 Z Z Z q))<|DT Z Z (fun _ q=>PT Z Z Z Z q)<|DM Z Z Z<|?_
   refine dw_caseL (j:=127) Z (fun h24=>?_) (fun h24=>?_)
   ·refine DT Z Z (fun _ q=>ON Z Z Z (FA Z tyF_impl_Sender_3 Z q))<|DT Z Z (fun _ q=>ON Z Z Z (LD (i:=0) Z tyP_S_impl_Range Z Z Z q))<|DT Z Z (fun _ q=>ON Z Z Z (FA Z tyF_impl_Sender_7 Z q))<|DT Z Z (fun _ q=>ON Z Z Z (LD (i:=0) Z tyP_int Z Z Z q))<|DT Z Z (fun _ q=>ON Z Z Z (CV1 Z fun_impl_endsBehind Z (fun w hs=>impl_endsBehind (hA2.s Pl.keeps hs) (by omega) _) q))<|?_
    refine DT Z Z (fun _ q=>ON Z Z Z (NT Z Z q))<|DT Z Z (fun _ q=>PT Z Z Z Z q)<|DM Z Z Z<|?_
    refine dw_caseN (j:=135) Z (fun h25=>?_) (fun h25=>?_)
    ·refine DT Z Z (fun _ q=>ON Z Z Z (FA Z tyF_impl_Sender_4 Z q))<|DT Z Z (fun _ q=>ON Z Z Z (LD (i:=0) Z tyP_S_impl_Range Z Z Z q))<|DT Z Z (fun _ q=>ON Z Z Z (FA Z tyF_impl_Sender_7 Z q))<|DT Z Z (fun _ q=>ON Z Z Z (LD (i:=0) Z tyP_int Z Z Z q))<|DT Z Z (fun _ q=>ON Z Z Z (CV1 Z fun_impl_endsBehind Z (fun w hs=>impl_endsBehind (hA3.s Pl.keeps hs) (by omega) _) q))<|?_
     refine DT Z Z (fun _ q=>ON Z Z Z (NT Z Z q))<|DT Z Z (fun _ q=>PT Z Z Z Z q)<|DM Z Z Z<|?_
     refine dw_caseN (j:=143) Z (fun h26=>?_) (fun h26=>?_)
     ·refine DT Z Z (fun _ q=>ON Z Z Z (FA Z tyF_impl_Sender_8 Z q))<|DT Z Z (fun _ q=>ON Z Z Z (LD (i:=0) Z tyP_int Z Z Z q))<|DT Z Z (fun _ q=>ON Z Z Z (EQ1 Z Z Z q))<|DT Z Z (fun _ q=>PT Z Z Z Z q)<|DM Z Z Z<|?_
      refine dw_caseL (j:=148) Z (fun h27=>?_) (fun h27=>?_)
      ·refine DT Z Z (fun _ q=>ON Z Z Z (FA Z tyF_impl_Sender_5 Z q))<|DT Z Z (fun _ q=>ON Z Z Z (LD (i:=0) Z tyP_int Z Z Z q))<|DT Z Z (fun _ q=>ON Z Z Z (MV Z Z q))<|DT Z Z (fun _ q=>ON Z Z Z (EQ1 Z Z Z q))<|DT Z Z (fun _ q=>PT Z Z Z Z q)<|DM Z Z Z<|?_
       refine dw_caseL (j:=154) Z (fun h28=>?_) (fun h28=>?_)
       ·refine DT Z Z (fun _ q=>ON Z Z Z (FA Z tyF_impl_Sender_0 Z q))<|DT Z Z (fun _ q=>ON Z Z Z (LD (i:=0) Z tyP_int Z Z Z q))<|DT Z Z (fun _ q=>ON Z Z Z (LS (i:=0) [_,_,_,_,_,_,_,_,_,_,_,_] Z tyS_impl_Sender Z Z Z Z q))<|DT Z Z (fun _ q=>ON Z Z Z (CV1 Z fun_impl_following Z (fun w hs=>impl_following ⟨_,_,_,_,Z,(hA0.s Pl.keeps hs),(hA1.s Pl.keeps hs),(hA2.s Pl.keeps hs),(hA3.s Pl.keeps hs)⟩) q))<|?_
        refine dw_nil<|ON Z Z Z<|EQ1 Z Z Z<|PT Z Z Z Z<|AS Z Z<|ND<|RT Tryz.func71 Z Z<|?_
        simp [isSender,senderBase,senderReset,h1,h2,h3,h4,h5,h6,h7,h8,h15,h22,h23,h24,h25,h26,h27,h28]
       refine DSK Z<|dw_nil<|OF Z Z Z Z<|PF Z Z Z Z<|AS Z Z<|ND<|RT Tryz.func71 Z Z<|?_
       simp [isSender,senderBase,senderReset,h1,h2,h3,h4,h5,h6,h7,h8,h15,h22,h23,h24,h25,h26,h27,h28]
      refine DSK Z<|DT Z Z (fun _ q=>PF Z Z Z Z q)<|DM Z Z Z<|DSK Z<|dw_nil<|OF Z Z Z Z<|PF Z Z Z Z<|AS Z Z<|ND<|RT Tryz.func71 Z Z<|?_
      simp [isSender,senderBase,senderReset,h1,h2,h3,h4,h5,h6,h7,h8,h15,h22,h23,h24,h25,h26,h27]
     refine DSK Z<|DT Z Z (fun _ q=>PF Z Z Z Z q)<|DM Z Z Z<|DSK Z<|DT Z Z (fun _ q=>PF Z Z Z Z q)<|DM Z Z Z<|DSK Z<|dw_nil<|OF Z Z Z Z<|PF Z Z Z Z<|AS Z Z<|ND<|RT Tryz.func71 Z Z<|?_
     simp [isSender,senderBase,senderReset,h1,h2,h3,h4,h5,h6,h7,h8,h15,h22,h23,h24,h25,h26]
    refine DSK Z<|DT Z Z (fun _ q=>PF Z Z Z Z q)<|DM Z Z Z<|DSK Z<|DT Z Z (fun _ q=>PF Z Z Z Z q)<|DM Z Z Z<|DSK Z<|DT Z Z (fun _ q=>PF Z Z Z Z q)<|DM Z Z Z<|DSK Z<|dw_nil<|OF Z Z Z Z<|PF Z Z Z Z<|AS Z Z<|ND<|RT Tryz.func71 Z Z<|?_
    simp [isSender,senderBase,senderReset,h1,h2,h3,h4,h5,h6,h7,h8,h15,h22,h23,h24,h25]
   refine DSK Z<|DT Z Z (fun _ q=>PF Z Z Z Z q)<|DM Z Z Z<|DSK Z<|DT Z Z (fun _ q=>PF Z Z Z Z q)<|DM Z Z Z<|DSK Z<|DT Z Z (fun _ q=>PF Z Z Z Z q)<|DM Z Z Z<|DSK Z<|DT Z Z (fun _ q=>PF Z Z Z Z q)<|DM Z Z Z<|DSK Z<|dw_nil<|OF Z Z Z Z<|PF Z Z Z Z<|AS Z Z<|ND<|?_
   refine RT Tryz.func71 Z Z<|?_
   simp [isSender,senderBase,senderReset,h1,h2,h3,h4,h5,h6,h7,h8,h15,h22,h23,h24]
  refine DSK Z<|DT Z Z (fun _ q=>PF Z Z Z Z q)<|DM Z Z Z<|DSK Z<|DT Z Z (fun _ q=>PF Z Z Z Z q)<|DM Z Z Z<|DSK Z<|DT Z Z (fun _ q=>PF Z Z Z Z q)<|DM Z Z Z<|DSK Z<|DT Z Z (fun _ q=>PF Z Z Z Z q)<|DM Z Z Z<|DSK Z<|DT Z Z (fun _ q=>PF Z Z Z Z q)<|DM Z Z Z<|?_
  refine DSK Z<|dw_nil<|OF Z Z Z Z<|PF Z Z Z Z<|AS Z Z<|ND<|RT Tryz.func71 Z Z<|?_
  simp [isSender,senderBase,senderReset,h1,h2,h3,h4,h5,h6,h7,h8,h15,h22,h23]
 refine SK<|SQ<|gw_draw' [dd 0,dd 1,dd 2,dd 3,dd 4,dd 5,dd 6,dd 7,dd 8,dd 9,dd 10,dd 11,dd 12,dd 13,dd 14,dd 15,dd 16,dd 17,dd 18,dd 19,dd 20,dd 21,dd 22,dd 23,dd 24,dd 25,dd 26,dd 27,dd 28,dd 29,dd 30,dd 31,dd 32,dd 33,dd 34,dd 35,dd 36,dd 37,dd 38,dd 39,dd 40,dd 41,dd 42,dd 43,dd 44,dd 45,dd 46,dd 47,dd 48,dd 49,dd 50] [51,52,53] mixed Z (FD Z) (ts:=[_,_,_]) Z<|?_
 refine DT Z Z (fun _ q=>FA Z tyF_impl_Sender_2 Z q)<|DT Z Z (fun _ q=>LD (i:=0) Z tyP_S_impl_Range Z Z Z q)<|DT Z Z (fun _ q=>FA Z tyF_impl_Sender_3 Z q)<|DT Z Z (fun _ q=>LD (i:=0) Z tyP_S_impl_Range Z Z Z q)<|DT Z Z (fun _ q=>FA Z tyF_impl_Sender_4 Z q)<|DT Z Z (fun _ q=>LD (i:=0) Z tyP_S_impl_Range Z Z Z q)<|DT Z Z (fun _ q=>FA Z tyF_impl_Sender_1 Z q)<|DT Z Z (fun _ q=>FA Z tyF_impl_Ring_2 Z q)<|?_
 refine DT Z Z (fun _ q=>LD (i:=0) Z tyP_int Z Z Z q)<|DT Z Z (fun _ q=>CV1 Z fun_impl_areWhole Z (fun w hs=>impl_areWhole (hA1.s Pl.keeps hs) (by omega) (hA2.s Pl.keeps hs) (by omega) (hA3.s Pl.keeps hs) (by omega) _) q)<|DM Z Z Z<|?_
 refine dw_caseL (j:=118) Z (fun h29=>?_) (fun h29=>?_)
 ·refine DT Z Z (fun _ q=>ON Z Z Z (FA Z tyF_impl_Sender_4 Z q))<|DT Z Z (fun _ q=>ON Z Z Z (LD (i:=0) Z tyP_S_impl_Range Z Z Z q))<|DT Z Z (fun _ q=>ON Z Z Z (CV1 Z fun_impl_FirstGap Z (fun w hs=>impl_FirstGap (hA3.s Pl.keeps hs) (by omega) _) q))<|DT Z Z (fun _ q=>ON Z Z Z (FA Z tyF_impl_Sender_1 Z q))<|DT Z Z (fun _ q=>ON Z Z Z (FA Z tyF_impl_Ring_1 Z q))<|?_
  refine DT Z Z (fun _ q=>ON Z Z Z (LD (i:=0) Z tyP_int Z Z Z q))<|DT Z Z (fun _ q=>ON Z Z Z (EQ1 Z Z Z q))<|DT Z Z (fun _ q=>PT Z Z Z Z q)<|DM Z Z Z<|?_
  refine dw_caseL (j:=127) Z (fun h30=>?_) (fun h30=>?_)
  ·refine DT Z Z (fun _ q=>ON Z Z Z (FA Z tyF_impl_Sender_3 Z q))<|DT Z Z (fun _ q=>ON Z Z Z (LD (i:=0) Z tyP_S_impl_Range Z Z Z q))<|DT Z Z (fun _ q=>ON Z Z Z (FA Z tyF_impl_Sender_7 Z q))<|DT Z Z (fun _ q=>ON Z Z Z (LD (i:=0) Z tyP_int Z Z Z q))<|DT Z Z (fun _ q=>ON Z Z Z (CV1 Z fun_impl_endsBehind Z (fun w hs=>impl_endsBehind (hA2.s Pl.keeps hs) (by omega) _) q))<|?_
   refine DT Z Z (fun _ q=>ON Z Z Z (NT Z Z q))<|DT Z Z (fun _ q=>PT Z Z Z Z q)<|DM Z Z Z<|?_
   refine dw_caseN (j:=135) Z (fun h31=>?_) (fun h31=>?_)
   ·refine DT Z Z (fun _ q=>ON Z Z Z (FA Z tyF_impl_Sender_4 Z q))<|DT Z Z (fun _ q=>ON Z Z Z (LD (i:=0) Z tyP_S_impl_Range Z Z Z q))<|DT Z Z (fun _ q=>ON Z Z Z (FA Z tyF_impl_Sender_7 Z q))<|DT Z Z (fun _ q=>ON Z Z Z (LD (i:=0) Z tyP_int Z Z Z q))<|DT Z Z (fun _ q=>ON Z Z Z (CV1 Z fun_impl_endsBehind Z (fun w hs=>impl_endsBehind (hA3.s Pl.keeps hs) (by omega) _) q))<|?_
    refine DT Z Z (fun _ q=>ON Z Z Z (NT Z Z q))<|DT Z Z (fun _ q=>PT Z Z Z Z q)<|DM Z Z Z<|?_
    refine dw_caseN (j:=143) Z (fun h32=>?_) (fun h32=>?_)
    ·refine DT Z Z (fun _ q=>ON Z Z Z (FA Z tyF_impl_Sender_8 Z q))<|DT Z Z (fun _ q=>ON Z Z Z (LD (i:=0) Z tyP_int Z Z Z q))<|DT Z Z (fun _ q=>ON Z Z Z (EQ1 Z Z Z q))<|DT Z Z (fun _ q=>PT Z Z Z Z q)<|DM Z Z Z<|?_
     refine dw_caseL (j:=148) Z (fun h33=>?_) (fun h33=>?_)
     ·refine DT Z Z (fun _ q=>ON Z Z Z (FA Z tyF_impl_Sender_5 Z q))<|DT Z Z (fun _ q=>ON Z Z Z (LD (i:=0) Z tyP_int Z Z Z q))<|DT Z Z (fun _ q=>ON Z Z Z (MV Z Z q))<|DT Z Z (fun _ q=>ON Z Z Z (EQ1 Z Z Z q))<|DT Z Z (fun _ q=>PT Z Z Z Z q)<|DM Z Z Z<|?_
      refine dw_caseL (j:=154) Z (fun h34=>?_) (fun h34=>?_)
      ·refine DT Z Z (fun _ q=>ON Z Z Z (FA Z tyF_impl_Sender_0 Z q))<|DT Z Z (fun _ q=>ON Z Z Z (LD (i:=0) Z tyP_int Z Z Z q))<|DT Z Z (fun _ q=>ON Z Z Z (LS (i:=0) [_,_,_,_,_,_,_,_,_,_,_,_] Z tyS_impl_Sender Z Z Z Z q))<|DT Z Z (fun _ q=>ON Z Z Z (CV1 Z fun_impl_following Z (fun w hs=>impl_following ⟨_,_,_,_,Z,(hA0.s Pl.keeps hs),(hA1.s Pl.keeps hs),(hA2.s Pl.keeps hs),(hA3.s Pl.keeps hs)⟩) q))<|?_
       refine dw_nil<|ON Z Z Z<|EQ1 Z Z Z<|PT Z Z Z Z<|AS Z Z<|ND<|RT Tryz.func71 Z Z<|?_
       simp [isSender,senderBase,senderReset,h1,h2,h3,h4,h5,h6,h7,h8,h15,h22,h29,h30,h31,h32,h33,h34]
      refine DSK Z<|dw_nil<|OF Z Z Z Z<|PF Z Z Z Z<|AS Z Z<|ND<|RT Tryz.func71 Z Z<|?_
      simp [isSender,senderBase,senderReset,h1,h2,h3,h4,h5,h6,h7,h8,h15,h22,h29,h30,h31,h32,h33,h34]
     refine DSK Z<|DT Z Z (fun _ q=>PF Z Z Z Z q)<|DM Z Z Z<|DSK Z<|dw_nil<|OF Z Z Z Z<|PF Z Z Z Z<|AS Z Z<|ND<|RT Tryz.func71 Z Z<|?_
     simp [isSender,senderBase,senderReset,h1,h2,h3,h4,h5,h6,h7,h8,h15,h22,h29,h30,h31,h32,h33]
    refine DSK Z<|DT Z Z (fun _ q=>PF Z Z Z Z q)<|DM Z Z Z<|DSK Z<|DT Z Z (fun _ q=>PF Z Z Z Z q)<|DM Z Z Z<|DSK Z<|dw_nil<|OF Z Z Z Z<|PF Z Z Z Z<|AS Z Z<|ND<|RT Tryz.func71 Z Z<|?_
    simp [isSender,senderBase,senderReset,h1,h2,h3,h4,h5,h6,h7,h8,h15,h22,h29,h30,h31,h32]
   refine DSK Z<|DT Z Z (fun _ q=>PF Z Z Z Z q)<|DM Z Z Z<|DSK Z<|DT Z Z (fun _ q=>PF Z Z Z Z q)<|DM Z Z Z<|DSK Z<|DT Z Z (fun _ q=>PF Z Z Z Z q)<|DM Z Z Z<|DSK Z<|dw_nil<|OF Z Z Z Z<|PF Z Z Z Z<|AS Z Z<|ND<|RT Tryz.func71 Z Z<|?_
   simp [isSender,senderBase,senderReset,h1,h2,h3,h4,h5,h6,h7,h8,h15,h22,h29,h30,h31]
  refine DSK Z<|DT Z Z (fun _ q=>PF Z Z Z Z q)<|DM Z Z Z<|DSK Z<|DT Z Z (fun _ q=>PF Z Z Z Z q)<|DM Z Z Z<|DSK Z<|DT Z Z (fun _ q=>PF Z Z Z Z q)<|DM Z Z Z<|DSK Z<|DT Z Z (fun _ q=>PF Z Z Z Z q)<|DM Z Z Z<|DSK Z<|dw_nil<|OF Z Z Z Z<|PF Z Z Z Z<|AS Z Z<|ND<|?_
  refine RT Tryz.func71 Z Z<|?_
  simp [isSender,senderBase,senderReset,h1,h2,h3,h4,h5,h6,h7,h8,h15,h22,h29,h30]
 refine DSK Z<|DT Z Z (fun _ q=>PF Z Z Z Z q)<|DM Z Z Z<|DSK Z<|DT Z Z (fun _ q=>PF Z Z Z Z q)<|DM Z Z Z<|DSK Z<|DT Z Z (fun _ q=>PF Z Z Z Z q)<|DM Z Z Z<|DSK Z<|DT Z Z (fun _ q=>PF Z Z Z Z q)<|DM Z Z Z<|DSK Z<|DT Z Z (fun _ q=>PF Z Z Z Z q)<|DM Z Z Z<|?_
 refine DSK Z<|dw_nil<|OF Z Z Z Z<|PF Z Z Z Z<|AS Z Z<|ND<|RT Tryz.func71 Z Z<|?_
 simp [isSender,senderBase,senderReset,h1,h2,h3,h4,h5,h6,h7,h8,h15,h22,h29]
theorem impl_IsCredit (c : Credit) (w : World) : CV Tryz.prog 72 [.agg c.cells.toArray] w (.bool (isCredit c)) := by
 refine cv_of Tryz.func72 Z Z Z<|SQ<|RG<|BX [_,_,_,_] Z Z Z<|fun b1=>AS Z Z<|ND<|SQ<|RG<|FA Z tyF_impl_Credit_0 Z<|LD (i:=0) Z tyP_int Z Z Z<|CV1 Z fun_impl_isQuic Z (fun w hs=>impl_isQuic _ w)<|MV Z Z<|?_
 refine rw_caseL (j:=6) Z (fun h1=>?_) (fun h1=>?_)
 ·refine ON Z Z Z<|FA Z tyF_impl_Credit_1 Z<|ON Z Z Z<|LD (i:=0) Z tyP_int Z Z Z<|ON Z Z Z<|FA Z tyF_impl_Credit_0 Z<|ON Z Z Z<|LD (i:=0) Z tyP_int Z Z Z<|ON Z Z Z<|CV1 Z fun_impl_within Z (fun w hs=>impl_within _ _ _ w)<|PT Z Z Z Z<|MV Z Z<|?_
  refine rw_caseL (j:=13) Z (fun h2=>?_) (fun h2=>?_)
  ·refine ON Z Z Z<|FA Z tyF_impl_Credit_2 Z<|ON Z Z Z<|LD (i:=0) Z tyP_int Z Z Z<|ON Z Z Z<|FA Z tyF_impl_Credit_0 Z<|ON Z Z Z<|LD (i:=0) Z tyP_int Z Z Z<|ON Z Z Z<|CV1 Z fun_impl_within Z (fun w hs=>impl_within _ _ _ w)<|PT Z Z Z Z<|MV Z Z<|?_
   refine rw_caseL (j:=20) Z (fun h3=>?_) (fun h3=>?_)
   ·refine ON Z Z Z<|FA Z tyF_impl_Credit_3 Z<|ON Z Z Z<|LD (i:=0) Z tyP_int Z Z Z<|ON Z Z Z<|FA Z tyF_impl_Credit_0 Z<|ON Z Z Z<|LD (i:=0) Z tyP_int Z Z Z<|ON Z Z Z<|CV1 Z fun_impl_within Z (fun w hs=>impl_within _ _ _ w)<|PT Z Z Z Z<|AS Z Z<|ND<|RT Tryz.func72 Z Z<|?_
    simp [isCredit,h1,h2,h3]
   refine SKP Z<|PF Z Z Z Z<|AS Z Z<|ND<|RT Tryz.func72 Z Z<|?_
   simp [isCredit,h1,h2,h3]
  refine SKP Z<|PF Z Z Z Z<|MV Z Z<|SKP Z<|PF Z Z Z Z<|AS Z Z<|ND<|RT Tryz.func72 Z Z<|?_
  simp [isCredit,h1,h2]
 refine SKP Z<|PF Z Z Z Z<|MV Z Z<|SKP Z<|PF Z Z Z Z<|MV Z Z<|SKP Z<|PF Z Z Z Z<|AS Z Z<|ND<|RT Tryz.func72 Z Z<|?_
 simp [isCredit,h1]
theorem impl_Chunk_end (c : Chunk) (w : World) : CV Tryz.prog 159 [.agg c.cells.toArray] w (.int .i64 (chunkEnd c)) := by
 refine cv_of Tryz.func159 Z Z Z<|SQ<|RG<|BX [_,_] Z Z Z<|fun b1=>AS Z Z<|ND<|SQ<|RG<|FA Z tyF_impl_Chunk_0 Z<|LD (i:=0) Z tyP_int Z Z Z<|FA Z tyF_impl_Chunk_1 Z<|LD (i:=0) Z tyP_string Z Z Z<|rw_lenS Z (by kernel_rfl) Z<|rw_add Z Z Z<|AS Z Z<|ND<|RT Tryz.func159 Z Z<|?_
 rfl
theorem impl_IsBuffer {w : World} {cs : List Value} {x : Buffer} (hv : RdBuffer w cs x) (hb : x.le 1048576) : CV Tryz.prog 125 [.agg cs.toArray] w (.bool (isBuffer x)) := by
 obtain ⟨v0,rfl,k0⟩:=hv
 obtain ⟨A0,c0,rfl,hA0⟩:=k0
 obtain ⟨hb0,hb1⟩:=hb
 refine cv_of Tryz.func125 Z Z Z<|SQ<|RG<|BX [_,_] Z Z Z<|fun b1=>AS Z Z<|ND<|SQ<|SQ<|RG<|FA Z tyF_impl_Buffer_0 Z<|LD (i:=0) Z tyP_int Z Z Z<|CV1 Z fun_impl_isQuic Z (fun w hs=>impl_isQuic _ w)<|NT Z Z<|ND<|?_
 refine gw_condN Z (fun h1=>?_) (fun h1=>?_)
 ·refine SQ<|RG<|AS Z Z<|ND<|RT Tryz.func125 Z Z<|?_
  simp [isBuffer,h1]
 refine SK<|SQ<|RG<|FA Z tyF_impl_Buffer_0 Z<|LD (i:=0) Z tyP_int Z Z Z<|AS Z Z<|ND<|SQ<|SQ<|RG<|FA Z tyF_impl_Buffer_1 Z<|LD (i:=0) Z tyP_S_impl_Chunk Z Z Z<|rw_len Z tyE_S_impl_Chunk Z<|MV Z Z<|ND<|BK<|?_
 refine gw_loopC (α:=Nat × Int) (fun z_=>z_.1 ≤ x.chunks.length ∧ isBuffer x = bufFrom z_.2 (x.chunks.drop z_.1)) (fun z_=>x.chunks.length - z_.1) (fun e z_=>(15,.int .i64 (z_.1 : Int)) :: (3,.int .i64 z_.2) :: e) (0,x.next) [(13,_),(14,_)] (Sub.consE Z Z (Sub.consE Z Z (Sub.cons (i:=13) Z (Sub.cons (i:=14) Z (Sub.nil _))))) ?_ ?_
 ·exact ⟨Nat.zero_le _,by simp [isBuffer,h1]⟩
 ·rintro ⟨i,e⟩ hI1 ih1
  dsimp only at hI1
  dsimp only
  obtain ⟨hle,hI⟩:=hI1
  refine SQ<|RG<|rw_lss Z Z Z<|ND<|SQ<|?_
  refine gw_cond Z (fun h2=>?_) (fun h2=>?_)
  ·have hi2:=lt_of_dec h2
   obtain ⟨x3,hx3⟩:=get_of_lt hi2
   have hd3:=drop_cons hx3
   refine SK<|SQ<|BK<|SQ<|RG<|?_
   have hq4:=hA0.plain hx3
   refine rw_indexAddr (i) Z tyE_S_impl_Chunk Z Z Z (hA0.some hi2) hi2<|rw_loadX_s [_,_] Z tyS_impl_Chunk Z Z (fun w hs=>hq4.lds0 (n:=2) hs Z)<|AL Z tyZ_impl_Chunk<|fun b2=>ST (i:=0) [_,_] [_,_] tyS_impl_Chunk.sz Z Z Z Z Z Z Z Z<|ND<|SQ<|SQ<|RG<|FA Z tyF_impl_Chunk_1 Z<|LD (i:=0) Z tyP_string Z Z Z<|rw_lenS Z (by kernel_rfl) Z<|EQ1 Z Z Z<|MV Z Z<|?_
   refine rw_caseL (j:=23) Z (fun h3=>?_) (fun h3=>?_)
   ·refine SKP Z<|PT Z Z Z Z<|MV Z Z<|SKP Z<|PT Z Z Z Z<|ND<|CT Z Z<|SQ<|RG<|AS Z Z<|ND<|RT Tryz.func125 Z Z<|?_
    rw [hI,hd3]; simp [bufFrom,maxQuic,h3]
   refine ON Z Z Z<|FA Z tyF_impl_Chunk_0 Z<|ON Z Z Z<|LD (i:=0) Z tyP_int Z Z Z<|ON Z Z Z<|MV Z Z<|ON Z Z Z<|rw_lss Z Z Z<|PF Z Z Z Z<|MV Z Z<|?_
   refine rw_caseL (j:=29) Z (fun h4=>?_) (fun h4=>?_)
   ·refine SKP Z<|PT Z Z Z Z<|ND<|CT Z Z<|SQ<|RG<|AS Z Z<|ND<|RT Tryz.func125 Z Z<|?_
    rw [hI,hd3]; simp [bufFrom,maxQuic,h3,h4]
   refine ON Z Z Z<|FA Z tyF_impl_Chunk_0 Z<|ON Z Z Z<|LD (i:=0) Z tyP_int Z Z Z<|ON Z Z Z<|FA Z tyF_impl_Chunk_1 Z<|ON Z Z Z<|LD (i:=0) Z tyP_string Z Z Z<|ON Z Z Z<|rw_lenS Z (by kernel_rfl) Z<|ON Z Z Z<|rw_sub Z Z Z<|ON Z Z Z<|rw_gtr Z Z Z<|PF Z Z Z Z<|ND<|?_
   refine gw_cond Z (fun h5=>?_) (fun h5=>?_)
   ·refine SQ<|RG<|AS Z Z<|ND<|RT Tryz.func125 Z Z<|?_
    rw [hI,hd3]; simp [bufFrom,maxQuic,h3,h4,h5]
   refine SK<|RG<|LS (i:=0) [_,_] Z tyS_impl_Chunk Z Z Z Z<|CV1 Z fun_impl_Chunk_end Z (fun w hs=>impl_Chunk_end _ w)<|rw_add Z Z Z<|AS Z Z<|ND<|IB<|RG<|rw_add Z Z Z<|MV Z Z<|ND<|gw_dropN 1<|?_
   refine gw_sub (Sub.consE (i:=15) Z (int_succ (by omega)) (Sub.consE (i:=3) Z Z (Sub.cons (i:=13) Z (Sub.cons (i:=14) Z (Sub.nil _))))) (ih1 (i + 1,w64 (chunkEnd x3 + 1)) ?_ ?_)
   ·exact ⟨by omega,by rw [hI,hd3]; simp [bufFrom,maxQuic,h3,h4,h5]⟩
   ·show x.chunks.length - (i + 1) < x.chunks.length - i; omega
  have hn5:=nil_of_dec h2
  refine EX Z<|SQ<|RG<|AS Z Z<|ND<|RT Tryz.func125 Z Z<|?_
  rw [hI,hn5]; rfl
theorem impl_EndOf {w : World} {cs : List Value} {x : Buffer} (hv : RdBuffer w cs x) (hb : x.le 1048576) : CV Tryz.prog 126 [.agg cs.toArray] w (.int .i64 (endOf x)) := by
 obtain ⟨v0,rfl,k0⟩:=hv
 obtain ⟨A0,c0,rfl,hA0⟩:=k0
 obtain ⟨hb0,hb1⟩:=hb
 refine cv_of Tryz.func126 Z Z Z<|SQ<|RG<|BX [_,_] Z Z Z<|fun b1=>AS Z Z<|ND<|SQ<|SQ<|RG<|LS (i:=0) [_,_] Z tyS_impl_Buffer Z Z Z Z<|CV1 Z fun_impl_IsBuffer Z (fun w hs=>impl_IsBuffer ⟨_,Z,(hA0.s Pl.keeps hs)⟩ ⟨hb0,hb1⟩)<|NT Z Z<|MV Z Z<|?_
 refine rw_caseN (j:=6) Z (fun h1=>?_) (fun h1=>?_)
 ·refine SKP Z<|PT Z Z Z Z<|ND<|CT Z Z<|SQ<|RG<|FA Z tyF_impl_Buffer_0 Z<|LD (i:=0) Z tyP_int Z Z Z<|AS Z Z<|ND<|RT Tryz.func126 Z Z<|?_
  simp [endOf,chunkEnd,h1]
 refine ON Z Z Z<|FA Z tyF_impl_Buffer_1 Z<|ON Z Z Z<|LD (i:=0) Z tyP_S_impl_Chunk Z Z Z<|ON Z Z Z<|rw_len Z tyE_S_impl_Chunk Z<|ON Z Z Z<|EQ1 Z Z Z<|PF Z Z Z Z<|ND<|?_
 refine gw_cond Z (fun h2=>?_) (fun h2=>?_)
 ·have hnil1:=nil_of_eq h2
  refine SQ<|RG<|FA Z tyF_impl_Buffer_0 Z<|LD (i:=0) Z tyP_int Z Z Z<|AS Z Z<|ND<|RT Tryz.func126 Z Z<|?_
  simp [endOf,h1,hnil1]
 have hpos2:=pos_of_ne h2
 refine SK<|SQ<|RG<|FA Z tyF_impl_Buffer_1 Z<|LD (i:=0) Z tyP_S_impl_Chunk Z Z Z<|FA Z tyF_impl_Buffer_1 Z<|LD (i:=0) Z tyP_S_impl_Chunk Z Z Z<|rw_len Z tyE_S_impl_Chunk Z<|rw_sub Z Z Z<|?_
 have hi3 : x.chunks.length - 1 < x.chunks.length:=by omega
 obtain ⟨x4,hx4⟩:=get_of_lt hi3
 have hd4:=drop_cons hx4
 have hq5:=hA0.plain hx4
 refine rw_indexAddr (x.chunks.length - 1) Z tyE_S_impl_Chunk Z Z (lenpred_of (by omega) (by omega)) (hA0.some hi3) hi3<|rw_loadX_s [_,_] Z tyS_impl_Chunk Z Z (fun w hs=>hq5.lds0 (n:=2) hs Z)<|CV1 Z fun_impl_Chunk_end Z (fun w hs=>impl_Chunk_end _ w)<|AS Z Z<|ND<|RT Tryz.func126 Z Z<|?_
 simp [endOf,chunkEnd,h1,hx4]
theorem impl_ReadyBytes {w : World} {cs : List Value} {x : Buffer} (hv : RdBuffer w cs x) (hb : x.le 1048576) : CV Tryz.prog 160 [.agg cs.toArray] w (.int .i64 (readyBytes x)) := by
 obtain ⟨v0,rfl,k0⟩:=hv
 obtain ⟨A0,c0,rfl,hA0⟩:=k0
 obtain ⟨hb0,hb1⟩:=hb
 refine cv_of Tryz.func160 Z Z Z<|SQ<|RG<|BX [_,_] Z Z Z<|fun b1=>AS Z Z<|ND<|SQ<|SQ<|gw_draw' [dd 0,dd 1,dd 2,dd 3,dd 4,dd 5,dd 6,dd 7,dd 8,dd 9,dd 10,dd 11,dd 12,dd 13,dd 14,dd 15,dd 16] [17,18] mixed Z (FD Z) (ts:=[_,_]) Z<|DT Z Z (fun _ q=>LS (i:=0) [_,_] Z tyS_impl_Buffer Z Z Z Z q)<|DT Z Z (fun _ q=>CV1 Z fun_impl_IsBuffer Z (fun w hs=>impl_IsBuffer ⟨_,Z,(hA0.s Pl.keeps hs)⟩ ⟨hb0,hb1⟩) q)<|?_
 refine DT Z Z (fun _ q=>NT Z Z q)<|DM Z Z Z<|?_
 refine dw_caseN (j:=6) Z (fun h1=>?_) (fun h1=>?_)
 ·refine DSK Z<|DT Z Z (fun _ q=>PT Z Z Z Z q)<|DM Z Z Z<|DSK Z<|dw_nil<|OF Z Z Z Z<|PT Z Z Z Z<|ND<|CT Z Z<|SQ<|RG<|AS Z Z<|ND<|RT Tryz.func160 Z Z<|?_
  simp [readyBytes,h1]
 refine DT Z Z (fun _ q=>ON Z Z Z (FA Z tyF_impl_Buffer_1 Z q))<|DT Z Z (fun _ q=>ON Z Z Z (LD (i:=0) Z tyP_S_impl_Chunk Z Z Z q))<|DT Z Z (fun _ q=>ON Z Z Z (rw_len Z tyE_S_impl_Chunk Z q))<|DT Z Z (fun _ q=>ON Z Z Z (EQ1 Z Z Z q))<|DT Z Z (fun _ q=>PF Z Z Z Z q)<|DM Z Z Z<|?_
 refine dw_caseL (j:=12) Z (fun h2=>?_) (fun h2=>?_)
 ·have hnil1:=nil_of_eq h2
  refine DSK Z<|dw_nil<|OF Z Z Z Z<|PT Z Z Z Z<|ND<|CT Z Z<|SQ<|RG<|AS Z Z<|ND<|RT Tryz.func160 Z Z<|?_
  simp [readyBytes,h1,hnil1]
 have hpos2:=pos_of_ne h2
 refine DT Z Z (fun _ q=>ON Z Z Z (FA Z tyF_impl_Buffer_1 Z q))<|DT Z Z (fun _ q=>ON Z Z Z (LD (i:=0) Z tyP_S_impl_Chunk Z Z Z q))<|?_
 have hi3 : 0 < x.chunks.length:=by omega
 obtain ⟨x4,hx4⟩:=get_of_lt hi3
 have hd4:=drop_cons hx4
 have hq5:=hA0.plain hx4
 refine DT Z Z (fun _ q=>ON Z Z Z (rw_indexAddr (0) Z tyE_S_impl_Chunk Z Z Z (hA0.some hi3) hi3 q))<|DT Z Z (fun _ q=>ON Z Z Z (FX Z tyF_impl_Chunk_0 Z q))<|DT Z Z (fun _ q=>ON Z Z Z (rw_loadX _ Z tyP_int Z (fun w hs=>hq5.ld hs Z) q))<|DT Z Z (fun _ q=>ON Z Z Z (FA Z tyF_impl_Buffer_0 Z q))<|DT Z Z (fun _ q=>ON Z Z Z (LD (i:=0) Z tyP_int Z Z Z q))<|dw_nil<|ON Z Z Z<|?_
 refine rw_neq Z Z Z<|PF Z Z Z Z<|ND<|?_
 refine gw_condN Z (fun h3=>?_) (fun h3=>?_)
 ·refine SQ<|RG<|AS Z Z<|ND<|RT Tryz.func160 Z Z<|?_
  simp [readyBytes,h1,h3,hx4]
 refine SK<|SQ<|RG<|FA Z tyF_impl_Buffer_1 Z<|LD (i:=0) Z tyP_S_impl_Chunk Z Z Z<|rw_indexAddr (0) Z tyE_S_impl_Chunk Z Z Z (hA0.some hi3) hi3<|FX Z tyF_impl_Chunk_1 Z<|rw_loadX _ Z tyP_string Z (fun w hs=>hq5.ld hs Z)<|rw_lenS Z (by kernel_rfl) Z<|AS Z Z<|ND<|RT Tryz.func160 Z Z<|?_
 simp [readyBytes,h1,h3,hx4]
theorem impl_readyEnd {w : World} {cs : List Value} {x : Buffer} (hv : RdBuffer w cs x) (hb : x.le 1048576) : CV Tryz.prog 127 [.agg cs.toArray] w (.int .i64 (w64 (x.next + readyBytes x))) := by
 obtain ⟨v0,rfl,k0⟩:=hv
 obtain ⟨A0,c0,rfl,hA0⟩:=k0
 obtain ⟨hb0,hb1⟩:=hb
 refine cv_of Tryz.func127 Z Z Z<|SQ<|RG<|BX [_,_] Z Z Z<|fun b1=>AS Z Z<|ND<|SQ<|gw_draw' [dd 0,dd 1,dd 2,dd 3] [4,5] mixed Z (FD Z) (ts:=[_,_]) Z<|DT Z Z (fun _ q=>FA Z tyF_impl_Buffer_0 Z q)<|DT Z Z (fun _ q=>LD (i:=0) Z tyP_int Z Z Z q)<|DT Z Z (fun _ q=>LS (i:=0) [_,_] Z tyS_impl_Buffer Z Z Z Z q)<|DT Z Z (fun _ q=>CV1 Z fun_impl_ReadyBytes Z (fun w hs=>impl_ReadyBytes ⟨_,Z,(hA0.s Pl.keeps hs)⟩ ⟨hb0,hb1⟩) q)<|?_
 refine dw_nil<|rw_add Z Z Z<|AS Z Z<|ND<|RT Tryz.func127 Z Z<|?_
 rfl
theorem impl_IsReceiver {w : World} {cs : List Value} {x : Receiver} (hv : RdReceiver w cs x) (hb : x.le 1048576) : CV Tryz.prog 73 [.agg cs.toArray] w (.bool (isReceiver x)) := by
 obtain ⟨v0,rfl,k0⟩:=hv
 obtain ⟨A0,c0,rfl,hA0⟩:=k0
 obtain ⟨hb0,hb1⟩:=hb
 refine cv_of Tryz.func73 Z Z Z<|SQ<|RG<|BX [_,_,_,_,_,_] Z Z Z<|fun b1=>AS Z Z<|ND<|SQ<|SQ<|gw_draw' [dd 0,dd 1,dd 2,dd 3,dd 4,dd 5,dd 6,dd 7,dd 8,dd 9,dd 10,dd 11,dd 12,dd 13,dd 14,dd 15,dd 16,dd 17,dd 18,dd 19,dd 20,dd 21,dd 22,dd 23,dd 24,dd 25,dd 26,dd 27,dd 28,dd 29,dd 30,dd 31,dd 32] [33,34,35,36] mixed Z (FD Z) (ts:=[_,_,_,_]) Z<|?_
 refine DT Z Z (fun _ q=>FA Z tyF_impl_Receiver_1 Z q)<|DT Z Z (fun _ q=>LS (i:=0) [_,_] Z tyS_impl_Buffer Z Z Z Z q)<|DT Z Z (fun _ q=>CV1 Z fun_impl_IsBuffer Z (fun w hs=>impl_IsBuffer ⟨_,Z,(hA0.s Pl.keeps hs)⟩ ⟨hb0,hb1⟩) q)<|DT Z Z (fun _ q=>NT Z Z q)<|DM Z Z Z<|?_
 refine dw_caseN (j:=8) Z (fun h1=>?_) (fun h1=>?_)
 ·refine DSK Z<|DT Z Z (fun _ q=>PT Z Z Z Z q)<|DM Z Z Z<|DSK Z<|DT Z Z (fun _ q=>PT Z Z Z Z q)<|DM Z Z Z<|DSK Z<|DT Z Z (fun _ q=>PT Z Z Z Z q)<|DM Z Z Z<|DSK Z<|dw_nil<|SKP Z<|PT Z Z Z Z<|ND<|CT Z Z<|SQ<|RG<|AS Z Z<|ND<|RT Tryz.func73 Z Z<|?_
  simp [isReceiver,maxQuic,h1]
 refine DT Z Z (fun _ q=>ON Z Z Z (FA Z tyF_impl_Receiver_1 Z q))<|DT Z Z (fun _ q=>ON Z Z Z (LS (i:=0) [_,_] Z tyS_impl_Buffer Z Z Z Z q))<|DT Z Z (fun _ q=>ON Z Z Z (CV1 Z fun_impl_EndOf Z (fun w hs=>impl_EndOf ⟨_,Z,(hA0.s Pl.keeps hs)⟩ ⟨hb0,hb1⟩) q))<|DT Z Z (fun _ q=>ON Z Z Z (FA Z tyF_impl_Receiver_3 Z q))<|DT Z Z (fun _ q=>ON Z Z Z (LD (i:=0) Z tyP_int Z Z Z q))<|?_
 refine DT Z Z (fun _ q=>ON Z Z Z (rw_gtr Z Z Z q))<|DT Z Z (fun _ q=>PF Z Z Z Z q)<|DM Z Z Z<|?_
 refine dw_caseL (j:=16) Z (fun h2=>?_) (fun h2=>?_)
 ·refine DSK Z<|DT Z Z (fun _ q=>PT Z Z Z Z q)<|DM Z Z Z<|DSK Z<|DT Z Z (fun _ q=>PT Z Z Z Z q)<|DM Z Z Z<|DSK Z<|dw_nil<|SKP Z<|PT Z Z Z Z<|ND<|CT Z Z<|SQ<|RG<|AS Z Z<|ND<|RT Tryz.func73 Z Z<|?_
  simp [isReceiver,maxQuic,h1,h2]
 refine DT Z Z (fun _ q=>ON Z Z Z (FA Z tyF_impl_Receiver_3 Z q))<|DT Z Z (fun _ q=>ON Z Z Z (LD (i:=0) Z tyP_int Z Z Z q))<|DT Z Z (fun _ q=>ON Z Z Z (CV1 Z fun_impl_isQuic Z (fun w hs=>impl_isQuic _ w) q))<|DT Z Z (fun _ q=>ON Z Z Z (NT Z Z q))<|DT Z Z (fun _ q=>PF Z Z Z Z q)<|DM Z Z Z<|?_
 refine dw_caseN (j:=22) Z (fun h3=>?_) (fun h3=>?_)
 ·refine DSK Z<|DT Z Z (fun _ q=>PT Z Z Z Z q)<|DM Z Z Z<|DSK Z<|dw_nil<|SKP Z<|PT Z Z Z Z<|ND<|CT Z Z<|SQ<|RG<|AS Z Z<|ND<|RT Tryz.func73 Z Z<|?_
  simp [isReceiver,maxQuic,h1,h2,h3]
 refine DT Z Z (fun _ q=>ON Z Z Z (FA Z tyF_impl_Receiver_4 Z q))<|DT Z Z (fun _ q=>ON Z Z Z (LD (i:=0) Z tyP_int Z Z Z q))<|DT Z Z (fun _ q=>ON Z Z Z (CV1 Z fun_impl_isQuic Z (fun w hs=>impl_isQuic _ w) q))<|DT Z Z (fun _ q=>ON Z Z Z (NT Z Z q))<|DT Z Z (fun _ q=>PF Z Z Z Z q)<|DM Z Z Z<|?_
 refine dw_caseN (j:=28) Z (fun h4=>?_) (fun h4=>?_)
 ·refine DSK Z<|dw_nil<|SKP Z<|PT Z Z Z Z<|ND<|CT Z Z<|SQ<|RG<|AS Z Z<|ND<|RT Tryz.func73 Z Z<|?_
  simp [isReceiver,maxQuic,h1,h2,h3,h4]
 refine DT Z Z (fun _ q=>ON Z Z Z (FA Z tyF_impl_Receiver_2 Z q))<|DT Z Z (fun _ q=>ON Z Z Z (LD (i:=0) Z tyP_int Z Z Z q))<|DT Z Z (fun _ q=>ON Z Z Z (rw_neq Z Z Z q))<|DT Z Z (fun _ q=>ON Z Z Z (MV Z Z q))<|?_
 refine dw_caseN (j:=32) Z (fun h5=>?_) (fun h5=>?_)
 ·refine DT Z Z (fun _ q=>ON Z Z Z (FA Z tyF_impl_Receiver_2 Z q))<|DT Z Z (fun _ q=>ON Z Z Z (LD (i:=0) Z tyP_int Z Z Z q))<|DT Z Z (fun _ q=>ON Z Z Z (FA Z tyF_impl_Receiver_3 Z q))<|DT Z Z (fun _ q=>ON Z Z Z (LD (i:=0) Z tyP_int Z Z Z q))<|dw_nil<|ON Z Z Z<|CV1 Z fun_impl_within Z (fun w hs=>impl_within _ _ _ w)<|ON Z Z Z<|NT Z Z<|ON Z Z Z<|?_
  refine PT Z Z Z Z<|PF Z Z Z Z<|ND<|?_
  refine gw_condN Z (fun h6=>?_) (fun h6=>?_)
  ·refine SQ<|RG<|AS Z Z<|ND<|RT Tryz.func73 Z Z<|?_
   simp [isReceiver,maxQuic,h1,h2,h3,h4,h5,h6]
  refine SK<|SQ<|gw_draw' [dd 0,dd 1,dd 2,dd 3,dd 4,dd 5,dd 6,dd 7,dd 8] [9,10,11] mixed Z (FD Z) (ts:=[_,_,_]) Z<|DT Z Z (fun _ q=>FA Z tyF_impl_Receiver_2 Z q)<|DT Z Z (fun _ q=>LD (i:=0) Z tyP_int Z Z Z q)<|DT Z Z (fun _ q=>rw_neq Z Z Z q)<|DM Z Z Z<|?_
  refine dw_caseN (j:=44) Z (fun h7=>?_) (fun h7=>?_)
  ·refine DT Z Z (fun _ q=>ON Z Z Z (FA Z tyF_impl_Receiver_1 Z q))<|DT Z Z (fun _ q=>ON Z Z Z (LS (i:=0) [_,_] Z tyS_impl_Buffer Z Z Z Z q))<|DT Z Z (fun _ q=>ON Z Z Z (CV1 Z fun_impl_readyEnd Z (fun w hs=>impl_readyEnd ⟨_,Z,(hA0.s Pl.keeps hs)⟩ ⟨hb0,hb1⟩) q))<|DT Z Z (fun _ q=>ON Z Z Z (FA Z tyF_impl_Receiver_2 Z q))<|DT Z Z (fun _ q=>ON Z Z Z (LD (i:=0) Z tyP_int Z Z Z q))<|?_
   refine dw_nil<|ON Z Z Z<|EQ1 Z Z Z<|PT Z Z Z Z<|AS Z Z<|ND<|SQ<|SQ<|RG<|FA Z tyF_impl_Receiver_0 Z<|LD (i:=0) Z tyP_int Z Z Z<|ND<|BK<|SQ<|RG<|EQ1 Z Z Z<|AS Z Z<|ND<|?_
   refine gw_cond Z (fun h8=>?_) (fun h8=>?_)
   ·refine SQ<|RG<|FA Z tyF_impl_Receiver_2 Z<|LD (i:=0) Z tyP_int Z Z Z<|EQ1 Z Z Z<|MV Z Z<|?_
    refine rw_caseL (j:=59) Z (fun h9=>?_) (fun h9=>?_)
    ·refine ON Z Z Z<|FA Z tyF_impl_Receiver_4 Z<|ON Z Z Z<|LD (i:=0) Z tyP_int Z Z Z<|ON Z Z Z<|EQ1 Z Z Z<|PT Z Z Z Z<|AS Z Z<|ND<|RT Tryz.func73 Z Z<|?_
     simp_all []
    refine SKP Z<|PF Z Z Z Z<|AS Z Z<|ND<|RT Tryz.func73 Z Z<|?_
    simp [isReceiver,maxQuic,h1,h2,h3,h4,h5,h6,h8]
   refine SQ<|RG<|EQ1 Z Z Z<|AS Z Z<|ND<|?_
   refine gw_cond Z (fun h10=>?_) (fun h10=>?_)
   ·refine SQ<|RG<|FA Z tyF_impl_Receiver_2 Z<|LD (i:=0) Z tyP_int Z Z Z<|rw_neq Z Z Z<|MV Z Z<|?_
    refine rw_caseN (j:=69) Z (fun h11=>?_) (fun h11=>?_)
    ·refine ON Z Z Z<|MV Z Z<|ON Z Z Z<|NT Z Z<|PT Z Z Z Z<|MV Z Z<|?_
     refine rw_caseN (j:=73) Z (fun h12=>?_) (fun h12=>?_)
     ·refine ON Z Z Z<|FA Z tyF_impl_Receiver_4 Z<|ON Z Z Z<|LD (i:=0) Z tyP_int Z Z Z<|ON Z Z Z<|EQ1 Z Z Z<|PT Z Z Z Z<|AS Z Z<|ND<|RT Tryz.func73 Z Z<|?_
      simp [isReceiver,maxQuic,h1,h2,h3,h4,h5,h6,h8,h10,h12]
     refine SKP Z<|PF Z Z Z Z<|AS Z Z<|ND<|RT Tryz.func73 Z Z<|?_
     simp [isReceiver,maxQuic,h1,h2,h3,h4,h5,h6,h8,h10,h12]
    refine SKP Z<|PF Z Z Z Z<|MV Z Z<|SKP Z<|PF Z Z Z Z<|AS Z Z<|ND<|RT Tryz.func73 Z Z<|?_
    simp_all []
   refine SQ<|RG<|EQ1 Z Z Z<|AS Z Z<|ND<|?_
   refine gw_cond Z (fun h13=>?_) (fun h13=>?_)
   ·refine SQ<|RG<|MV Z Z<|MV Z Z<|?_
    refine rw_caseL (j:=81) Z (fun h14=>?_) (fun h14=>?_)
    ·refine ON Z Z Z<|FA Z tyF_impl_Receiver_4 Z<|ON Z Z Z<|LD (i:=0) Z tyP_int Z Z Z<|ON Z Z Z<|EQ1 Z Z Z<|PT Z Z Z Z<|AS Z Z<|ND<|RT Tryz.func73 Z Z<|?_
     simp [isReceiver,maxQuic,h1,h2,h3,h4,h5,h6,h8,h10,h13,h14]
    refine SKP Z<|PF Z Z Z Z<|AS Z Z<|ND<|RT Tryz.func73 Z Z<|?_
    simp [isReceiver,maxQuic,h1,h2,h3,h4,h5,h6,h8,h10,h13,h14]
   refine SQ<|RG<|EQ1 Z Z Z<|AS Z Z<|ND<|?_
   refine gw_cond Z (fun h15=>?_) (fun h15=>?_)
   ·refine SQ<|RG<|MV Z Z<|MV Z Z<|?_
    refine rw_caseL (j:=89) Z (fun h16=>?_) (fun h16=>?_)
    ·refine ON Z Z Z<|FA Z tyF_impl_Receiver_4 Z<|ON Z Z Z<|LD (i:=0) Z tyP_int Z Z Z<|ON Z Z Z<|EQ1 Z Z Z<|PT Z Z Z Z<|MV Z Z<|?_
     refine rw_caseL (j:=94) Z (fun h17=>?_) (fun h17=>?_)
     ·refine ON Z Z Z<|FA Z tyF_impl_Receiver_1 Z<|ON Z Z Z<|FA Z tyF_impl_Buffer_1 Z<|ON Z Z Z<|LD (i:=0) Z tyP_S_impl_Chunk Z Z Z<|ON Z Z Z<|rw_len Z tyE_S_impl_Chunk Z<|ON Z Z Z<|EQ1 Z Z Z<|PT Z Z Z Z<|AS Z Z<|ND<|RT Tryz.func73 Z Z<|?_
      simp [isReceiver,maxQuic,h1,h2,h3,h4,h5,h6,h8,h10,h13,h15,h16,h17]
     refine SKP Z<|PF Z Z Z Z<|AS Z Z<|ND<|RT Tryz.func73 Z Z<|?_
     simp [isReceiver,maxQuic,h1,h2,h3,h4,h5,h6,h8,h10,h13,h15,h16,h17]
    refine SKP Z<|PF Z Z Z Z<|MV Z Z<|SKP Z<|PF Z Z Z Z<|AS Z Z<|ND<|RT Tryz.func73 Z Z<|?_
    simp [isReceiver,maxQuic,h1,h2,h3,h4,h5,h6,h8,h10,h13,h15,h16]
   refine SQ<|SQ<|RG<|EQ1 Z Z Z<|AS Z Z<|ND<|?_
   refine gw_cond Z (fun h18=>?_) (fun h18=>?_)
   ·refine SK<|CT Z h18<|SQ<|RG<|FA Z tyF_impl_Receiver_2 Z<|LD (i:=0) Z tyP_int Z Z Z<|FA Z tyF_impl_Receiver_3 Z<|LD (i:=0) Z tyP_int Z Z Z<|EQ1 Z Z Z<|MV Z Z<|?_
    refine rw_caseL (j:=109) Z (fun h19=>?_) (fun h19=>?_)
    ·refine ON Z Z Z<|FA Z tyF_impl_Receiver_1 Z<|ON Z Z Z<|FA Z tyF_impl_Buffer_1 Z<|ON Z Z Z<|LD (i:=0) Z tyP_S_impl_Chunk Z Z Z<|ON Z Z Z<|rw_len Z tyE_S_impl_Chunk Z<|ON Z Z Z<|EQ1 Z Z Z<|PT Z Z Z Z<|AS Z Z<|ND<|RT Tryz.func73 Z Z<|?_
     simp [isReceiver,maxQuic,h1,h2,h3,h4,h5,h6,h8,h10,h13,h15,h18,h19]
    refine SKP Z<|PF Z Z Z Z<|AS Z Z<|ND<|RT Tryz.func73 Z Z<|?_
    simp [isReceiver,maxQuic,h1,h2,h3,h4,h5,h6,h8,h10,h13,h15,h18,h19]
   refine RG<|EQ1 Z Z Z<|AS Z Z<|ND<|?_
   refine gw_cond Z (fun h20=>?_) (fun h20=>?_)
   ·refine SQ<|RG<|FA Z tyF_impl_Receiver_2 Z<|LD (i:=0) Z tyP_int Z Z Z<|FA Z tyF_impl_Receiver_3 Z<|LD (i:=0) Z tyP_int Z Z Z<|EQ1 Z Z Z<|MV Z Z<|?_
    refine rw_caseL (j:=109) Z (fun h21=>?_) (fun h21=>?_)
    ·refine ON Z Z Z<|FA Z tyF_impl_Receiver_1 Z<|ON Z Z Z<|FA Z tyF_impl_Buffer_1 Z<|ON Z Z Z<|LD (i:=0) Z tyP_S_impl_Chunk Z Z Z<|ON Z Z Z<|rw_len Z tyE_S_impl_Chunk Z<|ON Z Z Z<|EQ1 Z Z Z<|PT Z Z Z Z<|AS Z Z<|ND<|RT Tryz.func73 Z Z<|?_
     simp [isReceiver,maxQuic,h1,h2,h3,h4,h5,h6,h8,h10,h13,h15,h18,h20,h21]
    refine SKP Z<|PF Z Z Z Z<|AS Z Z<|ND<|RT Tryz.func73 Z Z<|?_
    simp [isReceiver,maxQuic,h1,h2,h3,h4,h5,h6,h8,h10,h13,h15,h18,h20,h21]
   refine SK<|IB<|SQ<|RG<|AS Z Z<|ND<|RT Tryz.func73 Z Z<|?_
   simp [isReceiver,maxQuic,h1,h2,h3,h4,h5,h6,h8,h10,h13,h15,h18,h20]
  refine DSK Z<|dw_nil<|OF Z Z Z Z<|PF Z Z Z Z<|AS Z Z<|ND<|SQ<|SQ<|RG<|FA Z tyF_impl_Receiver_0 Z<|LD (i:=0) Z tyP_int Z Z Z<|ND<|BK<|SQ<|RG<|EQ1 Z Z Z<|AS Z Z<|ND<|?_
  refine gw_cond Z (fun h22=>?_) (fun h22=>?_)
  ·refine SQ<|RG<|FA Z tyF_impl_Receiver_2 Z<|LD (i:=0) Z tyP_int Z Z Z<|EQ1 Z Z Z<|MV Z Z<|?_
   refine rw_caseL (j:=59) Z (fun h23=>?_) (fun h23=>?_)
   ·refine ON Z Z Z<|FA Z tyF_impl_Receiver_4 Z<|ON Z Z Z<|LD (i:=0) Z tyP_int Z Z Z<|ON Z Z Z<|EQ1 Z Z Z<|PT Z Z Z Z<|AS Z Z<|ND<|RT Tryz.func73 Z Z<|?_
    simp_all []
   refine SKP Z<|PF Z Z Z Z<|AS Z Z<|ND<|RT Tryz.func73 Z Z<|?_
   simp [isReceiver,maxQuic,h1,h2,h3,h4,h5,h6,h22]
  refine SQ<|RG<|EQ1 Z Z Z<|AS Z Z<|ND<|?_
  refine gw_cond Z (fun h24=>?_) (fun h24=>?_)
  ·refine SQ<|RG<|FA Z tyF_impl_Receiver_2 Z<|LD (i:=0) Z tyP_int Z Z Z<|rw_neq Z Z Z<|MV Z Z<|?_
   refine rw_caseN (j:=69) Z (fun h25=>?_) (fun h25=>?_)
   ·refine ON Z Z Z<|MV Z Z<|ON Z Z Z<|NT Z Z<|PT Z Z Z Z<|MV Z Z<|ON Z Z Z<|FA Z tyF_impl_Receiver_4 Z<|ON Z Z Z<|LD (i:=0) Z tyP_int Z Z Z<|ON Z Z Z<|EQ1 Z Z Z<|PT Z Z Z Z<|AS Z Z<|ND<|RT Tryz.func73 Z Z<|?_
    simp_all []
   refine SKP Z<|PF Z Z Z Z<|MV Z Z<|SKP Z<|PF Z Z Z Z<|AS Z Z<|ND<|RT Tryz.func73 Z Z<|?_
   simp_all []
  refine SQ<|RG<|EQ1 Z Z Z<|AS Z Z<|ND<|?_
  refine gw_cond Z (fun h26=>?_) (fun h26=>?_)
  ·refine SQ<|RG<|MV Z Z<|MV Z Z<|SKP Z<|PF Z Z Z Z<|AS Z Z<|ND<|RT Tryz.func73 Z Z<|?_
   simp_all []
  refine SQ<|RG<|EQ1 Z Z Z<|AS Z Z<|ND<|?_
  refine gw_cond Z (fun h27=>?_) (fun h27=>?_)
  ·refine SQ<|RG<|MV Z Z<|MV Z Z<|SKP Z<|PF Z Z Z Z<|MV Z Z<|SKP Z<|PF Z Z Z Z<|AS Z Z<|ND<|RT Tryz.func73 Z Z<|?_
   simp_all []
  refine SQ<|SQ<|RG<|EQ1 Z Z Z<|AS Z Z<|ND<|?_
  refine gw_cond Z (fun h28=>?_) (fun h28=>?_)
  ·refine SK<|CT Z h28<|SQ<|RG<|FA Z tyF_impl_Receiver_2 Z<|LD (i:=0) Z tyP_int Z Z Z<|FA Z tyF_impl_Receiver_3 Z<|LD (i:=0) Z tyP_int Z Z Z<|EQ1 Z Z Z<|MV Z Z<|?_
   refine rw_caseL (j:=109) Z (fun h29=>?_) (fun h29=>?_)
   ·refine ON Z Z Z<|FA Z tyF_impl_Receiver_1 Z<|ON Z Z Z<|FA Z tyF_impl_Buffer_1 Z<|ON Z Z Z<|LD (i:=0) Z tyP_S_impl_Chunk Z Z Z<|ON Z Z Z<|rw_len Z tyE_S_impl_Chunk Z<|ON Z Z Z<|EQ1 Z Z Z<|PT Z Z Z Z<|AS Z Z<|ND<|RT Tryz.func73 Z Z<|?_
    simp [isReceiver,maxQuic,h1,h2,h3,h4,h5,h6,h22,h24,h26,h27,h28,h29]
   refine SKP Z<|PF Z Z Z Z<|AS Z Z<|ND<|RT Tryz.func73 Z Z<|?_
   simp [isReceiver,maxQuic,h1,h2,h3,h4,h5,h6,h22,h24,h26,h27,h28,h29]
  refine RG<|EQ1 Z Z Z<|AS Z Z<|ND<|?_
  refine gw_cond Z (fun h30=>?_) (fun h30=>?_)
  ·refine SQ<|RG<|FA Z tyF_impl_Receiver_2 Z<|LD (i:=0) Z tyP_int Z Z Z<|FA Z tyF_impl_Receiver_3 Z<|LD (i:=0) Z tyP_int Z Z Z<|EQ1 Z Z Z<|MV Z Z<|?_
   refine rw_caseL (j:=109) Z (fun h31=>?_) (fun h31=>?_)
   ·refine ON Z Z Z<|FA Z tyF_impl_Receiver_1 Z<|ON Z Z Z<|FA Z tyF_impl_Buffer_1 Z<|ON Z Z Z<|LD (i:=0) Z tyP_S_impl_Chunk Z Z Z<|ON Z Z Z<|rw_len Z tyE_S_impl_Chunk Z<|ON Z Z Z<|EQ1 Z Z Z<|PT Z Z Z Z<|AS Z Z<|ND<|RT Tryz.func73 Z Z<|?_
    simp [isReceiver,maxQuic,h1,h2,h3,h4,h5,h6,h22,h24,h26,h27,h28,h30,h31]
   refine SKP Z<|PF Z Z Z Z<|AS Z Z<|ND<|RT Tryz.func73 Z Z<|?_
   simp [isReceiver,maxQuic,h1,h2,h3,h4,h5,h6,h22,h24,h26,h27,h28,h30,h31]
  refine SK<|IB<|SQ<|RG<|AS Z Z<|ND<|RT Tryz.func73 Z Z<|?_
  simp [isReceiver,maxQuic,h1,h2,h3,h4,h5,h6,h22,h24,h26,h27,h28,h30]
 refine DSK Z<|dw_nil<|SKP Z<|ON Z Z Z<|PF Z Z Z Z<|PF Z Z Z Z<|ND<|CF Z Z<|SK<|SQ<|gw_draw' [dd 0,dd 1,dd 2,dd 3,dd 4,dd 5,dd 6,dd 7,dd 8] [9,10,11] mixed Z (FD Z) (ts:=[_,_,_]) Z<|DT Z Z (fun _ q=>FA Z tyF_impl_Receiver_2 Z q)<|DT Z Z (fun _ q=>LD (i:=0) Z tyP_int Z Z Z q)<|DT Z Z (fun _ q=>rw_neq Z Z Z q)<|DM Z Z Z<|?_
 refine dw_caseN (j:=44) Z (fun h32=>?_) (fun h32=>?_)
 ·refine DT Z Z (fun _ q=>ON Z Z Z (FA Z tyF_impl_Receiver_1 Z q))<|DT Z Z (fun _ q=>ON Z Z Z (LS (i:=0) [_,_] Z tyS_impl_Buffer Z Z Z Z q))<|DT Z Z (fun _ q=>ON Z Z Z (CV1 Z fun_impl_readyEnd Z (fun w hs=>impl_readyEnd ⟨_,Z,(hA0.s Pl.keeps hs)⟩ ⟨hb0,hb1⟩) q))<|DT Z Z (fun _ q=>ON Z Z Z (FA Z tyF_impl_Receiver_2 Z q))<|DT Z Z (fun _ q=>ON Z Z Z (LD (i:=0) Z tyP_int Z Z Z q))<|?_
  refine dw_nil<|ON Z Z Z<|EQ1 Z Z Z<|PT Z Z Z Z<|AS Z Z<|ND<|SQ<|SQ<|RG<|FA Z tyF_impl_Receiver_0 Z<|LD (i:=0) Z tyP_int Z Z Z<|ND<|BK<|SQ<|RG<|EQ1 Z Z Z<|AS Z Z<|ND<|?_
  refine gw_cond Z (fun h33=>?_) (fun h33=>?_)
  ·refine SQ<|RG<|FA Z tyF_impl_Receiver_2 Z<|LD (i:=0) Z tyP_int Z Z Z<|EQ1 Z Z Z<|MV Z Z<|?_
   refine rw_caseL (j:=59) Z (fun h34=>?_) (fun h34=>?_)
   ·refine ON Z Z Z<|FA Z tyF_impl_Receiver_4 Z<|ON Z Z Z<|LD (i:=0) Z tyP_int Z Z Z<|ON Z Z Z<|EQ1 Z Z Z<|PT Z Z Z Z<|AS Z Z<|ND<|RT Tryz.func73 Z Z<|?_
    simp [isReceiver,maxQuic,h1,h2,h3,h4,h5,h33]
   refine SKP Z<|PF Z Z Z Z<|AS Z Z<|ND<|RT Tryz.func73 Z Z<|?_
   simp_all []
  refine SQ<|RG<|EQ1 Z Z Z<|AS Z Z<|ND<|?_
  refine gw_cond Z (fun h35=>?_) (fun h35=>?_)
  ·refine SQ<|RG<|FA Z tyF_impl_Receiver_2 Z<|LD (i:=0) Z tyP_int Z Z Z<|rw_neq Z Z Z<|MV Z Z<|?_
   refine rw_caseN (j:=69) Z (fun h36=>?_) (fun h36=>?_)
   ·refine ON Z Z Z<|MV Z Z<|ON Z Z Z<|NT Z Z<|PT Z Z Z Z<|MV Z Z<|?_
    refine rw_caseN (j:=73) Z (fun h37=>?_) (fun h37=>?_)
    ·refine ON Z Z Z<|FA Z tyF_impl_Receiver_4 Z<|ON Z Z Z<|LD (i:=0) Z tyP_int Z Z Z<|ON Z Z Z<|EQ1 Z Z Z<|PT Z Z Z Z<|AS Z Z<|ND<|RT Tryz.func73 Z Z<|?_
     simp_all []
    refine SKP Z<|PF Z Z Z Z<|AS Z Z<|ND<|RT Tryz.func73 Z Z<|?_
    simp [isReceiver,maxQuic,h1,h2,h3,h4,h5,h33,h35,h37]
   refine SKP Z<|PF Z Z Z Z<|MV Z Z<|SKP Z<|PF Z Z Z Z<|AS Z Z<|ND<|RT Tryz.func73 Z Z<|?_
   simp [isReceiver,maxQuic,h1,h2,h3,h4,h5,h33,h35]
  refine SQ<|RG<|EQ1 Z Z Z<|AS Z Z<|ND<|?_
  refine gw_cond Z (fun h38=>?_) (fun h38=>?_)
  ·refine SQ<|RG<|MV Z Z<|MV Z Z<|?_
   refine rw_caseL (j:=81) Z (fun h39=>?_) (fun h39=>?_)
   ·refine ON Z Z Z<|FA Z tyF_impl_Receiver_4 Z<|ON Z Z Z<|LD (i:=0) Z tyP_int Z Z Z<|ON Z Z Z<|EQ1 Z Z Z<|PT Z Z Z Z<|AS Z Z<|ND<|RT Tryz.func73 Z Z<|?_
    simp_all []
   refine SKP Z<|PF Z Z Z Z<|AS Z Z<|ND<|RT Tryz.func73 Z Z<|?_
   simp [isReceiver,maxQuic,h1,h2,h3,h4,h5,h33,h35,h38,h39]
  refine SQ<|RG<|EQ1 Z Z Z<|AS Z Z<|ND<|?_
  refine gw_cond Z (fun h40=>?_) (fun h40=>?_)
  ·refine SQ<|RG<|MV Z Z<|MV Z Z<|?_
   refine rw_caseL (j:=89) Z (fun h41=>?_) (fun h41=>?_)
   ·refine ON Z Z Z<|FA Z tyF_impl_Receiver_4 Z<|ON Z Z Z<|LD (i:=0) Z tyP_int Z Z Z<|ON Z Z Z<|EQ1 Z Z Z<|PT Z Z Z Z<|MV Z Z<|?_
    refine rw_caseL (j:=94) Z (fun h42=>?_) (fun h42=>?_)
    ·refine ON Z Z Z<|FA Z tyF_impl_Receiver_1 Z<|ON Z Z Z<|FA Z tyF_impl_Buffer_1 Z<|ON Z Z Z<|LD (i:=0) Z tyP_S_impl_Chunk Z Z Z<|ON Z Z Z<|rw_len Z tyE_S_impl_Chunk Z<|ON Z Z Z<|EQ1 Z Z Z<|PT Z Z Z Z<|AS Z Z<|ND<|RT Tryz.func73 Z Z<|?_
     simp_all []
    refine SKP Z<|PF Z Z Z Z<|AS Z Z<|ND<|RT Tryz.func73 Z Z<|?_
    simp [isReceiver,maxQuic,h1,h2,h3,h4,h5,h33,h35,h38,h40,h41,h42]
   refine SKP Z<|PF Z Z Z Z<|MV Z Z<|SKP Z<|PF Z Z Z Z<|AS Z Z<|ND<|RT Tryz.func73 Z Z<|?_
   simp [isReceiver,maxQuic,h1,h2,h3,h4,h5,h33,h35,h38,h40,h41]
  refine SQ<|SQ<|RG<|EQ1 Z Z Z<|AS Z Z<|ND<|?_
  refine gw_cond Z (fun h43=>?_) (fun h43=>?_)
  ·refine SK<|CT Z h43<|SQ<|RG<|FA Z tyF_impl_Receiver_2 Z<|LD (i:=0) Z tyP_int Z Z Z<|FA Z tyF_impl_Receiver_3 Z<|LD (i:=0) Z tyP_int Z Z Z<|EQ1 Z Z Z<|MV Z Z<|?_
   refine rw_caseL (j:=109) Z (fun h44=>?_) (fun h44=>?_)
   ·refine ON Z Z Z<|FA Z tyF_impl_Receiver_1 Z<|ON Z Z Z<|FA Z tyF_impl_Buffer_1 Z<|ON Z Z Z<|LD (i:=0) Z tyP_S_impl_Chunk Z Z Z<|ON Z Z Z<|rw_len Z tyE_S_impl_Chunk Z<|ON Z Z Z<|EQ1 Z Z Z<|PT Z Z Z Z<|AS Z Z<|ND<|RT Tryz.func73 Z Z<|?_
    simp [isReceiver,maxQuic,h1,h2,h3,h4,h5,h33,h35,h38,h40,h43,h44]
   refine SKP Z<|PF Z Z Z Z<|AS Z Z<|ND<|RT Tryz.func73 Z Z<|?_
   simp [isReceiver,maxQuic,h1,h2,h3,h4,h5,h33,h35,h38,h40,h43,h44]
  refine RG<|EQ1 Z Z Z<|AS Z Z<|ND<|?_
  refine gw_cond Z (fun h45=>?_) (fun h45=>?_)
  ·refine SQ<|RG<|FA Z tyF_impl_Receiver_2 Z<|LD (i:=0) Z tyP_int Z Z Z<|FA Z tyF_impl_Receiver_3 Z<|LD (i:=0) Z tyP_int Z Z Z<|EQ1 Z Z Z<|MV Z Z<|?_
   refine rw_caseL (j:=109) Z (fun h46=>?_) (fun h46=>?_)
   ·refine ON Z Z Z<|FA Z tyF_impl_Receiver_1 Z<|ON Z Z Z<|FA Z tyF_impl_Buffer_1 Z<|ON Z Z Z<|LD (i:=0) Z tyP_S_impl_Chunk Z Z Z<|ON Z Z Z<|rw_len Z tyE_S_impl_Chunk Z<|ON Z Z Z<|EQ1 Z Z Z<|PT Z Z Z Z<|AS Z Z<|ND<|RT Tryz.func73 Z Z<|?_
    simp [isReceiver,maxQuic,h1,h2,h3,h4,h5,h33,h35,h38,h40,h43,h45,h46]
   refine SKP Z<|PF Z Z Z Z<|AS Z Z<|ND<|RT Tryz.func73 Z Z<|?_
   simp [isReceiver,maxQuic,h1,h2,h3,h4,h5,h33,h35,h38,h40,h43,h45,h46]
  refine SK<|IB<|SQ<|RG<|AS Z Z<|ND<|RT Tryz.func73 Z Z<|?_
  simp [isReceiver,maxQuic,h1,h2,h3,h4,h5,h33,h35,h38,h40,h43,h45]
 refine DSK Z<|dw_nil<|OF Z Z Z Z<|PF Z Z Z Z<|AS Z Z<|ND<|SQ<|SQ<|RG<|FA Z tyF_impl_Receiver_0 Z<|LD (i:=0) Z tyP_int Z Z Z<|ND<|BK<|SQ<|RG<|EQ1 Z Z Z<|AS Z Z<|ND<|?_
 refine gw_cond Z (fun h47=>?_) (fun h47=>?_)
 ·refine SQ<|RG<|FA Z tyF_impl_Receiver_2 Z<|LD (i:=0) Z tyP_int Z Z Z<|EQ1 Z Z Z<|MV Z Z<|?_
  refine rw_caseL (j:=59) Z (fun h48=>?_) (fun h48=>?_)
  ·refine ON Z Z Z<|FA Z tyF_impl_Receiver_4 Z<|ON Z Z Z<|LD (i:=0) Z tyP_int Z Z Z<|ON Z Z Z<|EQ1 Z Z Z<|PT Z Z Z Z<|AS Z Z<|ND<|RT Tryz.func73 Z Z<|?_
   simp [isReceiver,maxQuic,h1,h2,h3,h4,h5,h47]
  refine SKP Z<|PF Z Z Z Z<|AS Z Z<|ND<|RT Tryz.func73 Z Z<|?_
  simp_all []
 refine SQ<|RG<|EQ1 Z Z Z<|AS Z Z<|ND<|?_
 refine gw_cond Z (fun h49=>?_) (fun h49=>?_)
 ·refine SQ<|RG<|FA Z tyF_impl_Receiver_2 Z<|LD (i:=0) Z tyP_int Z Z Z<|rw_neq Z Z Z<|MV Z Z<|?_
  refine rw_caseN (j:=69) Z (fun h50=>?_) (fun h50=>?_)
  ·refine ON Z Z Z<|MV Z Z<|ON Z Z Z<|NT Z Z<|PT Z Z Z Z<|MV Z Z<|ON Z Z Z<|FA Z tyF_impl_Receiver_4 Z<|ON Z Z Z<|LD (i:=0) Z tyP_int Z Z Z<|ON Z Z Z<|EQ1 Z Z Z<|PT Z Z Z Z<|AS Z Z<|ND<|RT Tryz.func73 Z Z<|?_
   simp_all []
  refine SKP Z<|PF Z Z Z Z<|MV Z Z<|SKP Z<|PF Z Z Z Z<|AS Z Z<|ND<|RT Tryz.func73 Z Z<|?_
  simp [isReceiver,maxQuic,h1,h2,h3,h4,h5,h47,h49]
 refine SQ<|RG<|EQ1 Z Z Z<|AS Z Z<|ND<|?_
 refine gw_cond Z (fun h51=>?_) (fun h51=>?_)
 ·refine SQ<|RG<|MV Z Z<|MV Z Z<|SKP Z<|PF Z Z Z Z<|AS Z Z<|ND<|RT Tryz.func73 Z Z<|?_
  simp [isReceiver,maxQuic,h1,h2,h3,h4,h5,h47,h49,h51]
 refine SQ<|RG<|EQ1 Z Z Z<|AS Z Z<|ND<|?_
 refine gw_cond Z (fun h52=>?_) (fun h52=>?_)
 ·refine SQ<|RG<|MV Z Z<|MV Z Z<|SKP Z<|PF Z Z Z Z<|MV Z Z<|SKP Z<|PF Z Z Z Z<|AS Z Z<|ND<|RT Tryz.func73 Z Z<|?_
  simp [isReceiver,maxQuic,h1,h2,h3,h4,h5,h47,h49,h51,h52]
 refine SQ<|SQ<|RG<|EQ1 Z Z Z<|AS Z Z<|ND<|?_
 refine gw_cond Z (fun h53=>?_) (fun h53=>?_)
 ·refine SK<|CT Z h53<|SQ<|RG<|FA Z tyF_impl_Receiver_2 Z<|LD (i:=0) Z tyP_int Z Z Z<|FA Z tyF_impl_Receiver_3 Z<|LD (i:=0) Z tyP_int Z Z Z<|EQ1 Z Z Z<|MV Z Z<|?_
  refine rw_caseL (j:=109) Z (fun h54=>?_) (fun h54=>?_)
  ·refine ON Z Z Z<|FA Z tyF_impl_Receiver_1 Z<|ON Z Z Z<|FA Z tyF_impl_Buffer_1 Z<|ON Z Z Z<|LD (i:=0) Z tyP_S_impl_Chunk Z Z Z<|ON Z Z Z<|rw_len Z tyE_S_impl_Chunk Z<|ON Z Z Z<|EQ1 Z Z Z<|PT Z Z Z Z<|AS Z Z<|ND<|RT Tryz.func73 Z Z<|?_
   simp [isReceiver,maxQuic,h1,h2,h3,h4,h5,h47,h49,h51,h52,h53,h54]
  refine SKP Z<|PF Z Z Z Z<|AS Z Z<|ND<|RT Tryz.func73 Z Z<|?_
  simp [isReceiver,maxQuic,h1,h2,h3,h4,h5,h47,h49,h51,h52,h53,h54]
 refine RG<|EQ1 Z Z Z<|AS Z Z<|ND<|?_
 refine gw_cond Z (fun h55=>?_) (fun h55=>?_)
 ·refine SQ<|RG<|FA Z tyF_impl_Receiver_2 Z<|LD (i:=0) Z tyP_int Z Z Z<|FA Z tyF_impl_Receiver_3 Z<|LD (i:=0) Z tyP_int Z Z Z<|EQ1 Z Z Z<|MV Z Z<|?_
  refine rw_caseL (j:=109) Z (fun h56=>?_) (fun h56=>?_)
  ·refine ON Z Z Z<|FA Z tyF_impl_Receiver_1 Z<|ON Z Z Z<|FA Z tyF_impl_Buffer_1 Z<|ON Z Z Z<|LD (i:=0) Z tyP_S_impl_Chunk Z Z Z<|ON Z Z Z<|rw_len Z tyE_S_impl_Chunk Z<|ON Z Z Z<|EQ1 Z Z Z<|PT Z Z Z Z<|AS Z Z<|ND<|RT Tryz.func73 Z Z<|?_
   simp [isReceiver,maxQuic,h1,h2,h3,h4,h5,h47,h49,h51,h52,h53,h55,h56]
  refine SKP Z<|PF Z Z Z Z<|AS Z Z<|ND<|RT Tryz.func73 Z Z<|?_
  simp [isReceiver,maxQuic,h1,h2,h3,h4,h5,h47,h49,h51,h52,h53,h55,h56]
 refine SK<|IB<|SQ<|RG<|AS Z Z<|ND<|RT Tryz.func73 Z Z<|?_
 simp [isReceiver,maxQuic,h1,h2,h3,h4,h5,h47,h49,h51,h52,h53,h55]
set_option maxRecDepth 20000 in
theorem impl_IsWindow (p : Window) (w : World) : CV Tryz.prog 74 [.agg p.cells.toArray] w (.bool (isWindow p)) := by
 refine cv_of Tryz.func74 Z Z Z<|SQ<|RG<|BX [_,_,_,_,_,_] Z Z Z<|fun b1=>AS Z Z<|ND<|SQ<|RG<|FA Z tyF_impl_Window_1 Z<|LD (i:=0) Z tyP_int Z Z Z<|CV1 Z fun_impl_within Z (fun w hs=>impl_within _ _ _ w)<|MV Z Z<|?_
 refine rw_caseL (j:=6) Z (fun h1=>?_) (fun h1=>?_)
 ·refine ON Z Z Z<|FA Z tyF_impl_Window_0 Z<|ON Z Z Z<|LD (i:=0) Z tyP_int Z Z Z<|ON Z Z Z<|FA Z tyF_impl_Window_1 Z<|ON Z Z Z<|LD (i:=0) Z tyP_int Z Z Z<|ON Z Z Z<|CV1 Z fun_impl_within Z (fun w hs=>impl_within _ _ _ w)<|PT Z Z Z Z<|MV Z Z<|?_
  refine rw_caseL (j:=13) Z (fun h2=>?_) (fun h2=>?_)
  ·refine ON Z Z Z<|FA Z tyF_impl_Window_2 Z<|ON Z Z Z<|LD (i:=0) Z tyP_int Z Z Z<|ON Z Z Z<|CV1 Z fun_impl_within Z (fun w hs=>impl_within _ _ _ w)<|PT Z Z Z Z<|MV Z Z<|?_
   refine rw_caseL (j:=18) Z (fun h3=>?_) (fun h3=>?_)
   ·refine ON Z Z Z<|FA Z tyF_impl_Window_3 Z<|ON Z Z Z<|LD (i:=0) Z tyP_int Z Z Z<|ON Z Z Z<|FA Z tyF_impl_Window_2 Z<|ON Z Z Z<|LD (i:=0) Z tyP_int Z Z Z<|ON Z Z Z<|CV1 Z fun_impl_within Z (fun w hs=>impl_within _ _ _ w)<|PT Z Z Z Z<|MV Z Z<|?_
    refine rw_caseL (j:=25) Z (fun h4=>?_) (fun h4=>?_)
    ·refine ON Z Z Z<|FA Z tyF_impl_Window_4 Z<|ON Z Z Z<|LD (i:=0) Z tyP_int Z Z Z<|ON Z Z Z<|FA Z tyF_impl_Window_3 Z<|ON Z Z Z<|LD (i:=0) Z tyP_int Z Z Z<|ON Z Z Z<|CV1 Z fun_impl_within Z (fun w hs=>impl_within _ _ _ w)<|PT Z Z Z Z<|MV Z Z<|?_
     refine rw_caseL (j:=32) Z (fun h5=>?_) (fun h5=>?_)
     ·refine ON Z Z Z<|FA Z tyF_impl_Window_2 Z<|ON Z Z Z<|LD (i:=0) Z tyP_int Z Z Z<|ON Z Z Z<|FA Z tyF_impl_Window_4 Z<|ON Z Z Z<|LD (i:=0) Z tyP_int Z Z Z<|ON Z Z Z<|FA Z tyF_impl_Window_0 Z<|ON Z Z Z<|LD (i:=0) Z tyP_int Z Z Z<|ON Z Z Z<|rw_add Z Z Z<|ON Z Z Z<|rw_leq Z Z Z<|PT Z Z Z Z<|MV Z Z<|?_
      refine rw_caseL (j:=42) Z (fun h6=>?_) (fun h6=>?_)
      ·refine ON Z Z Z<|FA Z tyF_impl_Window_5 Z<|ON Z Z Z<|LD (i:=0) Z tyP_int Z Z Z<|ON Z Z Z<|CV1 Z fun_impl_within Z (fun w hs=>impl_within _ _ _ w)<|PT Z Z Z Z<|AS Z Z<|ND<|RT Tryz.func74 Z Z<|?_
       simp [isWindow,maxQuic,h1,h2,h3,h4,h5,h6]
      refine SKP Z<|PF Z Z Z Z<|AS Z Z<|ND<|RT Tryz.func74 Z Z<|?_
      simp [isWindow,maxQuic,h1,h2,h3,h4,h5,h6]
     refine SKP Z<|PF Z Z Z Z<|MV Z Z<|SKP Z<|PF Z Z Z Z<|AS Z Z<|ND<|RT Tryz.func74 Z Z<|?_
     simp [isWindow,maxQuic,h1,h2,h3,h4,h5]
    refine SKP Z<|PF Z Z Z Z<|MV Z Z<|SKP Z<|PF Z Z Z Z<|MV Z Z<|SKP Z<|PF Z Z Z Z<|AS Z Z<|ND<|RT Tryz.func74 Z Z<|?_
    simp [isWindow,maxQuic,h1,h2,h3,h4]
   refine SKP Z<|PF Z Z Z Z<|MV Z Z<|SKP Z<|PF Z Z Z Z<|MV Z Z<|SKP Z<|PF Z Z Z Z<|MV Z Z<|SKP Z<|PF Z Z Z Z<|AS Z Z<|ND<|RT Tryz.func74 Z Z<|?_
   simp [isWindow,maxQuic,h1,h2,h3]
  refine SKP Z<|PF Z Z Z Z<|MV Z Z<|SKP Z<|PF Z Z Z Z<|MV Z Z<|SKP Z<|PF Z Z Z Z<|MV Z Z<|SKP Z<|PF Z Z Z Z<|MV Z Z<|SKP Z<|PF Z Z Z Z<|AS Z Z<|ND<|RT Tryz.func74 Z Z<|?_
  simp [isWindow,maxQuic,h1,h2]
 refine SKP Z<|PF Z Z Z Z<|MV Z Z<|SKP Z<|PF Z Z Z Z<|MV Z Z<|SKP Z<|PF Z Z Z Z<|MV Z Z<|SKP Z<|PF Z Z Z Z<|MV Z Z<|SKP Z<|PF Z Z Z Z<|MV Z Z<|SKP Z<|PF Z Z Z Z<|AS Z Z<|ND<|RT Tryz.func74 Z Z<|?_
 simp [isWindow,maxQuic,h1]
theorem impl_IsPriority (p : Priority) (w : World) : CV Tryz.prog 75 [.agg p.cells.toArray] w (.bool (isPriority p)) := by
 refine cv_of Tryz.func75 Z Z Z<|SQ<|RG<|BX [_,_] Z Z Z<|fun b1=>AS Z Z<|ND<|SQ<|RG<|FA Z tyF_impl_Priority_0 Z<|LD (i:=0) Z tyP_int Z Z Z<|CV1 Z fun_impl_within Z (fun w hs=>impl_within _ _ _ w)<|AS Z Z<|ND<|RT Tryz.func75 Z Z<|?_
 simp only [isPriority] <;> rfl
set_option maxHeartbeats 2000000 in
set_option maxRecDepth 20000 in
theorem impl_IsStream {w : World} {cs : List Value} {x : Stream} (hv : RdStream w cs x) (hb : x.le 1048576) : CV Tryz.prog 10 [.agg cs.toArray] w (.bool (isStream x)) := by
 obtain ⟨v0,v1,v2,v3,v4,rfl,k0,k1,k2,k3,k4⟩:=hv
 obtain ⟨A0,c0,rfl,hA0⟩:=k0
 obtain ⟨A1,c1,rfl,hA1⟩:=k1
 obtain ⟨A2,c2,rfl,hA2⟩:=k2
 obtain ⟨A3,c3,rfl,hA3⟩:=k3
 obtain ⟨A4,c4,rfl,hA4⟩:=k4
 obtain ⟨hb0,hb1,hb2,hb3,hb4,hb5⟩:=hb
 refine cv_of Tryz.func10 Z Z Z<|SQ<|RG<|BX [_,_,_,_,_,_,_,_,_,_,_,_,_,_,_,_,_,_,_,_,_,_,_,_,_,_,_,_,_,_,_,_,_,_,_,_,_,_,_] Z Z Z<|fun b1=>AS Z Z<|ND<|SQ<|BK<|SQ<|RG<|FA Z tyF_impl_Stream_0 Z<|LD (i:=0) Z tyP_int Z Z Z<|CV1 Z fun_impl_isQuic Z (fun w hs=>impl_isQuic _ w)<|NT Z Z<|MV Z Z<|?_
 refine rw_caseN (j:=8) Z (fun h1=>?_) (fun h1=>?_)
 ·refine SKP Z<|PT Z Z Z Z<|MV Z Z<|SKP Z<|PT Z Z Z Z<|MV Z Z<|SKP Z<|PT Z Z Z Z<|MV Z Z<|SKP Z<|PT Z Z Z Z<|MV Z Z<|SKP Z<|PT Z Z Z Z<|MV Z Z<|SKP Z<|PT Z Z Z Z<|AS Z Z<|ND<|CT Z Z<|SQ<|RG<|AS Z Z<|ND<|RT Tryz.func10 Z Z<|?_
  simp [isStream,isStreamW,h1]
 refine ON Z Z Z<|FA Z tyF_impl_Stream_12 Z<|ON Z Z Z<|LD (i:=0) Z tyP_int Z Z Z<|ON Z Z Z<|CV1 Z fun_impl_isQuic Z (fun w hs=>impl_isQuic _ w)<|ON Z Z Z<|NT Z Z<|PF Z Z Z Z<|MV Z Z<|?_
 refine rw_caseN (j:=14) Z (fun h2=>?_) (fun h2=>?_)
 ·refine SKP Z<|PT Z Z Z Z<|MV Z Z<|SKP Z<|PT Z Z Z Z<|MV Z Z<|SKP Z<|PT Z Z Z Z<|MV Z Z<|SKP Z<|PT Z Z Z Z<|MV Z Z<|SKP Z<|PT Z Z Z Z<|AS Z Z<|ND<|CT Z Z<|SQ<|RG<|AS Z Z<|ND<|RT Tryz.func10 Z Z<|?_
  simp [isStream,isStreamW,h1,h2]
 refine ON Z Z Z<|FA Z tyF_impl_Stream_1 Z<|ON Z Z Z<|LS (i:=0) [_,_,_,_,_,_,_,_,_,_,_,_] Z tyS_impl_Sender Z Z Z Z<|ON Z Z Z<|CV1 Z fun_impl_IsSender Z (fun w hs=>impl_IsSender ⟨_,_,_,_,Z,(hA0.s Pl.keeps hs),(hA1.s Pl.keeps hs),(hA2.s Pl.keeps hs),(hA3.s Pl.keeps hs)⟩ ⟨hb0,hb1,hb2,hb3⟩)<|ON Z Z Z<|NT Z Z<|PF Z Z Z Z<|MV Z Z<|?_
 refine rw_caseN (j:=20) Z (fun h3=>?_) (fun h3=>?_)
 ·refine SKP Z<|PT Z Z Z Z<|MV Z Z<|SKP Z<|PT Z Z Z Z<|MV Z Z<|SKP Z<|PT Z Z Z Z<|MV Z Z<|SKP Z<|PT Z Z Z Z<|AS Z Z<|ND<|CT Z Z<|SQ<|RG<|AS Z Z<|ND<|RT Tryz.func10 Z Z<|?_
  simp [isStream,isStreamW,h1,h2,h3]
 refine ON Z Z Z<|FA Z tyF_impl_Stream_2 Z<|ON Z Z Z<|LS (i:=0) [_,_,_,_] Z tyS_impl_Credit Z Z Z Z<|ON Z Z Z<|CV1 Z fun_impl_IsCredit Z (fun w hs=>impl_IsCredit _ w)<|ON Z Z Z<|NT Z Z<|PF Z Z Z Z<|MV Z Z<|?_
 refine rw_caseN (j:=26) Z (fun h4=>?_) (fun h4=>?_)
 ·refine SKP Z<|PT Z Z Z Z<|MV Z Z<|SKP Z<|PT Z Z Z Z<|MV Z Z<|SKP Z<|PT Z Z Z Z<|AS Z Z<|ND<|CT Z Z<|SQ<|RG<|AS Z Z<|ND<|RT Tryz.func10 Z Z<|?_
  simp [isStream,isStreamW,h1,h2,h3,h4]
 refine ON Z Z Z<|FA Z tyF_impl_Stream_3 Z<|ON Z Z Z<|LS (i:=0) [_,_,_,_,_,_] Z tyS_impl_Receiver Z Z Z Z<|ON Z Z Z<|CV1 Z fun_impl_IsReceiver Z (fun w hs=>impl_IsReceiver ⟨_,Z,(hA4.s Pl.keeps hs)⟩ ⟨hb4,hb5⟩)<|ON Z Z Z<|NT Z Z<|PF Z Z Z Z<|MV Z Z<|?_
 refine rw_caseN (j:=32) Z (fun h5=>?_) (fun h5=>?_)
 ·refine SKP Z<|PT Z Z Z Z<|MV Z Z<|SKP Z<|PT Z Z Z Z<|AS Z Z<|ND<|CT Z Z<|SQ<|RG<|AS Z Z<|ND<|RT Tryz.func10 Z Z<|?_
  simp [isStream,isStreamW,h1,h2,h3,h4,h5]
 refine ON Z Z Z<|FA Z tyF_impl_Stream_4 Z<|ON Z Z Z<|LS (i:=0) [_,_,_,_,_,_] Z tyS_impl_Window Z Z Z Z<|ON Z Z Z<|CV1 Z fun_impl_IsWindow Z (fun w hs=>impl_IsWindow _ w)<|ON Z Z Z<|NT Z Z<|PF Z Z Z Z<|MV Z Z<|?_
 refine rw_caseN (j:=38) Z (fun h6=>?_) (fun h6=>?_)
 ·refine SKP Z<|PT Z Z Z Z<|AS Z Z<|ND<|CT Z Z<|SQ<|RG<|AS Z Z<|ND<|RT Tryz.func10 Z Z<|?_
  simp [isStream,isStreamW,h1,h2,h3,h4,h5,h6]
 refine ON Z Z Z<|FA Z tyF_impl_Stream_5 Z<|ON Z Z Z<|LS (i:=0) [_,_] Z tyS_impl_Priority Z Z Z Z<|ON Z Z Z<|CV1 Z fun_impl_IsPriority Z (fun w hs=>impl_IsPriority _ w)<|ON Z Z Z<|NT Z Z<|PF Z Z Z Z<|AS Z Z<|ND<|?_
 refine gw_condN Z (fun h7=>?_) (fun h7=>?_)
 ·refine SQ<|RG<|AS Z Z<|ND<|RT Tryz.func10 Z Z<|?_
  simp [isStream,isStreamW,h1,h2,h3,h4,h5,h6,h7]
 refine SQ<|RG<|FA Z tyF_impl_Stream_6 Z<|LD (i:=0) Z tyP_bool Z Z Z<|NT Z Z<|MV Z Z<|?_
 refine rw_caseN (j:=48) Z (fun h8=>?_) (fun h8=>?_)
 ·refine ON Z Z Z<|FA Z tyF_impl_Stream_7 Z<|ON Z Z Z<|LD (i:=0) Z tyP_bool Z Z Z<|ON Z Z Z<|NT Z Z<|PT Z Z Z Z<|MV Z Z<|?_
  refine rw_caseN (j:=53) Z (fun h9=>?_) (fun h9=>?_)
  ·refine SKP Z<|PT Z Z Z Z<|MV Z Z<|SKP Z<|PT Z Z Z Z<|AS Z Z<|ND<|CT Z Z<|SQ<|RG<|AS Z Z<|ND<|RT Tryz.func10 Z Z<|?_
   simp [isStream,isStreamW,h1,h2,h3,h4,h5,h6,h7,h8,h9]
  refine ON Z Z Z<|FA Z tyF_impl_Stream_1 Z<|ON Z Z Z<|FA Z tyF_impl_Sender_7 Z<|ON Z Z Z<|LD (i:=0) Z tyP_int Z Z Z<|ON Z Z Z<|FA Z tyF_impl_Stream_2 Z<|ON Z Z Z<|FA Z tyF_impl_Credit_1 Z<|ON Z Z Z<|LD (i:=0) Z tyP_int Z Z Z<|ON Z Z Z<|rw_gtr Z Z Z<|PF Z Z Z Z<|MV Z Z<|?_
  refine rw_caseL (j:=62) Z (fun h10=>?_) (fun h10=>?_)
  ·refine SKP Z<|PT Z Z Z Z<|AS Z Z<|ND<|CT Z Z<|SQ<|RG<|AS Z Z<|ND<|RT Tryz.func10 Z Z<|?_
   simp [isStream,isStreamW,h1,h2,h3,h4,h5,h6,h7,h8,h9,h10]
  refine ON Z Z Z<|FA Z tyF_impl_Stream_3 Z<|ON Z Z Z<|FA Z tyF_impl_Receiver_3 Z<|ON Z Z Z<|LD (i:=0) Z tyP_int Z Z Z<|ON Z Z Z<|FA Z tyF_impl_Stream_4 Z<|ON Z Z Z<|FA Z tyF_impl_Window_3 Z<|ON Z Z Z<|LD (i:=0) Z tyP_int Z Z Z<|ON Z Z Z<|rw_gtr Z Z Z<|PF Z Z Z Z<|AS Z Z<|ND<|?_
  refine gw_cond Z (fun h11=>?_) (fun h11=>?_)
  ·refine SQ<|RG<|AS Z Z<|ND<|RT Tryz.func10 Z Z<|?_
   simp [isStream,isStreamW,h1,h2,h3,h4,h5,h6,h7,h8,h9,h10,h11]
  refine SQ<|RG<|FA Z tyF_impl_Stream_8 Z<|LD (i:=0) Z tyP_bool Z Z Z<|MV Z Z<|?_
  refine rw_caseL (j:=74) Z (fun h12=>?_) (fun h12=>?_)
  ·refine ON Z Z Z<|FA Z tyF_impl_Stream_1 Z<|ON Z Z Z<|FA Z tyF_impl_Sender_0 Z<|ON Z Z Z<|LD (i:=0) Z tyP_int Z Z Z<|ON Z Z Z<|rw_neq Z Z Z<|PT Z Z Z Z<|MV Z Z<|?_
   refine rw_caseN (j:=80) Z (fun h13=>?_) (fun h13=>?_)
   ·refine SKP Z<|PT Z Z Z Z<|MV Z Z<|SKP Z<|PT Z Z Z Z<|AS Z Z<|ND<|CT Z Z<|SQ<|RG<|AS Z Z<|ND<|RT Tryz.func10 Z Z<|?_
    simp [isStream,isStreamW,h1,h2,h3,h4,h5,h6,h7,h8,h9,h10,h11,h12,h13]
   refine ON Z Z Z<|FA Z tyF_impl_Stream_9 Z<|ON Z Z Z<|LD (i:=0) Z tyP_bool Z Z Z<|ON Z Z Z<|MV Z Z<|?_
   refine rw_caseL (j:=83) Z (fun h14=>?_) (fun h14=>?_)
   ·refine ON Z Z Z<|FA Z tyF_impl_Stream_11 Z<|ON Z Z Z<|LD (i:=0) Z tyP_bool Z Z Z<|ON Z Z Z<|NT Z Z<|ON Z Z Z<|PT Z Z Z Z<|PF Z Z Z Z<|MV Z Z<|?_
    refine rw_caseN (j:=89) Z (fun h15=>?_) (fun h15=>?_)
    ·refine SKP Z<|PT Z Z Z Z<|AS Z Z<|ND<|CT Z Z<|SQ<|RG<|AS Z Z<|ND<|RT Tryz.func10 Z Z<|?_
     simp [isStream,isStreamW,h1,h2,h3,h4,h5,h6,h7,h8,h9,h10,h11,h12,h13,h14,h15]
    refine ON Z Z Z<|FA Z tyF_impl_Stream_12 Z<|ON Z Z Z<|LD (i:=0) Z tyP_int Z Z Z<|ON Z Z Z<|rw_neq Z Z Z<|ON Z Z Z<|MV Z Z<|?_
    refine rw_caseN (j:=93) Z (fun h16=>?_) (fun h16=>?_)
    ·refine ON Z Z Z<|FA Z tyF_impl_Stream_11 Z<|ON Z Z Z<|LD (i:=0) Z tyP_bool Z Z Z<|ON Z Z Z<|NT Z Z<|ON Z Z Z<|PT Z Z Z Z<|PF Z Z Z Z<|AS Z Z<|ND<|CF Z (not_T h15)<|SQ<|RG<|FA Z tyF_impl_Stream_6 Z<|LD (i:=0) Z tyP_bool Z Z Z<|NT Z Z<|MV Z Z<|rw_lit (j:=103) Z (not_F h8)<|ON Z Z Z<|FA Z tyF_impl_Stream_1 Z<|?_
     refine ON Z Z Z<|FA Z tyF_impl_Sender_0 Z<|ON Z Z Z<|LD (i:=0) Z tyP_int Z Z Z<|ON Z Z Z<|rw_neq Z Z Z<|ON Z Z Z<|MV Z Z<|?_
     refine rw_caseN (j:=108) Z (fun h17=>?_) (fun h17=>?_)
     ·refine SKP Z<|ON Z Z Z<|PT Z Z Z Z<|ON Z Z Z<|MV Z Z<|SKP Z<|ON Z Z Z<|PT Z Z Z Z<|PT Z Z Z Z<|AS Z Z<|ND<|CT Z Z<|SQ<|RG<|AS Z Z<|ND<|RT Tryz.func10 Z Z<|?_
      simp [isStream,isStreamW,h1,h2,h3,h4,h5,h6,h7,h8,h9,h10,h11,h12,h13,h14,h15,h16,h17]
     refine ON Z Z Z<|FA Z tyF_impl_Stream_1 Z<|ON Z Z Z<|FA Z tyF_impl_Sender_1 Z<|ON Z Z Z<|FA Z tyF_impl_Ring_2 Z<|ON Z Z Z<|LD (i:=0) Z tyP_int Z Z Z<|ON Z Z Z<|rw_neq Z Z Z<|ON Z Z Z<|PF Z Z Z Z<|ON Z Z Z<|MV Z Z<|?_
     refine rw_caseN (j:=115) Z (fun h18=>?_) (fun h18=>?_)
     ·refine SKP Z<|ON Z Z Z<|PT Z Z Z Z<|PT Z Z Z Z<|AS Z Z<|ND<|CT Z Z<|SQ<|RG<|AS Z Z<|ND<|RT Tryz.func10 Z Z<|?_
      simp [isStream,isStreamW,h1,h2,h3,h4,h5,h6,h7,h8,h9,h10,h11,h12,h13,h14,h15,h16,h17,h18]
     refine ON Z Z Z<|FA Z tyF_impl_Stream_1 Z<|ON Z Z Z<|FA Z tyF_impl_Sender_5 Z<|ON Z Z Z<|LD (i:=0) Z tyP_int Z Z Z<|ON Z Z Z<|rw_neq Z Z Z<|ON Z Z Z<|PF Z Z Z Z<|PT Z Z Z Z<|AS Z Z<|ND<|?_
     refine gw_condN Z (fun h19=>?_) (fun h19=>?_)
     ·refine SQ<|RG<|AS Z Z<|ND<|RT Tryz.func10 Z Z<|?_
      simp [isStream,isStreamW,h1,h2,h3,h4,h5,h6,h7,h8,h9,h10,h11,h12,h13,h14,h15,h16,h17,h18,h19]
     refine SK<|IB<|SQ<|RG<|FA Z tyF_impl_Stream_7 Z<|LD (i:=0) Z tyP_bool Z Z Z<|MV Z Z<|rw_lit (j:=124) Z h9<|SKP Z<|PT Z Z Z Z<|AS Z Z<|ND<|RT Tryz.func10 Z Z<|?_
     simp [isStream,isStreamW,h1,h2,h3,h4,h5,h6,h7,h8,h9,h10,h11,h12,h13,h14,h15,h16,h17,h18,h19]
    refine SKP Z<|ON Z Z Z<|PF Z Z Z Z<|PF Z Z Z Z<|AS Z Z<|ND<|CF Z Z<|SQ<|RG<|FA Z tyF_impl_Stream_6 Z<|LD (i:=0) Z tyP_bool Z Z Z<|NT Z Z<|MV Z Z<|rw_lit (j:=103) Z (not_F h8)<|ON Z Z Z<|FA Z tyF_impl_Stream_1 Z<|ON Z Z Z<|FA Z tyF_impl_Sender_0 Z<|ON Z Z Z<|LD (i:=0) Z tyP_int Z Z Z<|ON Z Z Z<|rw_neq Z Z Z<|?_
    refine ON Z Z Z<|MV Z Z<|?_
    refine rw_caseN (j:=108) Z (fun h20=>?_) (fun h20=>?_)
    ·refine SKP Z<|ON Z Z Z<|PT Z Z Z Z<|ON Z Z Z<|MV Z Z<|SKP Z<|ON Z Z Z<|PT Z Z Z Z<|PT Z Z Z Z<|AS Z Z<|ND<|CT Z Z<|SQ<|RG<|AS Z Z<|ND<|RT Tryz.func10 Z Z<|?_
     simp [isStream,isStreamW,h1,h2,h3,h4,h5,h6,h7,h8,h9,h10,h11,h12,h13,h14,h15,h16,h20]
    refine ON Z Z Z<|FA Z tyF_impl_Stream_1 Z<|ON Z Z Z<|FA Z tyF_impl_Sender_1 Z<|ON Z Z Z<|FA Z tyF_impl_Ring_2 Z<|ON Z Z Z<|LD (i:=0) Z tyP_int Z Z Z<|ON Z Z Z<|rw_neq Z Z Z<|ON Z Z Z<|PF Z Z Z Z<|ON Z Z Z<|MV Z Z<|?_
    refine rw_caseN (j:=115) Z (fun h21=>?_) (fun h21=>?_)
    ·refine SKP Z<|ON Z Z Z<|PT Z Z Z Z<|PT Z Z Z Z<|AS Z Z<|ND<|CT Z Z<|SQ<|RG<|AS Z Z<|ND<|RT Tryz.func10 Z Z<|?_
     simp [isStream,isStreamW,h1,h2,h3,h4,h5,h6,h7,h8,h9,h10,h11,h12,h13,h14,h15,h16,h20,h21]
    refine ON Z Z Z<|FA Z tyF_impl_Stream_1 Z<|ON Z Z Z<|FA Z tyF_impl_Sender_5 Z<|ON Z Z Z<|LD (i:=0) Z tyP_int Z Z Z<|ON Z Z Z<|rw_neq Z Z Z<|ON Z Z Z<|PF Z Z Z Z<|PT Z Z Z Z<|AS Z Z<|ND<|?_
    refine gw_condN Z (fun h22=>?_) (fun h22=>?_)
    ·refine SQ<|RG<|AS Z Z<|ND<|RT Tryz.func10 Z Z<|?_
     simp [isStream,isStreamW,h1,h2,h3,h4,h5,h6,h7,h8,h9,h10,h11,h12,h13,h14,h15,h16,h20,h21,h22]
    refine SK<|IB<|SQ<|RG<|FA Z tyF_impl_Stream_7 Z<|LD (i:=0) Z tyP_bool Z Z Z<|MV Z Z<|rw_lit (j:=124) Z h9<|SKP Z<|PT Z Z Z Z<|AS Z Z<|ND<|RT Tryz.func10 Z Z<|?_
    simp [isStream,isStreamW,h1,h2,h3,h4,h5,h6,h7,h8,h9,h10,h11,h12,h13,h14,h15,h16,h20,h21,h22]
   refine SKP Z<|ON Z Z Z<|PF Z Z Z Z<|PF Z Z Z Z<|MV Z Z<|ON Z Z Z<|FA Z tyF_impl_Stream_12 Z<|ON Z Z Z<|LD (i:=0) Z tyP_int Z Z Z<|ON Z Z Z<|rw_neq Z Z Z<|ON Z Z Z<|MV Z Z<|?_
   refine rw_caseN (j:=93) Z (fun h23=>?_) (fun h23=>?_)
   ·refine ON Z Z Z<|FA Z tyF_impl_Stream_11 Z<|ON Z Z Z<|LD (i:=0) Z tyP_bool Z Z Z<|ON Z Z Z<|NT Z Z<|ON Z Z Z<|PT Z Z Z Z<|PF Z Z Z Z<|AS Z Z<|ND<|?_
    refine gw_condN Z (fun h24=>?_) (fun h24=>?_)
    ·refine SQ<|RG<|AS Z Z<|ND<|RT Tryz.func10 Z Z<|?_
     simp [isStream,isStreamW,h1,h2,h3,h4,h5,h6,h7,h8,h9,h10,h11,h12,h13,h14,h23,h24]
    refine SQ<|RG<|FA Z tyF_impl_Stream_6 Z<|LD (i:=0) Z tyP_bool Z Z Z<|NT Z Z<|MV Z Z<|rw_lit (j:=103) Z (not_F h8)<|ON Z Z Z<|FA Z tyF_impl_Stream_1 Z<|ON Z Z Z<|FA Z tyF_impl_Sender_0 Z<|ON Z Z Z<|LD (i:=0) Z tyP_int Z Z Z<|ON Z Z Z<|rw_neq Z Z Z<|ON Z Z Z<|MV Z Z<|?_
    refine rw_caseN (j:=108) Z (fun h25=>?_) (fun h25=>?_)
    ·refine SKP Z<|ON Z Z Z<|PT Z Z Z Z<|ON Z Z Z<|MV Z Z<|SKP Z<|ON Z Z Z<|PT Z Z Z Z<|PT Z Z Z Z<|AS Z Z<|ND<|CT Z Z<|SQ<|RG<|AS Z Z<|ND<|RT Tryz.func10 Z Z<|?_
     simp [isStream,isStreamW,h1,h2,h3,h4,h5,h6,h7,h8,h9,h10,h11,h12,h13,h14,h23,h24,h25]
    refine ON Z Z Z<|FA Z tyF_impl_Stream_1 Z<|ON Z Z Z<|FA Z tyF_impl_Sender_1 Z<|ON Z Z Z<|FA Z tyF_impl_Ring_2 Z<|ON Z Z Z<|LD (i:=0) Z tyP_int Z Z Z<|ON Z Z Z<|rw_neq Z Z Z<|ON Z Z Z<|PF Z Z Z Z<|ON Z Z Z<|MV Z Z<|?_
    refine rw_caseN (j:=115) Z (fun h26=>?_) (fun h26=>?_)
    ·refine SKP Z<|ON Z Z Z<|PT Z Z Z Z<|PT Z Z Z Z<|AS Z Z<|ND<|CT Z Z<|SQ<|RG<|AS Z Z<|ND<|RT Tryz.func10 Z Z<|?_
     simp [isStream,isStreamW,h1,h2,h3,h4,h5,h6,h7,h8,h9,h10,h11,h12,h13,h14,h23,h24,h25,h26]
    refine ON Z Z Z<|FA Z tyF_impl_Stream_1 Z<|ON Z Z Z<|FA Z tyF_impl_Sender_5 Z<|ON Z Z Z<|LD (i:=0) Z tyP_int Z Z Z<|ON Z Z Z<|rw_neq Z Z Z<|ON Z Z Z<|PF Z Z Z Z<|PT Z Z Z Z<|AS Z Z<|ND<|?_
    refine gw_condN Z (fun h27=>?_) (fun h27=>?_)
    ·refine SQ<|RG<|AS Z Z<|ND<|RT Tryz.func10 Z Z<|?_
     simp [isStream,isStreamW,h1,h2,h3,h4,h5,h6,h7,h8,h9,h10,h11,h12,h13,h14,h23,h24,h25,h26,h27]
    refine SK<|IB<|SQ<|RG<|FA Z tyF_impl_Stream_7 Z<|LD (i:=0) Z tyP_bool Z Z Z<|MV Z Z<|rw_lit (j:=124) Z h9<|SKP Z<|PT Z Z Z Z<|AS Z Z<|ND<|RT Tryz.func10 Z Z<|?_
    simp [isStream,isStreamW,h1,h2,h3,h4,h5,h6,h7,h8,h9,h10,h11,h12,h13,h14,h23,h24,h25,h26,h27]
   refine SKP Z<|ON Z Z Z<|PF Z Z Z Z<|PF Z Z Z Z<|AS Z Z<|ND<|CF Z Z<|SQ<|RG<|FA Z tyF_impl_Stream_6 Z<|LD (i:=0) Z tyP_bool Z Z Z<|NT Z Z<|MV Z Z<|rw_lit (j:=103) Z (not_F h8)<|ON Z Z Z<|FA Z tyF_impl_Stream_1 Z<|ON Z Z Z<|FA Z tyF_impl_Sender_0 Z<|ON Z Z Z<|LD (i:=0) Z tyP_int Z Z Z<|ON Z Z Z<|rw_neq Z Z Z<|?_
   refine ON Z Z Z<|MV Z Z<|?_
   refine rw_caseN (j:=108) Z (fun h28=>?_) (fun h28=>?_)
   ·refine SKP Z<|ON Z Z Z<|PT Z Z Z Z<|ON Z Z Z<|MV Z Z<|SKP Z<|ON Z Z Z<|PT Z Z Z Z<|PT Z Z Z Z<|AS Z Z<|ND<|CT Z Z<|SQ<|RG<|AS Z Z<|ND<|RT Tryz.func10 Z Z<|?_
    simp [isStream,isStreamW,h1,h2,h3,h4,h5,h6,h7,h8,h9,h10,h11,h12,h13,h14,h23,h28]
   refine ON Z Z Z<|FA Z tyF_impl_Stream_1 Z<|ON Z Z Z<|FA Z tyF_impl_Sender_1 Z<|ON Z Z Z<|FA Z tyF_impl_Ring_2 Z<|ON Z Z Z<|LD (i:=0) Z tyP_int Z Z Z<|ON Z Z Z<|rw_neq Z Z Z<|ON Z Z Z<|PF Z Z Z Z<|ON Z Z Z<|MV Z Z<|?_
   refine rw_caseN (j:=115) Z (fun h29=>?_) (fun h29=>?_)
   ·refine SKP Z<|ON Z Z Z<|PT Z Z Z Z<|PT Z Z Z Z<|AS Z Z<|ND<|CT Z Z<|SQ<|RG<|AS Z Z<|ND<|RT Tryz.func10 Z Z<|?_
    simp [isStream,isStreamW,h1,h2,h3,h4,h5,h6,h7,h8,h9,h10,h11,h12,h13,h14,h23,h28,h29]
   refine ON Z Z Z<|FA Z tyF_impl_Stream_1 Z<|ON Z Z Z<|FA Z tyF_impl_Sender_5 Z<|ON Z Z Z<|LD (i:=0) Z tyP_int Z Z Z<|ON Z Z Z<|rw_neq Z Z Z<|ON Z Z Z<|PF Z Z Z Z<|PT Z Z Z Z<|AS Z Z<|ND<|?_
   refine gw_condN Z (fun h30=>?_) (fun h30=>?_)
   ·refine SQ<|RG<|AS Z Z<|ND<|RT Tryz.func10 Z Z<|?_
    simp [isStream,isStreamW,h1,h2,h3,h4,h5,h6,h7,h8,h9,h10,h11,h12,h13,h14,h23,h28,h29,h30]
   refine SK<|IB<|SQ<|RG<|FA Z tyF_impl_Stream_7 Z<|LD (i:=0) Z tyP_bool Z Z Z<|MV Z Z<|rw_lit (j:=124) Z h9<|SKP Z<|PT Z Z Z Z<|AS Z Z<|ND<|RT Tryz.func10 Z Z<|?_
   simp [isStream,isStreamW,h1,h2,h3,h4,h5,h6,h7,h8,h9,h10,h11,h12,h13,h14,h23,h28,h29,h30]
  refine SKP Z<|PF Z Z Z Z<|MV Z Z<|ON Z Z Z<|FA Z tyF_impl_Stream_9 Z<|ON Z Z Z<|LD (i:=0) Z tyP_bool Z Z Z<|ON Z Z Z<|MV Z Z<|?_
  refine rw_caseL (j:=83) Z (fun h31=>?_) (fun h31=>?_)
  ·refine ON Z Z Z<|FA Z tyF_impl_Stream_11 Z<|ON Z Z Z<|LD (i:=0) Z tyP_bool Z Z Z<|ON Z Z Z<|NT Z Z<|ON Z Z Z<|PT Z Z Z Z<|PF Z Z Z Z<|MV Z Z<|?_
   refine rw_caseN (j:=89) Z (fun h32=>?_) (fun h32=>?_)
   ·refine SKP Z<|PT Z Z Z Z<|AS Z Z<|ND<|CT Z Z<|SQ<|RG<|AS Z Z<|ND<|RT Tryz.func10 Z Z<|?_
    simp [isStream,isStreamW,h1,h2,h3,h4,h5,h6,h7,h8,h9,h10,h11,h12,h31,h32]
   refine ON Z Z Z<|FA Z tyF_impl_Stream_12 Z<|ON Z Z Z<|LD (i:=0) Z tyP_int Z Z Z<|ON Z Z Z<|rw_neq Z Z Z<|ON Z Z Z<|MV Z Z<|?_
   refine rw_caseN (j:=93) Z (fun h33=>?_) (fun h33=>?_)
   ·refine ON Z Z Z<|FA Z tyF_impl_Stream_11 Z<|ON Z Z Z<|LD (i:=0) Z tyP_bool Z Z Z<|ON Z Z Z<|NT Z Z<|ON Z Z Z<|PT Z Z Z Z<|PF Z Z Z Z<|AS Z Z<|ND<|CF Z (not_T h32)<|SQ<|RG<|FA Z tyF_impl_Stream_6 Z<|LD (i:=0) Z tyP_bool Z Z Z<|NT Z Z<|MV Z Z<|rw_lit (j:=103) Z (not_F h8)<|ON Z Z Z<|FA Z tyF_impl_Stream_1 Z<|?_
    refine ON Z Z Z<|FA Z tyF_impl_Sender_0 Z<|ON Z Z Z<|LD (i:=0) Z tyP_int Z Z Z<|ON Z Z Z<|rw_neq Z Z Z<|ON Z Z Z<|MV Z Z<|?_
    refine rw_caseN (j:=108) Z (fun h34=>?_) (fun h34=>?_)
    ·refine SKP Z<|ON Z Z Z<|PT Z Z Z Z<|ON Z Z Z<|MV Z Z<|SKP Z<|ON Z Z Z<|PT Z Z Z Z<|PT Z Z Z Z<|AS Z Z<|ND<|CT Z Z<|SQ<|RG<|AS Z Z<|ND<|RT Tryz.func10 Z Z<|?_
     simp [isStream,isStreamW,h1,h2,h3,h4,h5,h6,h7,h8,h9,h10,h11,h12,h31,h32,h33,h34]
    refine ON Z Z Z<|FA Z tyF_impl_Stream_1 Z<|ON Z Z Z<|FA Z tyF_impl_Sender_1 Z<|ON Z Z Z<|FA Z tyF_impl_Ring_2 Z<|ON Z Z Z<|LD (i:=0) Z tyP_int Z Z Z<|ON Z Z Z<|rw_neq Z Z Z<|ON Z Z Z<|PF Z Z Z Z<|ON Z Z Z<|MV Z Z<|?_
    refine rw_caseN (j:=115) Z (fun h35=>?_) (fun h35=>?_)
    ·refine SKP Z<|ON Z Z Z<|PT Z Z Z Z<|PT Z Z Z Z<|AS Z Z<|ND<|CT Z Z<|SQ<|RG<|AS Z Z<|ND<|RT Tryz.func10 Z Z<|?_
     simp [isStream,isStreamW,h1,h2,h3,h4,h5,h6,h7,h8,h9,h10,h11,h12,h31,h32,h33,h34,h35]
    refine ON Z Z Z<|FA Z tyF_impl_Stream_1 Z<|ON Z Z Z<|FA Z tyF_impl_Sender_5 Z<|ON Z Z Z<|LD (i:=0) Z tyP_int Z Z Z<|ON Z Z Z<|rw_neq Z Z Z<|ON Z Z Z<|PF Z Z Z Z<|PT Z Z Z Z<|AS Z Z<|ND<|?_
    refine gw_condN Z (fun h36=>?_) (fun h36=>?_)
    ·refine SQ<|RG<|AS Z Z<|ND<|RT Tryz.func10 Z Z<|?_
     simp [isStream,isStreamW,h1,h2,h3,h4,h5,h6,h7,h8,h9,h10,h11,h12,h31,h32,h33,h34,h35,h36]
    refine SK<|IB<|SQ<|RG<|FA Z tyF_impl_Stream_7 Z<|LD (i:=0) Z tyP_bool Z Z Z<|MV Z Z<|rw_lit (j:=124) Z h9<|SKP Z<|PT Z Z Z Z<|AS Z Z<|ND<|RT Tryz.func10 Z Z<|?_
    simp [isStream,isStreamW,h1,h2,h3,h4,h5,h6,h7,h8,h9,h10,h11,h12,h31,h32,h33,h34,h35,h36]
   refine SKP Z<|ON Z Z Z<|PF Z Z Z Z<|PF Z Z Z Z<|AS Z Z<|ND<|CF Z Z<|SQ<|RG<|FA Z tyF_impl_Stream_6 Z<|LD (i:=0) Z tyP_bool Z Z Z<|NT Z Z<|MV Z Z<|rw_lit (j:=103) Z (not_F h8)<|ON Z Z Z<|FA Z tyF_impl_Stream_1 Z<|ON Z Z Z<|FA Z tyF_impl_Sender_0 Z<|ON Z Z Z<|LD (i:=0) Z tyP_int Z Z Z<|ON Z Z Z<|rw_neq Z Z Z<|?_
   refine ON Z Z Z<|MV Z Z<|?_
   refine rw_caseN (j:=108) Z (fun h37=>?_) (fun h37=>?_)
   ·refine SKP Z<|ON Z Z Z<|PT Z Z Z Z<|ON Z Z Z<|MV Z Z<|SKP Z<|ON Z Z Z<|PT Z Z Z Z<|PT Z Z Z Z<|AS Z Z<|ND<|CT Z Z<|SQ<|RG<|AS Z Z<|ND<|RT Tryz.func10 Z Z<|?_
    simp [isStream,isStreamW,h1,h2,h3,h4,h5,h6,h7,h8,h9,h10,h11,h12,h31,h32,h33,h37]
   refine ON Z Z Z<|FA Z tyF_impl_Stream_1 Z<|ON Z Z Z<|FA Z tyF_impl_Sender_1 Z<|ON Z Z Z<|FA Z tyF_impl_Ring_2 Z<|ON Z Z Z<|LD (i:=0) Z tyP_int Z Z Z<|ON Z Z Z<|rw_neq Z Z Z<|ON Z Z Z<|PF Z Z Z Z<|ON Z Z Z<|MV Z Z<|?_
   refine rw_caseN (j:=115) Z (fun h38=>?_) (fun h38=>?_)
   ·refine SKP Z<|ON Z Z Z<|PT Z Z Z Z<|PT Z Z Z Z<|AS Z Z<|ND<|CT Z Z<|SQ<|RG<|AS Z Z<|ND<|RT Tryz.func10 Z Z<|?_
    simp [isStream,isStreamW,h1,h2,h3,h4,h5,h6,h7,h8,h9,h10,h11,h12,h31,h32,h33,h37,h38]
   refine ON Z Z Z<|FA Z tyF_impl_Stream_1 Z<|ON Z Z Z<|FA Z tyF_impl_Sender_5 Z<|ON Z Z Z<|LD (i:=0) Z tyP_int Z Z Z<|ON Z Z Z<|rw_neq Z Z Z<|ON Z Z Z<|PF Z Z Z Z<|PT Z Z Z Z<|AS Z Z<|ND<|?_
   refine gw_condN Z (fun h39=>?_) (fun h39=>?_)
   ·refine SQ<|RG<|AS Z Z<|ND<|RT Tryz.func10 Z Z<|?_
    simp [isStream,isStreamW,h1,h2,h3,h4,h5,h6,h7,h8,h9,h10,h11,h12,h31,h32,h33,h37,h38,h39]
   refine SK<|IB<|SQ<|RG<|FA Z tyF_impl_Stream_7 Z<|LD (i:=0) Z tyP_bool Z Z Z<|MV Z Z<|rw_lit (j:=124) Z h9<|SKP Z<|PT Z Z Z Z<|AS Z Z<|ND<|RT Tryz.func10 Z Z<|?_
   simp [isStream,isStreamW,h1,h2,h3,h4,h5,h6,h7,h8,h9,h10,h11,h12,h31,h32,h33,h37,h38,h39]
  refine SKP Z<|ON Z Z Z<|PF Z Z Z Z<|PF Z Z Z Z<|MV Z Z<|ON Z Z Z<|FA Z tyF_impl_Stream_12 Z<|ON Z Z Z<|LD (i:=0) Z tyP_int Z Z Z<|ON Z Z Z<|rw_neq Z Z Z<|ON Z Z Z<|MV Z Z<|?_
  refine rw_caseN (j:=93) Z (fun h40=>?_) (fun h40=>?_)
  ·refine ON Z Z Z<|FA Z tyF_impl_Stream_11 Z<|ON Z Z Z<|LD (i:=0) Z tyP_bool Z Z Z<|ON Z Z Z<|NT Z Z<|ON Z Z Z<|PT Z Z Z Z<|PF Z Z Z Z<|AS Z Z<|ND<|?_
   refine gw_condN Z (fun h41=>?_) (fun h41=>?_)
   ·refine SQ<|RG<|AS Z Z<|ND<|RT Tryz.func10 Z Z<|?_
    simp [isStream,isStreamW,h1,h2,h3,h4,h5,h6,h7,h8,h9,h10,h11,h12,h31,h40,h41]
   refine SQ<|RG<|FA Z tyF_impl_Stream_6 Z<|LD (i:=0) Z tyP_bool Z Z Z<|NT Z Z<|MV Z Z<|rw_lit (j:=103) Z (not_F h8)<|ON Z Z Z<|FA Z tyF_impl_Stream_1 Z<|ON Z Z Z<|FA Z tyF_impl_Sender_0 Z<|ON Z Z Z<|LD (i:=0) Z tyP_int Z Z Z<|ON Z Z Z<|rw_neq Z Z Z<|ON Z Z Z<|MV Z Z<|?_
   refine rw_caseN (j:=108) Z (fun h42=>?_) (fun h42=>?_)
   ·refine SKP Z<|ON Z Z Z<|PT Z Z Z Z<|ON Z Z Z<|MV Z Z<|SKP Z<|ON Z Z Z<|PT Z Z Z Z<|PT Z Z Z Z<|AS Z Z<|ND<|CT Z Z<|SQ<|RG<|AS Z Z<|ND<|RT Tryz.func10 Z Z<|?_
    simp [isStream,isStreamW,h1,h2,h3,h4,h5,h6,h7,h8,h9,h10,h11,h12,h31,h40,h41,h42]
   refine ON Z Z Z<|FA Z tyF_impl_Stream_1 Z<|ON Z Z Z<|FA Z tyF_impl_Sender_1 Z<|ON Z Z Z<|FA Z tyF_impl_Ring_2 Z<|ON Z Z Z<|LD (i:=0) Z tyP_int Z Z Z<|ON Z Z Z<|rw_neq Z Z Z<|ON Z Z Z<|PF Z Z Z Z<|ON Z Z Z<|MV Z Z<|?_
   refine rw_caseN (j:=115) Z (fun h43=>?_) (fun h43=>?_)
   ·refine SKP Z<|ON Z Z Z<|PT Z Z Z Z<|PT Z Z Z Z<|AS Z Z<|ND<|CT Z Z<|SQ<|RG<|AS Z Z<|ND<|RT Tryz.func10 Z Z<|?_
    simp [isStream,isStreamW,h1,h2,h3,h4,h5,h6,h7,h8,h9,h10,h11,h12,h31,h40,h41,h42,h43]
   refine ON Z Z Z<|FA Z tyF_impl_Stream_1 Z<|ON Z Z Z<|FA Z tyF_impl_Sender_5 Z<|ON Z Z Z<|LD (i:=0) Z tyP_int Z Z Z<|ON Z Z Z<|rw_neq Z Z Z<|ON Z Z Z<|PF Z Z Z Z<|PT Z Z Z Z<|AS Z Z<|ND<|?_
   refine gw_condN Z (fun h44=>?_) (fun h44=>?_)
   ·refine SQ<|RG<|AS Z Z<|ND<|RT Tryz.func10 Z Z<|?_
    simp [isStream,isStreamW,h1,h2,h3,h4,h5,h6,h7,h8,h9,h10,h11,h12,h31,h40,h41,h42,h43,h44]
   refine SK<|IB<|SQ<|RG<|FA Z tyF_impl_Stream_7 Z<|LD (i:=0) Z tyP_bool Z Z Z<|MV Z Z<|rw_lit (j:=124) Z h9<|SKP Z<|PT Z Z Z Z<|AS Z Z<|ND<|RT Tryz.func10 Z Z<|?_
   simp [isStream,isStreamW,h1,h2,h3,h4,h5,h6,h7,h8,h9,h10,h11,h12,h31,h40,h41,h42,h43,h44]
  refine SKP Z<|ON Z Z Z<|PF Z Z Z Z<|PF Z Z Z Z<|AS Z Z<|ND<|CF Z Z<|SQ<|RG<|FA Z tyF_impl_Stream_6 Z<|LD (i:=0) Z tyP_bool Z Z Z<|NT Z Z<|MV Z Z<|rw_lit (j:=103) Z (not_F h8)<|ON Z Z Z<|FA Z tyF_impl_Stream_1 Z<|ON Z Z Z<|FA Z tyF_impl_Sender_0 Z<|ON Z Z Z<|LD (i:=0) Z tyP_int Z Z Z<|ON Z Z Z<|rw_neq Z Z Z<|?_
  refine ON Z Z Z<|MV Z Z<|?_
  refine rw_caseN (j:=108) Z (fun h45=>?_) (fun h45=>?_)
  ·refine SKP Z<|ON Z Z Z<|PT Z Z Z Z<|ON Z Z Z<|MV Z Z<|SKP Z<|ON Z Z Z<|PT Z Z Z Z<|PT Z Z Z Z<|AS Z Z<|ND<|CT Z Z<|SQ<|RG<|AS Z Z<|ND<|RT Tryz.func10 Z Z<|?_
   simp [isStream,isStreamW,h1,h2,h3,h4,h5,h6,h7,h8,h9,h10,h11,h12,h31,h40,h45]
  refine ON Z Z Z<|FA Z tyF_impl_Stream_1 Z<|ON Z Z Z<|FA Z tyF_impl_Sender_1 Z<|ON Z Z Z<|FA Z tyF_impl_Ring_2 Z<|ON Z Z Z<|LD (i:=0) Z tyP_int Z Z Z<|ON Z Z Z<|rw_neq Z Z Z<|ON Z Z Z<|PF Z Z Z Z<|ON Z Z Z<|MV Z Z<|?_
  refine rw_caseN (j:=115) Z (fun h46=>?_) (fun h46=>?_)
  ·refine SKP Z<|ON Z Z Z<|PT Z Z Z Z<|PT Z Z Z Z<|AS Z Z<|ND<|CT Z Z<|SQ<|RG<|AS Z Z<|ND<|RT Tryz.func10 Z Z<|?_
   simp [isStream,isStreamW,h1,h2,h3,h4,h5,h6,h7,h8,h9,h10,h11,h12,h31,h40,h45,h46]
  refine ON Z Z Z<|FA Z tyF_impl_Stream_1 Z<|ON Z Z Z<|FA Z tyF_impl_Sender_5 Z<|ON Z Z Z<|LD (i:=0) Z tyP_int Z Z Z<|ON Z Z Z<|rw_neq Z Z Z<|ON Z Z Z<|PF Z Z Z Z<|PT Z Z Z Z<|AS Z Z<|ND<|?_
  refine gw_condN Z (fun h47=>?_) (fun h47=>?_)
  ·refine SQ<|RG<|AS Z Z<|ND<|RT Tryz.func10 Z Z<|?_
   simp [isStream,isStreamW,h1,h2,h3,h4,h5,h6,h7,h8,h9,h10,h11,h12,h31,h40,h45,h46,h47]
  refine SK<|IB<|SQ<|RG<|FA Z tyF_impl_Stream_7 Z<|LD (i:=0) Z tyP_bool Z Z Z<|MV Z Z<|rw_lit (j:=124) Z h9<|SKP Z<|PT Z Z Z Z<|AS Z Z<|ND<|RT Tryz.func10 Z Z<|?_
  simp [isStream,isStreamW,h1,h2,h3,h4,h5,h6,h7,h8,h9,h10,h11,h12,h31,h40,h45,h46,h47]
 refine SKP Z<|PF Z Z Z Z<|MV Z Z<|ON Z Z Z<|FA Z tyF_impl_Stream_1 Z<|ON Z Z Z<|FA Z tyF_impl_Sender_7 Z<|ON Z Z Z<|LD (i:=0) Z tyP_int Z Z Z<|ON Z Z Z<|FA Z tyF_impl_Stream_2 Z<|ON Z Z Z<|FA Z tyF_impl_Credit_1 Z<|ON Z Z Z<|LD (i:=0) Z tyP_int Z Z Z<|ON Z Z Z<|rw_gtr Z Z Z<|PF Z Z Z Z<|MV Z Z<|?_
 refine rw_caseL (j:=62) Z (fun h48=>?_) (fun h48=>?_)
 ·refine SKP Z<|PT Z Z Z Z<|AS Z Z<|ND<|CT Z Z<|SQ<|RG<|AS Z Z<|ND<|RT Tryz.func10 Z Z<|?_
  simp [isStream,isStreamW,h1,h2,h3,h4,h5,h6,h7,h8,h48]
 refine ON Z Z Z<|FA Z tyF_impl_Stream_3 Z<|ON Z Z Z<|FA Z tyF_impl_Receiver_3 Z<|ON Z Z Z<|LD (i:=0) Z tyP_int Z Z Z<|ON Z Z Z<|FA Z tyF_impl_Stream_4 Z<|ON Z Z Z<|FA Z tyF_impl_Window_3 Z<|ON Z Z Z<|LD (i:=0) Z tyP_int Z Z Z<|ON Z Z Z<|rw_gtr Z Z Z<|PF Z Z Z Z<|AS Z Z<|ND<|?_
 refine gw_cond Z (fun h49=>?_) (fun h49=>?_)
 ·refine SQ<|RG<|AS Z Z<|ND<|RT Tryz.func10 Z Z<|?_
  simp [isStream,isStreamW,h1,h2,h3,h4,h5,h6,h7,h8,h48,h49]
 refine SQ<|RG<|FA Z tyF_impl_Stream_8 Z<|LD (i:=0) Z tyP_bool Z Z Z<|MV Z Z<|?_
 refine rw_caseL (j:=74) Z (fun h50=>?_) (fun h50=>?_)
 ·refine ON Z Z Z<|FA Z tyF_impl_Stream_1 Z<|ON Z Z Z<|FA Z tyF_impl_Sender_0 Z<|ON Z Z Z<|LD (i:=0) Z tyP_int Z Z Z<|ON Z Z Z<|rw_neq Z Z Z<|PT Z Z Z Z<|MV Z Z<|?_
  refine rw_caseN (j:=80) Z (fun h51=>?_) (fun h51=>?_)
  ·refine SKP Z<|PT Z Z Z Z<|MV Z Z<|SKP Z<|PT Z Z Z Z<|AS Z Z<|ND<|CT Z Z<|SQ<|RG<|AS Z Z<|ND<|RT Tryz.func10 Z Z<|?_
   simp [isStream,isStreamW,h1,h2,h3,h4,h5,h6,h7,h8,h48,h49,h50,h51]
  refine ON Z Z Z<|FA Z tyF_impl_Stream_9 Z<|ON Z Z Z<|LD (i:=0) Z tyP_bool Z Z Z<|ON Z Z Z<|MV Z Z<|?_
  refine rw_caseL (j:=83) Z (fun h52=>?_) (fun h52=>?_)
  ·refine ON Z Z Z<|FA Z tyF_impl_Stream_11 Z<|ON Z Z Z<|LD (i:=0) Z tyP_bool Z Z Z<|ON Z Z Z<|NT Z Z<|ON Z Z Z<|PT Z Z Z Z<|PF Z Z Z Z<|MV Z Z<|?_
   refine rw_caseN (j:=89) Z (fun h53=>?_) (fun h53=>?_)
   ·refine SKP Z<|PT Z Z Z Z<|AS Z Z<|ND<|CT Z Z<|SQ<|RG<|AS Z Z<|ND<|RT Tryz.func10 Z Z<|?_
    simp [isStream,isStreamW,h1,h2,h3,h4,h5,h6,h7,h8,h48,h49,h50,h51,h52,h53]
   refine ON Z Z Z<|FA Z tyF_impl_Stream_12 Z<|ON Z Z Z<|LD (i:=0) Z tyP_int Z Z Z<|ON Z Z Z<|rw_neq Z Z Z<|ON Z Z Z<|MV Z Z<|?_
   refine rw_caseN (j:=93) Z (fun h54=>?_) (fun h54=>?_)
   ·refine ON Z Z Z<|FA Z tyF_impl_Stream_11 Z<|ON Z Z Z<|LD (i:=0) Z tyP_bool Z Z Z<|ON Z Z Z<|NT Z Z<|ON Z Z Z<|PT Z Z Z Z<|PF Z Z Z Z<|AS Z Z<|ND<|CF Z (not_T h53)<|SQ<|RG<|FA Z tyF_impl_Stream_6 Z<|LD (i:=0) Z tyP_bool Z Z Z<|NT Z Z<|MV Z Z<|rw_lit (j:=103) Z (not_T h8)<|SKP Z<|PF Z Z Z Z<|AS Z Z<|ND<|?_
    refine CF Z Z<|SK<|IB<|SQ<|RG<|FA Z tyF_impl_Stream_7 Z<|LD (i:=0) Z tyP_bool Z Z Z<|MV Z Z<|?_
    refine rw_caseL (j:=124) Z (fun h55=>?_) (fun h55=>?_)
    ·refine SKP Z<|PT Z Z Z Z<|AS Z Z<|ND<|RT Tryz.func10 Z Z<|?_
     simp [isStream,isStreamW,h1,h2,h3,h4,h5,h6,h7,h8,h48,h49,h50,h51,h52,h53,h54,h55]
    refine ON Z Z Z<|FA Z tyF_impl_Stream_3 Z<|ON Z Z Z<|FA Z tyF_impl_Receiver_0 Z<|ON Z Z Z<|LD (i:=0) Z tyP_int Z Z Z<|ON Z Z Z<|EQ1 Z Z Z<|ON Z Z Z<|MV Z Z<|?_
    refine rw_caseL (j:=129) Z (fun h56=>?_) (fun h56=>?_)
    ·refine ON Z Z Z<|FA Z tyF_impl_Stream_3 Z<|ON Z Z Z<|FA Z tyF_impl_Receiver_3 Z<|ON Z Z Z<|LD (i:=0) Z tyP_int Z Z Z<|ON Z Z Z<|EQ1 Z Z Z<|ON Z Z Z<|PT Z Z Z Z<|ON Z Z Z<|MV Z Z<|?_
     refine rw_caseL (j:=135) Z (fun h57=>?_) (fun h57=>?_)
     ·refine ON Z Z Z<|FA Z tyF_impl_Stream_11 Z<|ON Z Z Z<|LD (i:=0) Z tyP_bool Z Z Z<|ON Z Z Z<|NT Z Z<|ON Z Z Z<|PT Z Z Z Z<|PF Z Z Z Z<|AS Z Z<|ND<|RT Tryz.func10 Z Z<|?_
      simp [isStream,isStreamW,h1,h2,h3,h4,h5,h6,h7,h8,h48,h49,h50,h51,h52,h53,h54,h55,h56,h57]
     refine SKP Z<|ON Z Z Z<|PF Z Z Z Z<|PF Z Z Z Z<|AS Z Z<|ND<|RT Tryz.func10 Z Z<|?_
     simp [isStream,isStreamW,h1,h2,h3,h4,h5,h6,h7,h8,h48,h49,h50,h51,h52,h53,h54,h55,h56,h57]
    refine SKP Z<|ON Z Z Z<|PF Z Z Z Z<|ON Z Z Z<|MV Z Z<|SKP Z<|ON Z Z Z<|PF Z Z Z Z<|PF Z Z Z Z<|AS Z Z<|ND<|RT Tryz.func10 Z Z<|?_
    simp [isStream,isStreamW,h1,h2,h3,h4,h5,h6,h7,h8,h48,h49,h50,h51,h52,h53,h54,h55,h56]
   refine SKP Z<|ON Z Z Z<|PF Z Z Z Z<|PF Z Z Z Z<|AS Z Z<|ND<|CF Z Z<|SQ<|RG<|FA Z tyF_impl_Stream_6 Z<|LD (i:=0) Z tyP_bool Z Z Z<|NT Z Z<|MV Z Z<|rw_lit (j:=103) Z (not_T h8)<|SKP Z<|PF Z Z Z Z<|AS Z Z<|ND<|CF Z Z<|SK<|IB<|SQ<|RG<|FA Z tyF_impl_Stream_7 Z<|LD (i:=0) Z tyP_bool Z Z Z<|MV Z Z<|?_
   refine rw_caseL (j:=124) Z (fun h58=>?_) (fun h58=>?_)
   ·refine SKP Z<|PT Z Z Z Z<|AS Z Z<|ND<|RT Tryz.func10 Z Z<|?_
    simp [isStream,isStreamW,h1,h2,h3,h4,h5,h6,h7,h8,h48,h49,h50,h51,h52,h53,h54,h58]
   refine ON Z Z Z<|FA Z tyF_impl_Stream_3 Z<|ON Z Z Z<|FA Z tyF_impl_Receiver_0 Z<|ON Z Z Z<|LD (i:=0) Z tyP_int Z Z Z<|ON Z Z Z<|EQ1 Z Z Z<|ON Z Z Z<|MV Z Z<|?_
   refine rw_caseL (j:=129) Z (fun h59=>?_) (fun h59=>?_)
   ·refine ON Z Z Z<|FA Z tyF_impl_Stream_3 Z<|ON Z Z Z<|FA Z tyF_impl_Receiver_3 Z<|ON Z Z Z<|LD (i:=0) Z tyP_int Z Z Z<|ON Z Z Z<|EQ1 Z Z Z<|ON Z Z Z<|PT Z Z Z Z<|ON Z Z Z<|MV Z Z<|?_
    refine rw_caseL (j:=135) Z (fun h60=>?_) (fun h60=>?_)
    ·refine ON Z Z Z<|FA Z tyF_impl_Stream_11 Z<|ON Z Z Z<|LD (i:=0) Z tyP_bool Z Z Z<|ON Z Z Z<|NT Z Z<|ON Z Z Z<|PT Z Z Z Z<|PF Z Z Z Z<|AS Z Z<|ND<|RT Tryz.func10 Z Z<|?_
     simp [isStream,isStreamW,h1,h2,h3,h4,h5,h6,h7,h8,h48,h49,h50,h51,h52,h53,h54,h58,h59,h60]
    refine SKP Z<|ON Z Z Z<|PF Z Z Z Z<|PF Z Z Z Z<|AS Z Z<|ND<|RT Tryz.func10 Z Z<|?_
    simp [isStream,isStreamW,h1,h2,h3,h4,h5,h6,h7,h8,h48,h49,h50,h51,h52,h53,h54,h58,h59,h60]
   refine SKP Z<|ON Z Z Z<|PF Z Z Z Z<|ON Z Z Z<|MV Z Z<|SKP Z<|ON Z Z Z<|PF Z Z Z Z<|PF Z Z Z Z<|AS Z Z<|ND<|RT Tryz.func10 Z Z<|?_
   simp [isStream,isStreamW,h1,h2,h3,h4,h5,h6,h7,h8,h48,h49,h50,h51,h52,h53,h54,h58,h59]
  refine SKP Z<|ON Z Z Z<|PF Z Z Z Z<|PF Z Z Z Z<|MV Z Z<|ON Z Z Z<|FA Z tyF_impl_Stream_12 Z<|ON Z Z Z<|LD (i:=0) Z tyP_int Z Z Z<|ON Z Z Z<|rw_neq Z Z Z<|ON Z Z Z<|MV Z Z<|?_
  refine rw_caseN (j:=93) Z (fun h61=>?_) (fun h61=>?_)
  ·refine ON Z Z Z<|FA Z tyF_impl_Stream_11 Z<|ON Z Z Z<|LD (i:=0) Z tyP_bool Z Z Z<|ON Z Z Z<|NT Z Z<|ON Z Z Z<|PT Z Z Z Z<|PF Z Z Z Z<|AS Z Z<|ND<|?_
   refine gw_condN Z (fun h62=>?_) (fun h62=>?_)
   ·refine SQ<|RG<|AS Z Z<|ND<|RT Tryz.func10 Z Z<|?_
    simp [isStream,isStreamW,h1,h2,h3,h4,h5,h6,h7,h8,h48,h49,h50,h51,h52,h61,h62]
   refine SQ<|RG<|FA Z tyF_impl_Stream_6 Z<|LD (i:=0) Z tyP_bool Z Z Z<|NT Z Z<|MV Z Z<|rw_lit (j:=103) Z (not_T h8)<|SKP Z<|PF Z Z Z Z<|AS Z Z<|ND<|CF Z Z<|SK<|IB<|SQ<|RG<|FA Z tyF_impl_Stream_7 Z<|LD (i:=0) Z tyP_bool Z Z Z<|MV Z Z<|?_
   refine rw_caseL (j:=124) Z (fun h63=>?_) (fun h63=>?_)
   ·refine SKP Z<|PT Z Z Z Z<|AS Z Z<|ND<|RT Tryz.func10 Z Z<|?_
    simp [isStream,isStreamW,h1,h2,h3,h4,h5,h6,h7,h8,h48,h49,h50,h51,h52,h61,h62,h63]
   refine ON Z Z Z<|FA Z tyF_impl_Stream_3 Z<|ON Z Z Z<|FA Z tyF_impl_Receiver_0 Z<|ON Z Z Z<|LD (i:=0) Z tyP_int Z Z Z<|ON Z Z Z<|EQ1 Z Z Z<|ON Z Z Z<|MV Z Z<|?_
   refine rw_caseL (j:=129) Z (fun h64=>?_) (fun h64=>?_)
   ·refine ON Z Z Z<|FA Z tyF_impl_Stream_3 Z<|ON Z Z Z<|FA Z tyF_impl_Receiver_3 Z<|ON Z Z Z<|LD (i:=0) Z tyP_int Z Z Z<|ON Z Z Z<|EQ1 Z Z Z<|ON Z Z Z<|PT Z Z Z Z<|ON Z Z Z<|MV Z Z<|?_
    refine rw_caseL (j:=135) Z (fun h65=>?_) (fun h65=>?_)
    ·refine ON Z Z Z<|FA Z tyF_impl_Stream_11 Z<|ON Z Z Z<|LD (i:=0) Z tyP_bool Z Z Z<|ON Z Z Z<|NT Z Z<|ON Z Z Z<|PT Z Z Z Z<|PF Z Z Z Z<|AS Z Z<|ND<|RT Tryz.func10 Z Z<|?_
     simp [isStream,isStreamW,h1,h2,h3,h4,h5,h6,h7,h8,h48,h49,h50,h51,h52,h61,h62,h63,h64,h65]
    refine SKP Z<|ON Z Z Z<|PF Z Z Z Z<|PF Z Z Z Z<|AS Z Z<|ND<|RT Tryz.func10 Z Z<|?_
    simp [isStream,isStreamW,h1,h2,h3,h4,h5,h6,h7,h8,h48,h49,h50,h51,h52,h61,h62,h63,h64,h65]
   refine SKP Z<|ON Z Z Z<|PF Z Z Z Z<|ON Z Z Z<|MV Z Z<|SKP Z<|ON Z Z Z<|PF Z Z Z Z<|PF Z Z Z Z<|AS Z Z<|ND<|RT Tryz.func10 Z Z<|?_
   simp [isStream,isStreamW,h1,h2,h3,h4,h5,h6,h7,h8,h48,h49,h50,h51,h52,h61,h62,h63,h64]
  refine SKP Z<|ON Z Z Z<|PF Z Z Z Z<|PF Z Z Z Z<|AS Z Z<|ND<|CF Z Z<|SQ<|RG<|FA Z tyF_impl_Stream_6 Z<|LD (i:=0) Z tyP_bool Z Z Z<|NT Z Z<|MV Z Z<|rw_lit (j:=103) Z (not_T h8)<|SKP Z<|PF Z Z Z Z<|AS Z Z<|ND<|CF Z Z<|SK<|IB<|SQ<|RG<|FA Z tyF_impl_Stream_7 Z<|LD (i:=0) Z tyP_bool Z Z Z<|MV Z Z<|?_
  refine rw_caseL (j:=124) Z (fun h66=>?_) (fun h66=>?_)
  ·refine SKP Z<|PT Z Z Z Z<|AS Z Z<|ND<|RT Tryz.func10 Z Z<|?_
   simp [isStream,isStreamW,h1,h2,h3,h4,h5,h6,h7,h8,h48,h49,h50,h51,h52,h61,h66]
  refine ON Z Z Z<|FA Z tyF_impl_Stream_3 Z<|ON Z Z Z<|FA Z tyF_impl_Receiver_0 Z<|ON Z Z Z<|LD (i:=0) Z tyP_int Z Z Z<|ON Z Z Z<|EQ1 Z Z Z<|ON Z Z Z<|MV Z Z<|?_
  refine rw_caseL (j:=129) Z (fun h67=>?_) (fun h67=>?_)
  ·refine ON Z Z Z<|FA Z tyF_impl_Stream_3 Z<|ON Z Z Z<|FA Z tyF_impl_Receiver_3 Z<|ON Z Z Z<|LD (i:=0) Z tyP_int Z Z Z<|ON Z Z Z<|EQ1 Z Z Z<|ON Z Z Z<|PT Z Z Z Z<|ON Z Z Z<|MV Z Z<|?_
   refine rw_caseL (j:=135) Z (fun h68=>?_) (fun h68=>?_)
   ·refine ON Z Z Z<|FA Z tyF_impl_Stream_11 Z<|ON Z Z Z<|LD (i:=0) Z tyP_bool Z Z Z<|ON Z Z Z<|NT Z Z<|ON Z Z Z<|PT Z Z Z Z<|PF Z Z Z Z<|AS Z Z<|ND<|RT Tryz.func10 Z Z<|?_
    simp [isStream,isStreamW,h1,h2,h3,h4,h5,h6,h7,h8,h48,h49,h50,h51,h52,h61,h66,h67,h68]
   refine SKP Z<|ON Z Z Z<|PF Z Z Z Z<|PF Z Z Z Z<|AS Z Z<|ND<|RT Tryz.func10 Z Z<|?_
   simp [isStream,isStreamW,h1,h2,h3,h4,h5,h6,h7,h8,h48,h49,h50,h51,h52,h61,h66,h67,h68]
  refine SKP Z<|ON Z Z Z<|PF Z Z Z Z<|ON Z Z Z<|MV Z Z<|SKP Z<|ON Z Z Z<|PF Z Z Z Z<|PF Z Z Z Z<|AS Z Z<|ND<|RT Tryz.func10 Z Z<|?_
  simp [isStream,isStreamW,h1,h2,h3,h4,h5,h6,h7,h8,h48,h49,h50,h51,h52,h61,h66,h67]
 refine SKP Z<|PF Z Z Z Z<|MV Z Z<|ON Z Z Z<|FA Z tyF_impl_Stream_9 Z<|ON Z Z Z<|LD (i:=0) Z tyP_bool Z Z Z<|ON Z Z Z<|MV Z Z<|?_
 refine rw_caseL (j:=83) Z (fun h69=>?_) (fun h69=>?_)
 ·refine ON Z Z Z<|FA Z tyF_impl_Stream_11 Z<|ON Z Z Z<|LD (i:=0) Z tyP_bool Z Z Z<|ON Z Z Z<|NT Z Z<|ON Z Z Z<|PT Z Z Z Z<|PF Z Z Z Z<|MV Z Z<|?_
  refine rw_caseN (j:=89) Z (fun h70=>?_) (fun h70=>?_)
  ·refine SKP Z<|PT Z Z Z Z<|AS Z Z<|ND<|CT Z Z<|SQ<|RG<|AS Z Z<|ND<|RT Tryz.func10 Z Z<|?_
   simp [isStream,isStreamW,h1,h2,h3,h4,h5,h6,h7,h8,h48,h49,h50,h69,h70]
  refine ON Z Z Z<|FA Z tyF_impl_Stream_12 Z<|ON Z Z Z<|LD (i:=0) Z tyP_int Z Z Z<|ON Z Z Z<|rw_neq Z Z Z<|ON Z Z Z<|MV Z Z<|?_
  refine rw_caseN (j:=93) Z (fun h71=>?_) (fun h71=>?_)
  ·refine ON Z Z Z<|FA Z tyF_impl_Stream_11 Z<|ON Z Z Z<|LD (i:=0) Z tyP_bool Z Z Z<|ON Z Z Z<|NT Z Z<|ON Z Z Z<|PT Z Z Z Z<|PF Z Z Z Z<|AS Z Z<|ND<|CF Z (not_T h70)<|SQ<|RG<|FA Z tyF_impl_Stream_6 Z<|LD (i:=0) Z tyP_bool Z Z Z<|NT Z Z<|MV Z Z<|rw_lit (j:=103) Z (not_T h8)<|SKP Z<|PF Z Z Z Z<|AS Z Z<|ND<|?_
   refine CF Z Z<|SK<|IB<|SQ<|RG<|FA Z tyF_impl_Stream_7 Z<|LD (i:=0) Z tyP_bool Z Z Z<|MV Z Z<|?_
   refine rw_caseL (j:=124) Z (fun h72=>?_) (fun h72=>?_)
   ·refine SKP Z<|PT Z Z Z Z<|AS Z Z<|ND<|RT Tryz.func10 Z Z<|?_
    simp [isStream,isStreamW,h1,h2,h3,h4,h5,h6,h7,h8,h48,h49,h50,h69,h70,h71,h72]
   refine ON Z Z Z<|FA Z tyF_impl_Stream_3 Z<|ON Z Z Z<|FA Z tyF_impl_Receiver_0 Z<|ON Z Z Z<|LD (i:=0) Z tyP_int Z Z Z<|ON Z Z Z<|EQ1 Z Z Z<|ON Z Z Z<|MV Z Z<|?_
   refine rw_caseL (j:=129) Z (fun h73=>?_) (fun h73=>?_)
   ·refine ON Z Z Z<|FA Z tyF_impl_Stream_3 Z<|ON Z Z Z<|FA Z tyF_impl_Receiver_3 Z<|ON Z Z Z<|LD (i:=0) Z tyP_int Z Z Z<|ON Z Z Z<|EQ1 Z Z Z<|ON Z Z Z<|PT Z Z Z Z<|ON Z Z Z<|MV Z Z<|?_
    refine rw_caseL (j:=135) Z (fun h74=>?_) (fun h74=>?_)
    ·refine ON Z Z Z<|FA Z tyF_impl_Stream_11 Z<|ON Z Z Z<|LD (i:=0) Z tyP_bool Z Z Z<|ON Z Z Z<|NT Z Z<|ON Z Z Z<|PT Z Z Z Z<|PF Z Z Z Z<|AS Z Z<|ND<|RT Tryz.func10 Z Z<|?_
     simp [isStream,isStreamW,h1,h2,h3,h4,h5,h6,h7,h8,h48,h49,h50,h69,h70,h71,h72,h73,h74]
    refine SKP Z<|ON Z Z Z<|PF Z Z Z Z<|PF Z Z Z Z<|AS Z Z<|ND<|RT Tryz.func10 Z Z<|?_
    simp [isStream,isStreamW,h1,h2,h3,h4,h5,h6,h7,h8,h48,h49,h50,h69,h70,h71,h72,h73,h74]
   refine SKP Z<|ON Z Z Z<|PF Z Z Z Z<|ON Z Z Z<|MV Z Z<|SKP Z<|ON Z Z Z<|PF Z Z Z Z<|PF Z Z Z Z<|AS Z Z<|ND<|RT Tryz.func10 Z Z<|?_
   simp [isStream,isStreamW,h1,h2,h3,h4,h5,h6,h7,h8,h48,h49,h50,h69,h70,h71,h72,h73]
  refine SKP Z<|ON Z Z Z<|PF Z Z Z Z<|PF Z Z Z Z<|AS Z Z<|ND<|CF Z Z<|SQ<|RG<|FA Z tyF_impl_Stream_6 Z<|LD (i:=0) Z tyP_bool Z Z Z<|NT Z Z<|MV Z Z<|rw_lit (j:=103) Z (not_T h8)<|SKP Z<|PF Z Z Z Z<|AS Z Z<|ND<|CF Z Z<|SK<|IB<|SQ<|RG<|FA Z tyF_impl_Stream_7 Z<|LD (i:=0) Z tyP_bool Z Z Z<|MV Z Z<|?_
  refine rw_caseL (j:=124) Z (fun h75=>?_) (fun h75=>?_)
  ·refine SKP Z<|PT Z Z Z Z<|AS Z Z<|ND<|RT Tryz.func10 Z Z<|?_
   simp [isStream,isStreamW,h1,h2,h3,h4,h5,h6,h7,h8,h48,h49,h50,h69,h70,h71,h75]
  refine ON Z Z Z<|FA Z tyF_impl_Stream_3 Z<|ON Z Z Z<|FA Z tyF_impl_Receiver_0 Z<|ON Z Z Z<|LD (i:=0) Z tyP_int Z Z Z<|ON Z Z Z<|EQ1 Z Z Z<|ON Z Z Z<|MV Z Z<|?_
  refine rw_caseL (j:=129) Z (fun h76=>?_) (fun h76=>?_)
  ·refine ON Z Z Z<|FA Z tyF_impl_Stream_3 Z<|ON Z Z Z<|FA Z tyF_impl_Receiver_3 Z<|ON Z Z Z<|LD (i:=0) Z tyP_int Z Z Z<|ON Z Z Z<|EQ1 Z Z Z<|ON Z Z Z<|PT Z Z Z Z<|ON Z Z Z<|MV Z Z<|?_
   refine rw_caseL (j:=135) Z (fun h77=>?_) (fun h77=>?_)
   ·refine ON Z Z Z<|FA Z tyF_impl_Stream_11 Z<|ON Z Z Z<|LD (i:=0) Z tyP_bool Z Z Z<|ON Z Z Z<|NT Z Z<|ON Z Z Z<|PT Z Z Z Z<|PF Z Z Z Z<|AS Z Z<|ND<|RT Tryz.func10 Z Z<|?_
    simp [isStream,isStreamW,h1,h2,h3,h4,h5,h6,h7,h8,h48,h49,h50,h69,h70,h71,h75,h76,h77]
   refine SKP Z<|ON Z Z Z<|PF Z Z Z Z<|PF Z Z Z Z<|AS Z Z<|ND<|RT Tryz.func10 Z Z<|?_
   simp [isStream,isStreamW,h1,h2,h3,h4,h5,h6,h7,h8,h48,h49,h50,h69,h70,h71,h75,h76,h77]
  refine SKP Z<|ON Z Z Z<|PF Z Z Z Z<|ON Z Z Z<|MV Z Z<|SKP Z<|ON Z Z Z<|PF Z Z Z Z<|PF Z Z Z Z<|AS Z Z<|ND<|RT Tryz.func10 Z Z<|?_
  simp [isStream,isStreamW,h1,h2,h3,h4,h5,h6,h7,h8,h48,h49,h50,h69,h70,h71,h75,h76]
 refine SKP Z<|ON Z Z Z<|PF Z Z Z Z<|PF Z Z Z Z<|MV Z Z<|ON Z Z Z<|FA Z tyF_impl_Stream_12 Z<|ON Z Z Z<|LD (i:=0) Z tyP_int Z Z Z<|ON Z Z Z<|rw_neq Z Z Z<|ON Z Z Z<|MV Z Z<|?_
 refine rw_caseN (j:=93) Z (fun h78=>?_) (fun h78=>?_)
 ·refine ON Z Z Z<|FA Z tyF_impl_Stream_11 Z<|ON Z Z Z<|LD (i:=0) Z tyP_bool Z Z Z<|ON Z Z Z<|NT Z Z<|ON Z Z Z<|PT Z Z Z Z<|PF Z Z Z Z<|AS Z Z<|ND<|?_
  refine gw_condN Z (fun h79=>?_) (fun h79=>?_)
  ·refine SQ<|RG<|AS Z Z<|ND<|RT Tryz.func10 Z Z<|?_
   simp [isStream,isStreamW,h1,h2,h3,h4,h5,h6,h7,h8,h48,h49,h50,h69,h78,h79]
  refine SQ<|RG<|FA Z tyF_impl_Stream_6 Z<|LD (i:=0) Z tyP_bool Z Z Z<|NT Z Z<|MV Z Z<|rw_lit (j:=103) Z (not_T h8)<|SKP Z<|PF Z Z Z Z<|AS Z Z<|ND<|CF Z Z<|SK<|IB<|SQ<|RG<|FA Z tyF_impl_Stream_7 Z<|LD (i:=0) Z tyP_bool Z Z Z<|MV Z Z<|?_
  refine rw_caseL (j:=124) Z (fun h80=>?_) (fun h80=>?_)
  ·refine SKP Z<|PT Z Z Z Z<|AS Z Z<|ND<|RT Tryz.func10 Z Z<|?_
   simp [isStream,isStreamW,h1,h2,h3,h4,h5,h6,h7,h8,h48,h49,h50,h69,h78,h79,h80]
  refine ON Z Z Z<|FA Z tyF_impl_Stream_3 Z<|ON Z Z Z<|FA Z tyF_impl_Receiver_0 Z<|ON Z Z Z<|LD (i:=0) Z tyP_int Z Z Z<|ON Z Z Z<|EQ1 Z Z Z<|ON Z Z Z<|MV Z Z<|?_
  refine rw_caseL (j:=129) Z (fun h81=>?_) (fun h81=>?_)
  ·refine ON Z Z Z<|FA Z tyF_impl_Stream_3 Z<|ON Z Z Z<|FA Z tyF_impl_Receiver_3 Z<|ON Z Z Z<|LD (i:=0) Z tyP_int Z Z Z<|ON Z Z Z<|EQ1 Z Z Z<|ON Z Z Z<|PT Z Z Z Z<|ON Z Z Z<|MV Z Z<|?_
   refine rw_caseL (j:=135) Z (fun h82=>?_) (fun h82=>?_)
   ·refine ON Z Z Z<|FA Z tyF_impl_Stream_11 Z<|ON Z Z Z<|LD (i:=0) Z tyP_bool Z Z Z<|ON Z Z Z<|NT Z Z<|ON Z Z Z<|PT Z Z Z Z<|PF Z Z Z Z<|AS Z Z<|ND<|RT Tryz.func10 Z Z<|?_
    simp [isStream,isStreamW,h1,h2,h3,h4,h5,h6,h7,h8,h48,h49,h50,h69,h78,h79,h80,h81,h82]
   refine SKP Z<|ON Z Z Z<|PF Z Z Z Z<|PF Z Z Z Z<|AS Z Z<|ND<|RT Tryz.func10 Z Z<|?_
   simp [isStream,isStreamW,h1,h2,h3,h4,h5,h6,h7,h8,h48,h49,h50,h69,h78,h79,h80,h81,h82]
  refine SKP Z<|ON Z Z Z<|PF Z Z Z Z<|ON Z Z Z<|MV Z Z<|SKP Z<|ON Z Z Z<|PF Z Z Z Z<|PF Z Z Z Z<|AS Z Z<|ND<|RT Tryz.func10 Z Z<|?_
  simp [isStream,isStreamW,h1,h2,h3,h4,h5,h6,h7,h8,h48,h49,h50,h69,h78,h79,h80,h81]
 refine SKP Z<|ON Z Z Z<|PF Z Z Z Z<|PF Z Z Z Z<|AS Z Z<|ND<|CF Z Z<|SQ<|RG<|FA Z tyF_impl_Stream_6 Z<|LD (i:=0) Z tyP_bool Z Z Z<|NT Z Z<|MV Z Z<|rw_lit (j:=103) Z (not_T h8)<|SKP Z<|PF Z Z Z Z<|AS Z Z<|ND<|CF Z Z<|SK<|IB<|SQ<|RG<|FA Z tyF_impl_Stream_7 Z<|LD (i:=0) Z tyP_bool Z Z Z<|MV Z Z<|?_
 refine rw_caseL (j:=124) Z (fun h83=>?_) (fun h83=>?_)
 ·refine SKP Z<|PT Z Z Z Z<|AS Z Z<|ND<|RT Tryz.func10 Z Z<|?_
  simp [isStream,isStreamW,h1,h2,h3,h4,h5,h6,h7,h8,h48,h49,h50,h69,h78,h83]
 refine ON Z Z Z<|FA Z tyF_impl_Stream_3 Z<|ON Z Z Z<|FA Z tyF_impl_Receiver_0 Z<|ON Z Z Z<|LD (i:=0) Z tyP_int Z Z Z<|ON Z Z Z<|EQ1 Z Z Z<|ON Z Z Z<|MV Z Z<|?_
 refine rw_caseL (j:=129) Z (fun h84=>?_) (fun h84=>?_)
 ·refine ON Z Z Z<|FA Z tyF_impl_Stream_3 Z<|ON Z Z Z<|FA Z tyF_impl_Receiver_3 Z<|ON Z Z Z<|LD (i:=0) Z tyP_int Z Z Z<|ON Z Z Z<|EQ1 Z Z Z<|ON Z Z Z<|PT Z Z Z Z<|ON Z Z Z<|MV Z Z<|?_
  refine rw_caseL (j:=135) Z (fun h85=>?_) (fun h85=>?_)
  ·refine ON Z Z Z<|FA Z tyF_impl_Stream_11 Z<|ON Z Z Z<|LD (i:=0) Z tyP_bool Z Z Z<|ON Z Z Z<|NT Z Z<|ON Z Z Z<|PT Z Z Z Z<|PF Z Z Z Z<|AS Z Z<|ND<|RT Tryz.func10 Z Z<|?_
   simp [isStream,isStreamW,h1,h2,h3,h4,h5,h6,h7,h8,h48,h49,h50,h69,h78,h83,h84,h85]
  refine SKP Z<|ON Z Z Z<|PF Z Z Z Z<|PF Z Z Z Z<|AS Z Z<|ND<|RT Tryz.func10 Z Z<|?_
  simp [isStream,isStreamW,h1,h2,h3,h4,h5,h6,h7,h8,h48,h49,h50,h69,h78,h83,h84,h85]
 refine SKP Z<|ON Z Z Z<|PF Z Z Z Z<|ON Z Z Z<|MV Z Z<|SKP Z<|ON Z Z Z<|PF Z Z Z Z<|PF Z Z Z Z<|AS Z Z<|ND<|RT Tryz.func10 Z Z<|?_
 simp [isStream,isStreamW,h1,h2,h3,h4,h5,h6,h7,h8,h48,h49,h50,h69,h78,h83,h84]
theorem impl_IsSendOver {w : World} {cs : List Value} {x : Stream} (hv : RdStream w cs x)  : CV Tryz.prog 17 [.agg cs.toArray] w (.bool (isSendOver x)) := by
 obtain ⟨v0,v1,v2,v3,v4,rfl,k0,k1,k2,k3,k4⟩:=hv
 obtain ⟨A0,c0,rfl,hA0⟩:=k0
 obtain ⟨A1,c1,rfl,hA1⟩:=k1
 obtain ⟨A2,c2,rfl,hA2⟩:=k2
 obtain ⟨A3,c3,rfl,hA3⟩:=k3
 obtain ⟨A4,c4,rfl,hA4⟩:=k4
 refine cv_of Tryz.func17 Z Z Z<|SQ<|RG<|BX [_,_,_,_,_,_,_,_,_,_,_,_,_,_,_,_,_,_,_,_,_,_,_,_,_,_,_,_,_,_,_,_,_,_,_,_,_,_,_] Z Z Z<|fun b1=>AS Z Z<|ND<|SQ<|RG<|FA Z tyF_impl_Stream_6 Z<|LD (i:=0) Z tyP_bool Z Z Z<|NT Z Z<|MV Z Z<|?_
 refine rw_caseN (j:=6) Z (fun h1=>?_) (fun h1=>?_)
 ·refine SKP Z<|PT Z Z Z Z<|MV Z Z<|SKP Z<|PT Z Z Z Z<|AS Z Z<|ND<|RT Tryz.func17 Z Z<|?_
  simp [isSendOver,h1]
 refine ON Z Z Z<|FA Z tyF_impl_Stream_1 Z<|ON Z Z Z<|FA Z tyF_impl_Sender_0 Z<|ON Z Z Z<|LD (i:=0) Z tyP_int Z Z Z<|ON Z Z Z<|EQ1 Z Z Z<|PF Z Z Z Z<|MV Z Z<|?_
 refine rw_caseL (j:=12) Z (fun h2=>?_) (fun h2=>?_)
 ·refine SKP Z<|PT Z Z Z Z<|AS Z Z<|ND<|RT Tryz.func17 Z Z<|?_
  simp [isSendOver,h1,h2]
 refine ON Z Z Z<|FA Z tyF_impl_Stream_1 Z<|ON Z Z Z<|FA Z tyF_impl_Sender_0 Z<|ON Z Z Z<|LD (i:=0) Z tyP_int Z Z Z<|ON Z Z Z<|EQ1 Z Z Z<|PF Z Z Z Z<|AS Z Z<|ND<|RT Tryz.func17 Z Z<|?_
 simp [isSendOver,h1,h2]
theorem impl_IsReceived {w : World} {cs : List Value} {x : Receiver} (hv : RdReceiver w cs x) (hb : x.le 1048576) : CV Tryz.prog 84 [.agg cs.toArray] w (.bool (isReceived x)) := by
 obtain ⟨v0,rfl,k0⟩:=hv
 obtain ⟨A0,c0,rfl,hA0⟩:=k0
 obtain ⟨hb0,hb1⟩:=hb
 refine cv_of Tryz.func84 Z Z Z<|SQ<|RG<|BX [_,_,_,_,_,_] Z Z Z<|fun b1=>AS Z Z<|ND<|SQ<|RG<|LS (i:=0) [_,_,_,_,_,_] Z tyS_impl_Receiver Z Z Z Z<|CV1 Z fun_impl_IsReceiver Z (fun w hs=>impl_IsReceiver ⟨_,Z,(hA0.s Pl.keeps hs)⟩ ⟨hb0,hb1⟩)<|MV Z Z<|?_
 refine rw_caseL (j:=5) Z (fun h1=>?_) (fun h1=>?_)
 ·refine ON Z Z Z<|FA Z tyF_impl_Receiver_0 Z<|ON Z Z Z<|LD (i:=0) Z tyP_int Z Z Z<|ON Z Z Z<|EQ1 Z Z Z<|ON Z Z Z<|MV Z Z<|?_
  refine rw_caseL (j:=9) Z (fun h2=>?_) (fun h2=>?_)
  ·refine SKP Z<|ON Z Z Z<|PT Z Z Z Z<|PT Z Z Z Z<|AS Z Z<|ND<|RT Tryz.func84 Z Z<|?_
   simp [isReceived,h1,h2]
  refine ON Z Z Z<|FA Z tyF_impl_Receiver_0 Z<|ON Z Z Z<|LD (i:=0) Z tyP_int Z Z Z<|ON Z Z Z<|EQ1 Z Z Z<|ON Z Z Z<|PF Z Z Z Z<|PT Z Z Z Z<|AS Z Z<|ND<|RT Tryz.func84 Z Z<|?_
  simp [isReceived,h1,h2]
 refine SKP Z<|PF Z Z Z Z<|AS Z Z<|ND<|RT Tryz.func84 Z Z<|?_
 simp [isReceived,h1]
theorem impl_IsRecvOver {w : World} {cs : List Value} {x : Stream} (hv : RdStream w cs x) (hb : x.le 1048576) : CV Tryz.prog 19 [.agg cs.toArray] w (.bool (isRecvOver x)) := by
 obtain ⟨v0,v1,v2,v3,v4,rfl,k0,k1,k2,k3,k4⟩:=hv
 obtain ⟨A0,c0,rfl,hA0⟩:=k0
 obtain ⟨A1,c1,rfl,hA1⟩:=k1
 obtain ⟨A2,c2,rfl,hA2⟩:=k2
 obtain ⟨A3,c3,rfl,hA3⟩:=k3
 obtain ⟨A4,c4,rfl,hA4⟩:=k4
 obtain ⟨hb0,hb1,hb2,hb3,hb4,hb5⟩:=hb
 refine cv_of Tryz.func19 Z Z Z<|SQ<|RG<|BX [_,_,_,_,_,_,_,_,_,_,_,_,_,_,_,_,_,_,_,_,_,_,_,_,_,_,_,_,_,_,_,_,_,_,_,_,_,_,_] Z Z Z<|fun b1=>AS Z Z<|ND<|SQ<|RG<|FA Z tyF_impl_Stream_7 Z<|LD (i:=0) Z tyP_bool Z Z Z<|NT Z Z<|MV Z Z<|?_
 refine rw_caseN (j:=6) Z (fun h1=>?_) (fun h1=>?_)
 ·refine SKP Z<|PT Z Z Z Z<|AS Z Z<|ND<|RT Tryz.func19 Z Z<|?_
  simp [isRecvOver,h1]
 refine ON Z Z Z<|FA Z tyF_impl_Stream_3 Z<|ON Z Z Z<|LS (i:=0) [_,_,_,_,_,_] Z tyS_impl_Receiver Z Z Z Z<|ON Z Z Z<|CV1 Z fun_impl_IsReceived Z (fun w hs=>impl_IsReceived ⟨_,Z,(hA4.s Pl.keeps hs)⟩ ⟨hb4,hb5⟩)<|PF Z Z Z Z<|AS Z Z<|ND<|RT Tryz.func19 Z Z<|?_
 simp [isRecvOver,h1]
theorem impl_IsOver {w : World} {cs : List Value} {x : Stream} (hv : RdStream w cs x) (hb : x.le 1048576) : CV Tryz.prog 11 [.agg cs.toArray] w (.bool (isOver x)) := by
 obtain ⟨v0,v1,v2,v3,v4,rfl,k0,k1,k2,k3,k4⟩:=hv
 obtain ⟨A0,c0,rfl,hA0⟩:=k0
 obtain ⟨A1,c1,rfl,hA1⟩:=k1
 obtain ⟨A2,c2,rfl,hA2⟩:=k2
 obtain ⟨A3,c3,rfl,hA3⟩:=k3
 obtain ⟨A4,c4,rfl,hA4⟩:=k4
 obtain ⟨hb0,hb1,hb2,hb3,hb4,hb5⟩:=hb
 refine cv_of Tryz.func11 Z Z Z<|SQ<|RG<|BX [_,_,_,_,_,_,_,_,_,_,_,_,_,_,_,_,_,_,_,_,_,_,_,_,_,_,_,_,_,_,_,_,_,_,_,_,_,_,_] Z Z Z<|fun b1=>AS Z Z<|ND<|SQ<|RG<|LS (i:=0) [_,_,_,_,_,_,_,_,_,_,_,_,_,_,_,_,_,_,_,_,_,_,_,_,_,_,_,_,_,_,_,_,_,_,_,_,_,_,_] Z tyS_impl_Stream Z Z Z Z<|CV1 Z fun_impl_IsStream Z (fun w hs=>impl_IsStream ⟨_,_,_,_,_,Z,(hA0.s Pl.keeps hs),(hA1.s Pl.keeps hs),(hA2.s Pl.keeps hs),(hA3.s Pl.keeps hs),(hA4.s Pl.keeps hs)⟩ ⟨hb0,hb1,hb2,hb3,hb4,hb5⟩)<|?_
 refine MV Z Z<|?_
 refine rw_caseL (j:=5) Z (fun h1=>?_) (fun h1=>?_)
 ·refine ON Z Z Z<|LS (i:=0) [_,_,_,_,_,_,_,_,_,_,_,_,_,_,_,_,_,_,_,_,_,_,_,_,_,_,_,_,_,_,_,_,_,_,_,_,_,_,_] Z tyS_impl_Stream Z Z Z Z<|ON Z Z Z<|CV1 Z fun_impl_IsSendOver Z (fun w hs=>impl_IsSendOver ⟨_,_,_,_,_,Z,(hA0.s Pl.keeps hs),(hA1.s Pl.keeps hs),(hA2.s Pl.keeps hs),(hA3.s Pl.keeps hs),(hA4.s Pl.keeps hs)⟩)<|PT Z Z Z Z<|MV Z Z<|?_
  refine rw_caseL (j:=9) Z (fun h2=>?_) (fun h2=>?_)
  ·refine ON Z Z Z<|LS (i:=0) [_,_,_,_,_,_,_,_,_,_,_,_,_,_,_,_,_,_,_,_,_,_,_,_,_,_,_,_,_,_,_,_,_,_,_,_,_,_,_] Z tyS_impl_Stream Z Z Z Z<|ON Z Z Z<|CV1 Z fun_impl_IsRecvOver Z (fun w hs=>impl_IsRecvOver ⟨_,_,_,_,_,Z,(hA0.s Pl.keeps hs),(hA1.s Pl.keeps hs),(hA2.s Pl.keeps hs),(hA3.s Pl.keeps hs),(hA4.s Pl.keeps hs)⟩ ⟨hb0,hb1,hb2,hb3,hb4,hb5⟩)<|PT Z Z Z Z<|AS Z Z<|ND<|RT Tryz.func11 Z Z<|?_
   simp [isOver,h1,h2]
  refine SKP Z<|PF Z Z Z Z<|AS Z Z<|ND<|RT Tryz.func11 Z Z<|?_
  simp [isOver,h1,h2]
 refine SKP Z<|PF Z Z Z Z<|MV Z Z<|SKP Z<|PF Z Z Z Z<|AS Z Z<|ND<|RT Tryz.func11 Z Z<|?_
 simp [isOver,h1]
theorem impl_flags {w : World} {cs : List Value} {x : Stream} (hv : RdStream w cs x)  : CV Tryz.prog 91 [.agg cs.toArray] w (.agg [.bool x.canSend, .bool x.canRecv, .bool x.tellReset, .bool x.tellStop, .bool x.tellMost, .bool x.stopped, .bool x.counted].toArray) := by
 obtain ⟨v0,v1,v2,v3,v4,rfl,k0,k1,k2,k3,k4⟩:=hv
 obtain ⟨A0,c0,rfl,hA0⟩:=k0
 obtain ⟨A1,c1,rfl,hA1⟩:=k1
 obtain ⟨A2,c2,rfl,hA2⟩:=k2
 obtain ⟨A3,c3,rfl,hA3⟩:=k3
 obtain ⟨A4,c4,rfl,hA4⟩:=k4
 refine cv_of Tryz.func91 Z Z Z<|SQ<|RG<|BX [_,_,_,_,_,_,_,_,_,_,_,_,_,_,_,_,_,_,_,_,_,_,_,_,_,_,_,_,_,_,_,_,_,_,_,_,_,_,_] Z Z Z<|fun b1=>AL Z tyZ_7_bool<|fun b2=>ND<|SQ<|RG<|FA Z tyF_impl_Stream_6 Z<|LD (i:=1) Z tyP_bool Z Z Z<|FA Z tyF_impl_Stream_7 Z<|LD (i:=1) Z tyP_bool Z Z Z<|FA Z tyF_impl_Stream_8 Z<|LD (i:=1) Z tyP_bool Z Z Z<|FA Z tyF_impl_Stream_9 Z<|?_
 refine LD (i:=1) Z tyP_bool Z Z Z<|FA Z tyF_impl_Stream_10 Z<|LD (i:=1) Z tyP_bool Z Z Z<|FA Z tyF_impl_Stream_11 Z<|LD (i:=1) Z tyP_bool Z Z Z<|FA Z tyF_impl_Stream_13 Z<|LD (i:=1) Z tyP_bool Z Z Z<|rw_buildA [_,_,_,_,_,_,_] Z tyA_7_bool tyZ_7_bool Z Z<|ST (i:=0) [_,_,_,_,_,_,_] [_,_,_,_,_,_,_] tyS_7_bool.sz Z Z Z Z Z Z Z Z<|ND<|ret_cv Tryz.func91 (res1 Tryz.func91 Z (rv_s (i:=0) [_,_,_,_,_,_,_] tyS_7_bool Z Z Z Z))<|?_
 rfl
theorem slices_Equal_Int {w : World} {v : Value} {l : List Int} (hv : RdS w 1 (Pl intC) v l) (hb : l.length ≤ 1048576) {v1 : Value} {l1 : List Int} (hv1 : RdS w 1 (Pl intC) v1 l1) : CV Tryz.prog 168 [v, v1] w (.bool (eqL intC l l1)) := by
 obtain ⟨A,c,rfl,hA⟩:=hv
 obtain ⟨A1,c1,rfl,hA1⟩:=hv1
 refine cv_of Tryz.func168 Z Z Z<|SQ<|RG<|AS Z Z<|ND<|SQ<|SQ<|RG<|MV Z Z<|rw_len Z tyE_S_int Z<|MV Z Z<|rw_len Z tyE_S_int Z<|rw_neq Z Z Z<|ND<|?_
 refine gw_condN Z (fun h1=>?_) (fun h1=>?_)
 ·have hlne1:=len_ne_of h1
  refine SQ<|RG<|AS Z Z<|ND<|RT Tryz.func168 Z Z<|?_
  simp [eqL_len _ _ _ hlne1]
 have hlen2:=len_eq_of h1
 refine SK<|SQ<|SQ<|RG<|MV Z Z<|rw_len Z tyE_S_int Z<|MV Z Z<|ND<|BK<|?_
 refine gw_loopC (α:=Nat) (fun z_=>z_ ≤ l.length ∧ eqL intC l l1 = eqL intC (l.drop z_) (l1.drop z_)) (fun z_=>l.length - z_) (fun e z_=>(13,.int .i64 (z_ : Int)) :: e) 0 [(0,_),(1,_),(12,_)] (Sub.consE Z Z (Sub.cons (i:=0) Z (Sub.cons (i:=1) Z (Sub.cons (i:=12) Z (Sub.nil _))))) ?_ ?_
 ·exact ⟨Nat.zero_le _,by simp [List.drop_zero]⟩
 ·rintro i hI3 ih3
  try dsimp only
  obtain ⟨hle,hI⟩:=hI3
  refine SQ<|RG<|rw_lss Z Z Z<|ND<|SQ<|?_
  refine gw_cond Z (fun h2=>?_) (fun h2=>?_)
  ·have hi4:=lt_of_dec h2
   obtain ⟨x5,hx5⟩:=get_of_lt hi4
   have hd5:=drop_cons hx5
   refine SK<|SQ<|BK<|SQ<|RG<|MV Z Z<|AS Z Z<|ND<|SQ<|gw_draw' [dd 0,dd 1,dd 2,dd 3,dd 4,dd 5,dd 6,dd 7] [8] mixed Z (FD Z) (ts:=[_]) Z<|DM Z Z Z<|DM Z Z Z<|?_
   have hq6:=hA.plain hx5
   refine DT Z Z (fun _ q=>rw_indexAddr (i) Z tyE_S_int Z Z Z (hA.some hi4) hi4 q)<|DT Z Z (fun _ q=>rw_loadX _ Z tyP_int Z (fun w hs=>hq6.ld0 hs Z) q)<|DM Z Z Z<|DM Z Z Z<|?_
   have hi7 : i < l1.length:=by omega
   obtain ⟨x8,hx8⟩:=get_of_lt hi7
   have hd8:=drop_cons hx8
   have hq9:=hA1.plain hx8
   refine DT Z Z (fun _ q=>rw_indexAddr (i) Z tyE_S_int Z Z Z (hA1.some hi7) hi7 q)<|DT Z Z (fun _ q=>rw_loadX _ Z tyP_int Z (fun w hs=>hq9.ld0 hs Z) q)<|dw_nil<|rw_neq Z Z Z<|ND<|?_
   refine gw_condN Z (fun h3=>?_) (fun h3=>?_)
   ·refine SQ<|RG<|AS Z Z<|ND<|RT Tryz.func168 Z Z<|?_
    rw [hI,hd5,hd8]; simp [eqL,eqC_int,h3]
   refine SK<|IB<|RG<|rw_add Z Z Z<|MV Z Z<|ND<|?_
   refine gw_sub (Sub.consE (i:=13) Z (int_succ (by omega)) (Sub.cons (i:=0) Z (Sub.cons (i:=1) Z (Sub.cons (i:=12) Z (Sub.nil _))))) (ih3 (i + 1) ?_ ?_)
   ·exact ⟨by omega,by rw [hI,hd5,hd8]; simp [eqL,eqC_int,h3]⟩
   ·show l.length - (i + 1) < l.length - i; omega
  have hn10:=nil_of_dec h2
  refine EX Z<|SQ<|RG<|AS Z Z<|ND<|RT Tryz.func168 Z Z<|?_
  rw [hI,hn10,drop_nil_of hlen2 hn10]; rfl
theorem impl_EqualRings {w : World} {cs : List Value} {x : Ring} (hv : RdRing w cs x) (hb : x.le 1048576) {cs1_ : List Value} {y : Ring} (hv1_ : RdRing w cs1_ y) : CV Tryz.prog 143 [.agg cs.toArray, .agg cs1_.toArray] w (.bool (eqRings x y)) := by
 obtain ⟨v0,rfl,k0⟩:=hv
 obtain ⟨A0,c0,rfl,hA0⟩:=k0
 have hb0 : x.cells.length ≤ 1048576:=hb
 obtain ⟨v1_0,rfl,k1_0⟩:=hv1_
 obtain ⟨A1_0,c1_0,rfl,hA1_0⟩:=k1_0
 refine cv_of Tryz.func143 Z Z Z<|SQ<|RG<|BX [_,_,_,_] Z Z Z<|fun b1=>BX [_,_,_,_] Z Z Z<|fun b2=>AS Z Z<|ND<|SQ<|RG<|FA Z tyF_impl_Ring_0 Z<|LD (i:=1) Z tyP_int Z Z Z<|FA Z tyF_impl_Ring_0 Z<|LD (i:=0) Z tyP_int Z Z Z<|EQ1 Z Z Z<|MV Z Z<|?_
 refine rw_caseL (j:=10) Z (fun h1=>?_) (fun h1=>?_)
 ·refine ON Z Z Z<|FA Z tyF_impl_Ring_1 Z<|ON Z Z Z<|LD (i:=1) Z tyP_int Z Z Z<|ON Z Z Z<|FA Z tyF_impl_Ring_1 Z<|ON Z Z Z<|LD (i:=0) Z tyP_int Z Z Z<|ON Z Z Z<|EQ1 Z Z Z<|PT Z Z Z Z<|MV Z Z<|?_
  refine rw_caseL (j:=17) Z (fun h2=>?_) (fun h2=>?_)
  ·refine ON Z Z Z<|FA Z tyF_impl_Ring_2 Z<|ON Z Z Z<|LD (i:=1) Z tyP_int Z Z Z<|ON Z Z Z<|FA Z tyF_impl_Ring_2 Z<|ON Z Z Z<|LD (i:=0) Z tyP_int Z Z Z<|ON Z Z Z<|EQ1 Z Z Z<|PT Z Z Z Z<|MV Z Z<|?_
   refine rw_caseL (j:=24) Z (fun h3=>?_) (fun h3=>?_)
   ·refine ON Z Z Z<|FA Z tyF_impl_Ring_3 Z<|ON Z Z Z<|LD (i:=1) Z tyP_S_int Z Z Z<|ON Z Z Z<|FA Z tyF_impl_Ring_3 Z<|ON Z Z Z<|LD (i:=0) Z tyP_S_int Z Z Z<|ON Z Z Z<|CV1 Z fun_slices_Equal_S_int_int Z (fun w hs=>slices_Equal_Int (hA0.s Pl.keeps hs) (by omega) (hA1_0.s Pl.keeps hs) )<|PT Z Z Z Z<|AS Z Z<|ND<|RT Tryz.func143 Z Z<|?_
    simp [eqRings,h1,h2,h3]
   refine SKP Z<|PF Z Z Z Z<|AS Z Z<|ND<|RT Tryz.func143 Z Z<|?_
   simp [eqRings,h1,h2,h3]
  refine SKP Z<|PF Z Z Z Z<|MV Z Z<|SKP Z<|PF Z Z Z Z<|AS Z Z<|ND<|RT Tryz.func143 Z Z<|?_
  simp [eqRings,h1,h2]
 refine SKP Z<|PF Z Z Z Z<|MV Z Z<|SKP Z<|PF Z Z Z Z<|MV Z Z<|SKP Z<|PF Z Z Z Z<|AS Z Z<|ND<|RT Tryz.func143 Z Z<|?_
 simp [eqRings,h1]
theorem slices_Equal_Range {w : World} {v : Value} {l : List Range} (hv : RdS w 2 (Pl Range.cells) v l) (hb : l.length ≤ 1048576) {v1 : Value} {l1 : List Range} (hv1 : RdS w 2 (Pl Range.cells) v1 l1) : CV Tryz.prog 169 [v, v1] w (.bool (eqL Range.cells l l1)) := by
 obtain ⟨A,c,rfl,hA⟩:=hv
 obtain ⟨A1,c1,rfl,hA1⟩:=hv1
 refine cv_of Tryz.func169 Z Z Z<|SQ<|RG<|AS Z Z<|ND<|SQ<|SQ<|RG<|MV Z Z<|rw_len Z tyE_S_impl_Range Z<|MV Z Z<|rw_len Z tyE_S_impl_Range Z<|rw_neq Z Z Z<|ND<|?_
 refine gw_condN Z (fun h1=>?_) (fun h1=>?_)
 ·have hlne1:=len_ne_of h1
  refine SQ<|RG<|AS Z Z<|ND<|RT Tryz.func169 Z Z<|?_
  simp [eqL_len _ _ _ hlne1]
 have hlen2:=len_eq_of h1
 refine SK<|SQ<|SQ<|RG<|MV Z Z<|rw_len Z tyE_S_impl_Range Z<|MV Z Z<|ND<|BK<|?_
 refine gw_loopC (α:=Nat) (fun z_=>z_ ≤ l.length ∧ eqL Range.cells l l1 = eqL Range.cells (l.drop z_) (l1.drop z_)) (fun z_=>l.length - z_) (fun e z_=>(13,.int .i64 (z_ : Int)) :: e) 0 [(0,_),(1,_),(12,_)] (Sub.consE Z Z (Sub.cons (i:=0) Z (Sub.cons (i:=1) Z (Sub.cons (i:=12) Z (Sub.nil _))))) ?_ ?_
 ·exact ⟨Nat.zero_le _,by simp [List.drop_zero]⟩
 ·rintro i hI3 ih3
  try dsimp only
  obtain ⟨hle,hI⟩:=hI3
  refine SQ<|RG<|rw_lss Z Z Z<|ND<|SQ<|?_
  refine gw_cond Z (fun h2=>?_) (fun h2=>?_)
  ·have hi4:=lt_of_dec h2
   obtain ⟨x5,hx5⟩:=get_of_lt hi4
   have hd5:=drop_cons hx5
   refine SK<|SQ<|BK<|SQ<|RG<|MV Z Z<|AS Z Z<|ND<|SQ<|gw_draw' [dd 0,dd 1,dd 2,dd 3,dd 4,dd 5,dd 6,dd 7] [8] mixed Z (FD Z) (ts:=[_]) Z<|DM Z Z Z<|DM Z Z Z<|?_
   have hq6:=hA.plain hx5
   refine DT Z Z (fun _ q=>rw_indexAddr (i) Z tyE_S_impl_Range Z Z Z (hA.some hi4) hi4 q)<|DT Z Z (fun _ q=>rw_loadX_s [_,_] Z tyS_impl_Range Z Z (fun w hs=>hq6.lds0 (n:=2) hs Z) q)<|DM Z Z Z<|DM Z Z Z<|?_
   have hi7 : i < l1.length:=by omega
   obtain ⟨x8,hx8⟩:=get_of_lt hi7
   have hd8:=drop_cons hx8
   have hq9:=hA1.plain hx8
   refine DT Z Z (fun _ q=>rw_indexAddr (i) Z tyE_S_impl_Range Z Z Z (hA1.some hi7) hi7 q)<|DT Z Z (fun _ q=>rw_loadX_s [_,_] Z tyS_impl_Range Z Z (fun w hs=>hq9.lds0 (n:=2) hs Z) q)<|dw_nil<|rw_neqQ Z tyQ_impl_Range Z Z Z Z<|ND<|?_
   refine gw_condN Z (fun h3=>?_) (fun h3=>?_)
   ·refine SQ<|RG<|AS Z Z<|ND<|RT Tryz.func169 Z Z<|?_
    rw [hI,hd5,hd8]; simp [eqL,show eqC (Range.cells x5) (Range.cells x8) = false from h3]
   refine SK<|IB<|RG<|rw_add Z Z Z<|MV Z Z<|ND<|?_
   refine gw_sub (Sub.consE (i:=13) Z (int_succ (by omega)) (Sub.cons (i:=0) Z (Sub.cons (i:=1) Z (Sub.cons (i:=12) Z (Sub.nil _))))) (ih3 (i + 1) ?_ ?_)
   ·exact ⟨by omega,by rw [hI,hd5,hd8]; simp [eqL,show eqC (Range.cells x5) (Range.cells x8) = true from h3]⟩
   ·show l.length - (i + 1) < l.length - i; omega
  have hn10:=nil_of_dec h2
  refine EX Z<|SQ<|RG<|AS Z Z<|ND<|RT Tryz.func169 Z Z<|?_
  rw [hI,hn10,drop_nil_of hlen2 hn10]; rfl
theorem impl_EqualRanges {w : World} {v : Value} {l : List Range} (hv : RdS w 2 (Pl Range.cells) v l) (hb : l.length ≤ 1048576) {v1 : Value} {l1 : List Range} (hv1 : RdS w 2 (Pl Range.cells) v1 l1) : CV Tryz.prog 144 [v, v1] w (.bool (eqL Range.cells l l1)) := by
 obtain ⟨A,c,rfl,hA⟩:=hv
 obtain ⟨A1,c1,rfl,hA1⟩:=hv1
 refine cv_of Tryz.func144 Z Z Z<|SQ<|RG<|AS Z Z<|ND<|SQ<|RG<|MV Z Z<|MV Z Z<|CV1 Z fun_slices_Equal_S_impl_Range_impl_Range Z (fun w hs=>slices_Equal_Range (hA.s Pl.keeps hs) (by omega) (hA1.s Pl.keeps hs) )<|AS Z Z<|ND<|RT Tryz.func144 Z Z<|?_
 rfl
set_option maxRecDepth 20000 in
theorem impl_EqualSenders {w : World} {cs : List Value} {x : Sender} (hv : RdSender w cs x) (hb : x.le 1048576) {cs1_ : List Value} {y : Sender} (hv1_ : RdSender w cs1_ y) : CV Tryz.prog 92 [.agg cs.toArray, .agg cs1_.toArray] w (.bool (eqSenders x y)) := by
 obtain ⟨v0,v1,v2,v3,rfl,k0,k1,k2,k3⟩:=hv
 obtain ⟨A0,c0,rfl,hA0⟩:=k0
 obtain ⟨A1,c1,rfl,hA1⟩:=k1
 obtain ⟨A2,c2,rfl,hA2⟩:=k2
 obtain ⟨A3,c3,rfl,hA3⟩:=k3
 obtain ⟨hb0,hb1,hb2,hb3⟩:=hb
 obtain ⟨v1_0,v1_1,v1_2,v1_3,rfl,k1_0,k1_1,k1_2,k1_3⟩:=hv1_
 obtain ⟨A1_0,c1_0,rfl,hA1_0⟩:=k1_0
 obtain ⟨A1_1,c1_1,rfl,hA1_1⟩:=k1_1
 obtain ⟨A1_2,c1_2,rfl,hA1_2⟩:=k1_2
 obtain ⟨A1_3,c1_3,rfl,hA1_3⟩:=k1_3
 refine cv_of Tryz.func92 Z Z Z<|SQ<|RG<|BX [_,_,_,_,_,_,_,_,_,_,_,_] Z Z Z<|fun b1=>BX [_,_,_,_,_,_,_,_,_,_,_,_] Z Z Z<|fun b2=>AS Z Z<|ND<|SQ<|RG<|FA Z tyF_impl_Sender_0 Z<|LD (i:=1) Z tyP_int Z Z Z<|FA Z tyF_impl_Sender_0 Z<|LD (i:=0) Z tyP_int Z Z Z<|EQ1 Z Z Z<|MV Z Z<|?_
 refine rw_caseL (j:=10) Z (fun h1=>?_) (fun h1=>?_)
 ·refine ON Z Z Z<|FA Z tyF_impl_Sender_1 Z<|ON Z Z Z<|LS (i:=1) [_,_,_,_] Z tyS_impl_Ring Z Z Z Z<|ON Z Z Z<|FA Z tyF_impl_Sender_1 Z<|ON Z Z Z<|LS (i:=0) [_,_,_,_] Z tyS_impl_Ring Z Z Z Z<|ON Z Z Z<|CV1 Z fun_impl_EqualRings Z (fun w hs=>impl_EqualRings ⟨_,Z,(hA0.s Pl.keeps hs)⟩ (show _ ≤ _ from hb0) ⟨_,Z,(hA1_0.s Pl.keeps hs)⟩)<|PT Z Z Z Z<|MV Z Z<|?_
  refine rw_caseL (j:=17) Z (fun h2=>?_) (fun h2=>?_)
  ·refine ON Z Z Z<|FA Z tyF_impl_Sender_2 Z<|ON Z Z Z<|LD (i:=1) Z tyP_S_impl_Range Z Z Z<|ON Z Z Z<|FA Z tyF_impl_Sender_2 Z<|ON Z Z Z<|LD (i:=0) Z tyP_S_impl_Range Z Z Z<|ON Z Z Z<|CV1 Z fun_impl_EqualRanges Z (fun w hs=>impl_EqualRanges (hA1.s Pl.keeps hs) (by omega) (hA1_1.s Pl.keeps hs) )<|PT Z Z Z Z<|MV Z Z<|?_
   refine rw_caseL (j:=24) Z (fun h3=>?_) (fun h3=>?_)
   ·refine ON Z Z Z<|FA Z tyF_impl_Sender_3 Z<|ON Z Z Z<|LD (i:=1) Z tyP_S_impl_Range Z Z Z<|ON Z Z Z<|FA Z tyF_impl_Sender_3 Z<|ON Z Z Z<|LD (i:=0) Z tyP_S_impl_Range Z Z Z<|ON Z Z Z<|CV1 Z fun_impl_EqualRanges Z (fun w hs=>impl_EqualRanges (hA2.s Pl.keeps hs) (by omega) (hA1_2.s Pl.keeps hs) )<|PT Z Z Z Z<|MV Z Z<|?_
    refine rw_caseL (j:=31) Z (fun h4=>?_) (fun h4=>?_)
    ·refine ON Z Z Z<|FA Z tyF_impl_Sender_4 Z<|ON Z Z Z<|LD (i:=1) Z tyP_S_impl_Range Z Z Z<|ON Z Z Z<|FA Z tyF_impl_Sender_4 Z<|ON Z Z Z<|LD (i:=0) Z tyP_S_impl_Range Z Z Z<|ON Z Z Z<|CV1 Z fun_impl_EqualRanges Z (fun w hs=>impl_EqualRanges (hA3.s Pl.keeps hs) (by omega) (hA1_3.s Pl.keeps hs) )<|PT Z Z Z Z<|MV Z Z<|?_
     refine rw_caseL (j:=38) Z (fun h5=>?_) (fun h5=>?_)
     ·refine ON Z Z Z<|FA Z tyF_impl_Sender_5 Z<|ON Z Z Z<|LD (i:=1) Z tyP_int Z Z Z<|ON Z Z Z<|FA Z tyF_impl_Sender_5 Z<|ON Z Z Z<|LD (i:=0) Z tyP_int Z Z Z<|ON Z Z Z<|EQ1 Z Z Z<|PT Z Z Z Z<|MV Z Z<|?_
      refine rw_caseL (j:=45) Z (fun h6=>?_) (fun h6=>?_)
      ·refine ON Z Z Z<|FA Z tyF_impl_Sender_6 Z<|ON Z Z Z<|LD (i:=1) Z tyP_int Z Z Z<|ON Z Z Z<|FA Z tyF_impl_Sender_6 Z<|ON Z Z Z<|LD (i:=0) Z tyP_int Z Z Z<|ON Z Z Z<|EQ1 Z Z Z<|PT Z Z Z Z<|MV Z Z<|?_
       refine rw_caseL (j:=52) Z (fun h7=>?_) (fun h7=>?_)
       ·refine ON Z Z Z<|FA Z tyF_impl_Sender_7 Z<|ON Z Z Z<|LD (i:=1) Z tyP_int Z Z Z<|ON Z Z Z<|FA Z tyF_impl_Sender_7 Z<|ON Z Z Z<|LD (i:=0) Z tyP_int Z Z Z<|ON Z Z Z<|EQ1 Z Z Z<|PT Z Z Z Z<|MV Z Z<|?_
        refine rw_caseL (j:=59) Z (fun h8=>?_) (fun h8=>?_)
        ·refine ON Z Z Z<|FA Z tyF_impl_Sender_8 Z<|ON Z Z Z<|LD (i:=1) Z tyP_int Z Z Z<|ON Z Z Z<|FA Z tyF_impl_Sender_8 Z<|ON Z Z Z<|LD (i:=0) Z tyP_int Z Z Z<|ON Z Z Z<|EQ1 Z Z Z<|PT Z Z Z Z<|AS Z Z<|ND<|RT Tryz.func92 Z Z<|?_
         simp [eqSenders,h1,h2,h3,h4,h5,h6,h7,h8]
        refine SKP Z<|PF Z Z Z Z<|AS Z Z<|ND<|RT Tryz.func92 Z Z<|?_
        simp [eqSenders,h1,h2,h3,h4,h5,h6,h7,h8]
       refine SKP Z<|PF Z Z Z Z<|MV Z Z<|SKP Z<|PF Z Z Z Z<|AS Z Z<|ND<|RT Tryz.func92 Z Z<|?_
       simp [eqSenders,h1,h2,h3,h4,h5,h6,h7]
      refine SKP Z<|PF Z Z Z Z<|MV Z Z<|SKP Z<|PF Z Z Z Z<|MV Z Z<|SKP Z<|PF Z Z Z Z<|AS Z Z<|ND<|RT Tryz.func92 Z Z<|?_
      simp [eqSenders,h1,h2,h3,h4,h5,h6]
     refine SKP Z<|PF Z Z Z Z<|MV Z Z<|SKP Z<|PF Z Z Z Z<|MV Z Z<|SKP Z<|PF Z Z Z Z<|MV Z Z<|SKP Z<|PF Z Z Z Z<|AS Z Z<|ND<|RT Tryz.func92 Z Z<|?_
     simp [eqSenders,h1,h2,h3,h4,h5]
    refine SKP Z<|PF Z Z Z Z<|MV Z Z<|SKP Z<|PF Z Z Z Z<|MV Z Z<|SKP Z<|PF Z Z Z Z<|MV Z Z<|SKP Z<|PF Z Z Z Z<|MV Z Z<|SKP Z<|PF Z Z Z Z<|AS Z Z<|ND<|RT Tryz.func92 Z Z<|?_
    simp [eqSenders,h1,h2,h3,h4]
   refine SKP Z<|PF Z Z Z Z<|MV Z Z<|SKP Z<|PF Z Z Z Z<|MV Z Z<|SKP Z<|PF Z Z Z Z<|MV Z Z<|SKP Z<|PF Z Z Z Z<|MV Z Z<|SKP Z<|PF Z Z Z Z<|MV Z Z<|SKP Z<|PF Z Z Z Z<|AS Z Z<|ND<|RT Tryz.func92 Z Z<|?_
   simp [eqSenders,h1,h2,h3]
  refine SKP Z<|PF Z Z Z Z<|MV Z Z<|SKP Z<|PF Z Z Z Z<|MV Z Z<|SKP Z<|PF Z Z Z Z<|MV Z Z<|SKP Z<|PF Z Z Z Z<|MV Z Z<|SKP Z<|PF Z Z Z Z<|MV Z Z<|SKP Z<|PF Z Z Z Z<|MV Z Z<|SKP Z<|PF Z Z Z Z<|AS Z Z<|ND<|RT Tryz.func92 Z Z<|?_
  simp [eqSenders,h1,h2]
 refine SKP Z<|PF Z Z Z Z<|MV Z Z<|SKP Z<|PF Z Z Z Z<|MV Z Z<|SKP Z<|PF Z Z Z Z<|MV Z Z<|SKP Z<|PF Z Z Z Z<|MV Z Z<|SKP Z<|PF Z Z Z Z<|MV Z Z<|SKP Z<|PF Z Z Z Z<|MV Z Z<|SKP Z<|PF Z Z Z Z<|MV Z Z<|SKP Z<|PF Z Z Z Z<|AS Z Z<|ND<|RT Tryz.func92 Z Z<|?_
 simp [eqSenders,h1]
theorem slices_Equal_Chunk {w : World} {v : Value} {l : List Chunk} (hv : RdS w 2 (Pl Chunk.cells) v l) (hb : l.length ≤ 1048576) {v1 : Value} {l1 : List Chunk} (hv1 : RdS w 2 (Pl Chunk.cells) v1 l1) : CV Tryz.prog 170 [v, v1] w (.bool (eqL Chunk.cells l l1)) := by
 obtain ⟨A,c,rfl,hA⟩:=hv
 obtain ⟨A1,c1,rfl,hA1⟩:=hv1
 refine cv_of Tryz.func170 Z Z Z<|SQ<|RG<|AS Z Z<|ND<|SQ<|SQ<|RG<|MV Z Z<|rw_len Z tyE_S_impl_Chunk Z<|MV Z Z<|rw_len Z tyE_S_impl_Chunk Z<|rw_neq Z Z Z<|ND<|?_
 refine gw_condN Z (fun h1=>?_) (fun h1=>?_)
 ·have hlne1:=len_ne_of h1
  refine SQ<|RG<|AS Z Z<|ND<|RT Tryz.func170 Z Z<|?_
  simp [eqL_len _ _ _ hlne1]
 have hlen2:=len_eq_of h1
 refine SK<|SQ<|SQ<|RG<|MV Z Z<|rw_len Z tyE_S_impl_Chunk Z<|MV Z Z<|ND<|BK<|?_
 refine gw_loopC (α:=Nat) (fun z_=>z_ ≤ l.length ∧ eqL Chunk.cells l l1 = eqL Chunk.cells (l.drop z_) (l1.drop z_)) (fun z_=>l.length - z_) (fun e z_=>(13,.int .i64 (z_ : Int)) :: e) 0 [(0,_),(1,_),(12,_)] (Sub.consE Z Z (Sub.cons (i:=0) Z (Sub.cons (i:=1) Z (Sub.cons (i:=12) Z (Sub.nil _))))) ?_ ?_
 ·exact ⟨Nat.zero_le _,by simp [List.drop_zero]⟩
 ·rintro i hI3 ih3
  try dsimp only
  obtain ⟨hle,hI⟩:=hI3
  refine SQ<|RG<|rw_lss Z Z Z<|ND<|SQ<|?_
  refine gw_cond Z (fun h2=>?_) (fun h2=>?_)
  ·have hi4:=lt_of_dec h2
   obtain ⟨x5,hx5⟩:=get_of_lt hi4
   have hd5:=drop_cons hx5
   refine SK<|SQ<|BK<|SQ<|RG<|MV Z Z<|AS Z Z<|ND<|SQ<|gw_draw' [dd 0,dd 1,dd 2,dd 3,dd 4,dd 5,dd 6,dd 7] [8] mixed Z (FD Z) (ts:=[_]) Z<|DM Z Z Z<|DM Z Z Z<|?_
   have hq6:=hA.plain hx5
   refine DT Z Z (fun _ q=>rw_indexAddr (i) Z tyE_S_impl_Chunk Z Z Z (hA.some hi4) hi4 q)<|DT Z Z (fun _ q=>rw_loadX_s [_,_] Z tyS_impl_Chunk Z Z (fun w hs=>hq6.lds0 (n:=2) hs Z) q)<|DM Z Z Z<|DM Z Z Z<|?_
   have hi7 : i < l1.length:=by omega
   obtain ⟨x8,hx8⟩:=get_of_lt hi7
   have hd8:=drop_cons hx8
   have hq9:=hA1.plain hx8
   refine DT Z Z (fun _ q=>rw_indexAddr (i) Z tyE_S_impl_Chunk Z Z Z (hA1.some hi7) hi7 q)<|DT Z Z (fun _ q=>rw_loadX_s [_,_] Z tyS_impl_Chunk Z Z (fun w hs=>hq9.lds0 (n:=2) hs Z) q)<|dw_nil<|rw_neqQ Z tyQ_impl_Chunk Z Z Z Z<|ND<|?_
   refine gw_condN Z (fun h3=>?_) (fun h3=>?_)
   ·refine SQ<|RG<|AS Z Z<|ND<|RT Tryz.func170 Z Z<|?_
    rw [hI,hd5,hd8]; simp [eqL,show eqC (Chunk.cells x5) (Chunk.cells x8) = false from h3]
   refine SK<|IB<|RG<|rw_add Z Z Z<|MV Z Z<|ND<|?_
   refine gw_sub (Sub.consE (i:=13) Z (int_succ (by omega)) (Sub.cons (i:=0) Z (Sub.cons (i:=1) Z (Sub.cons (i:=12) Z (Sub.nil _))))) (ih3 (i + 1) ?_ ?_)
   ·exact ⟨by omega,by rw [hI,hd5,hd8]; simp [eqL,show eqC (Chunk.cells x5) (Chunk.cells x8) = true from h3]⟩
   ·show l.length - (i + 1) < l.length - i; omega
  have hn10:=nil_of_dec h2
  refine EX Z<|SQ<|RG<|AS Z Z<|ND<|RT Tryz.func170 Z Z<|?_
  rw [hI,hn10,drop_nil_of hlen2 hn10]; rfl
theorem impl_EqualBuffers {w : World} {cs : List Value} {x : Buffer} (hv : RdBuffer w cs x) (hb : x.le 1048576) {cs1_ : List Value} {y : Buffer} (hv1_ : RdBuffer w cs1_ y) : CV Tryz.prog 145 [.agg cs.toArray, .agg cs1_.toArray] w (.bool (eqBuffers x y)) := by
 obtain ⟨v0,rfl,k0⟩:=hv
 obtain ⟨A0,c0,rfl,hA0⟩:=k0
 obtain ⟨hb0,hb1⟩:=hb
 obtain ⟨v1_0,rfl,k1_0⟩:=hv1_
 obtain ⟨A1_0,c1_0,rfl,hA1_0⟩:=k1_0
 refine cv_of Tryz.func145 Z Z Z<|SQ<|RG<|BX [_,_] Z Z Z<|fun b1=>BX [_,_] Z Z Z<|fun b2=>AS Z Z<|ND<|SQ<|RG<|FA Z tyF_impl_Buffer_0 Z<|LD (i:=1) Z tyP_int Z Z Z<|FA Z tyF_impl_Buffer_0 Z<|LD (i:=0) Z tyP_int Z Z Z<|EQ1 Z Z Z<|MV Z Z<|?_
 refine rw_caseL (j:=10) Z (fun h1=>?_) (fun h1=>?_)
 ·refine ON Z Z Z<|FA Z tyF_impl_Buffer_1 Z<|ON Z Z Z<|LD (i:=1) Z tyP_S_impl_Chunk Z Z Z<|ON Z Z Z<|FA Z tyF_impl_Buffer_1 Z<|ON Z Z Z<|LD (i:=0) Z tyP_S_impl_Chunk Z Z Z<|ON Z Z Z<|CV1 Z fun_slices_Equal_S_impl_Chunk_impl_Chunk Z (fun w hs=>slices_Equal_Chunk (hA0.s Pl.keeps hs) (by omega) (hA1_0.s Pl.keeps hs) )<|PT Z Z Z Z<|AS Z Z<|ND<|RT Tryz.func145 Z Z<|?_
  simp [eqBuffers,h1]
 refine SKP Z<|PF Z Z Z Z<|AS Z Z<|ND<|RT Tryz.func145 Z Z<|?_
 simp [eqBuffers,h1]
theorem impl_EqualReceivers {w : World} {cs : List Value} {x : Receiver} (hv : RdReceiver w cs x) (hb : x.le 1048576) {cs1_ : List Value} {y : Receiver} (hv1_ : RdReceiver w cs1_ y) : CV Tryz.prog 93 [.agg cs.toArray, .agg cs1_.toArray] w (.bool (eqReceivers x y)) := by
 obtain ⟨v0,rfl,k0⟩:=hv
 obtain ⟨A0,c0,rfl,hA0⟩:=k0
 obtain ⟨hb0,hb1⟩:=hb
 obtain ⟨v1_0,rfl,k1_0⟩:=hv1_
 obtain ⟨A1_0,c1_0,rfl,hA1_0⟩:=k1_0
 refine cv_of Tryz.func93 Z Z Z<|SQ<|RG<|BX [_,_,_,_,_,_] Z Z Z<|fun b1=>BX [_,_,_,_,_,_] Z Z Z<|fun b2=>AS Z Z<|ND<|SQ<|RG<|FA Z tyF_impl_Receiver_0 Z<|LD (i:=1) Z tyP_int Z Z Z<|FA Z tyF_impl_Receiver_0 Z<|LD (i:=0) Z tyP_int Z Z Z<|EQ1 Z Z Z<|MV Z Z<|?_
 refine rw_caseL (j:=10) Z (fun h1=>?_) (fun h1=>?_)
 ·refine ON Z Z Z<|FA Z tyF_impl_Receiver_1 Z<|ON Z Z Z<|LS (i:=1) [_,_] Z tyS_impl_Buffer Z Z Z Z<|ON Z Z Z<|FA Z tyF_impl_Receiver_1 Z<|ON Z Z Z<|LS (i:=0) [_,_] Z tyS_impl_Buffer Z Z Z Z<|ON Z Z Z<|CV1 Z fun_impl_EqualBuffers Z (fun w hs=>impl_EqualBuffers ⟨_,Z,(hA0.s Pl.keeps hs)⟩ ⟨hb0,hb1⟩ ⟨_,Z,(hA1_0.s Pl.keeps hs)⟩)<|PT Z Z Z Z<|MV Z Z<|?_
  refine rw_caseL (j:=17) Z (fun h2=>?_) (fun h2=>?_)
  ·refine ON Z Z Z<|FA Z tyF_impl_Receiver_2 Z<|ON Z Z Z<|LD (i:=1) Z tyP_int Z Z Z<|ON Z Z Z<|FA Z tyF_impl_Receiver_2 Z<|ON Z Z Z<|LD (i:=0) Z tyP_int Z Z Z<|ON Z Z Z<|EQ1 Z Z Z<|PT Z Z Z Z<|MV Z Z<|?_
   refine rw_caseL (j:=24) Z (fun h3=>?_) (fun h3=>?_)
   ·refine ON Z Z Z<|FA Z tyF_impl_Receiver_3 Z<|ON Z Z Z<|LD (i:=1) Z tyP_int Z Z Z<|ON Z Z Z<|FA Z tyF_impl_Receiver_3 Z<|ON Z Z Z<|LD (i:=0) Z tyP_int Z Z Z<|ON Z Z Z<|EQ1 Z Z Z<|PT Z Z Z Z<|MV Z Z<|?_
    refine rw_caseL (j:=31) Z (fun h4=>?_) (fun h4=>?_)
    ·refine ON Z Z Z<|FA Z tyF_impl_Receiver_4 Z<|ON Z Z Z<|LD (i:=1) Z tyP_int Z Z Z<|ON Z Z Z<|FA Z tyF_impl_Receiver_4 Z<|ON Z Z Z<|LD (i:=0) Z tyP_int Z Z Z<|ON Z Z Z<|EQ1 Z Z Z<|PT Z Z Z Z<|AS Z Z<|ND<|RT Tryz.func93 Z Z<|?_
     simp [eqReceivers,h1,h2,h3,h4]
    refine SKP Z<|PF Z Z Z Z<|AS Z Z<|ND<|RT Tryz.func93 Z Z<|?_
    simp [eqReceivers,h1,h2,h3,h4]
   refine SKP Z<|PF Z Z Z Z<|MV Z Z<|SKP Z<|PF Z Z Z Z<|AS Z Z<|ND<|RT Tryz.func93 Z Z<|?_
   simp [eqReceivers,h1,h2,h3]
  refine SKP Z<|PF Z Z Z Z<|MV Z Z<|SKP Z<|PF Z Z Z Z<|MV Z Z<|SKP Z<|PF Z Z Z Z<|AS Z Z<|ND<|RT Tryz.func93 Z Z<|?_
  simp [eqReceivers,h1,h2]
 refine SKP Z<|PF Z Z Z Z<|MV Z Z<|SKP Z<|PF Z Z Z Z<|MV Z Z<|SKP Z<|PF Z Z Z Z<|MV Z Z<|SKP Z<|PF Z Z Z Z<|AS Z Z<|ND<|RT Tryz.func93 Z Z<|?_
 simp [eqReceivers,h1]
set_option maxRecDepth 20000 in
theorem impl_EqualStreams {w : World} {cs : List Value} {x : Stream} (hv : RdStream w cs x) (hb : x.le 1048576) {cs1_ : List Value} {y : Stream} (hv1_ : RdStream w cs1_ y) : CV Tryz.prog 24 [.agg cs.toArray, .agg cs1_.toArray] w (.bool (eqStreams x y)) := by
 obtain ⟨v0,v1,v2,v3,v4,rfl,k0,k1,k2,k3,k4⟩:=hv
 obtain ⟨A0,c0,rfl,hA0⟩:=k0
 obtain ⟨A1,c1,rfl,hA1⟩:=k1
 obtain ⟨A2,c2,rfl,hA2⟩:=k2
 obtain ⟨A3,c3,rfl,hA3⟩:=k3
 obtain ⟨A4,c4,rfl,hA4⟩:=k4
 obtain ⟨hb0,hb1,hb2,hb3,hb4,hb5⟩:=hb
 obtain ⟨v1_0,v1_1,v1_2,v1_3,v1_4,rfl,k1_0,k1_1,k1_2,k1_3,k1_4⟩:=hv1_
 obtain ⟨A1_0,c1_0,rfl,hA1_0⟩:=k1_0
 obtain ⟨A1_1,c1_1,rfl,hA1_1⟩:=k1_1
 obtain ⟨A1_2,c1_2,rfl,hA1_2⟩:=k1_2
 obtain ⟨A1_3,c1_3,rfl,hA1_3⟩:=k1_3
 obtain ⟨A1_4,c1_4,rfl,hA1_4⟩:=k1_4
 refine cv_of Tryz.func24 Z Z Z<|SQ<|RG<|BX [_,_,_,_,_,_,_,_,_,_,_,_,_,_,_,_,_,_,_,_,_,_,_,_,_,_,_,_,_,_,_,_,_,_,_,_,_,_,_] Z Z Z<|fun b1=>BX [_,_,_,_,_,_,_,_,_,_,_,_,_,_,_,_,_,_,_,_,_,_,_,_,_,_,_,_,_,_,_,_,_,_,_,_,_,_,_] Z Z Z<|fun b2=>AS Z Z<|ND<|SQ<|gw_draw' [dd 0,dd 1,dd 2,dd 3,dd 4,dd 5,dd 6,dd 7,dd 8,dd 9,dd 10,dd 11,dd 12,dd 13,dd 14,dd 15,dd 16,dd 17,dd 18,dd 19,dd 20,dd 21,dd 22,dd 23,dd 24,dd 25,dd 26,dd 27,dd 28,dd 29,dd 30,dd 31,dd 32,dd 33,dd 34,dd 35,dd 36,dd 37,dd 38,dd 39,dd 40,dd 41,dd 42,dd 43,dd 44,dd 45,dd 46,dd 47,dd 48,dd 49,dd 50,dd 51] [52,53,54] mixed Z (FD Z) (ts:=[_,_,_]) Z<|?_
 refine DT Z Z (fun _ q=>FA Z tyF_impl_Stream_0 Z q)<|DT Z Z (fun _ q=>LD (i:=1) Z tyP_int Z Z Z q)<|DT Z Z (fun _ q=>FA Z tyF_impl_Stream_0 Z q)<|DT Z Z (fun _ q=>LD (i:=0) Z tyP_int Z Z Z q)<|DT Z Z (fun _ q=>EQ1 Z Z Z q)<|DM Z Z Z<|?_
 refine dw_caseL (j:=10) Z (fun h1=>?_) (fun h1=>?_)
 ·refine DT Z Z (fun _ q=>ON Z Z Z (FA Z tyF_impl_Stream_12 Z q))<|DT Z Z (fun _ q=>ON Z Z Z (LD (i:=1) Z tyP_int Z Z Z q))<|DT Z Z (fun _ q=>ON Z Z Z (FA Z tyF_impl_Stream_12 Z q))<|DT Z Z (fun _ q=>ON Z Z Z (LD (i:=0) Z tyP_int Z Z Z q))<|DT Z Z (fun _ q=>ON Z Z Z (EQ1 Z Z Z q))<|DT Z Z (fun _ q=>PT Z Z Z Z q)<|DM Z Z Z<|?_
  refine dw_caseL (j:=17) Z (fun h2=>?_) (fun h2=>?_)
  ·refine DT Z Z (fun _ q=>ON Z Z Z (FA Z tyF_impl_Stream_2 Z q))<|DT Z Z (fun _ q=>ON Z Z Z (LS (i:=1) [_,_,_,_] Z tyS_impl_Credit Z Z Z Z q))<|DT Z Z (fun _ q=>ON Z Z Z (FA Z tyF_impl_Stream_2 Z q))<|DT Z Z (fun _ q=>ON Z Z Z (LS (i:=0) [_,_,_,_] Z tyS_impl_Credit Z Z Z Z q))<|DT Z Z (fun _ q=>ON Z Z Z (rw_eqlQ Z tyQ_impl_Credit Z Z Z Z q))<|?_
   refine DT Z Z (fun _ q=>PT Z Z Z Z q)<|DM Z Z Z<|?_
   refine dw_caseL (j:=24) Z (fun h3=>?_) (fun h3=>?_)
   ·refine DT Z Z (fun _ q=>ON Z Z Z (FA Z tyF_impl_Stream_4 Z q))<|DT Z Z (fun _ q=>ON Z Z Z (LS (i:=1) [_,_,_,_,_,_] Z tyS_impl_Window Z Z Z Z q))<|DT Z Z (fun _ q=>ON Z Z Z (FA Z tyF_impl_Stream_4 Z q))<|DT Z Z (fun _ q=>ON Z Z Z (LS (i:=0) [_,_,_,_,_,_] Z tyS_impl_Window Z Z Z Z q))<|DT Z Z (fun _ q=>ON Z Z Z (rw_eqlQ Z tyQ_impl_Window Z Z Z Z q))<|?_
    refine DT Z Z (fun _ q=>PT Z Z Z Z q)<|DM Z Z Z<|?_
    refine dw_caseL (j:=31) Z (fun h4=>?_) (fun h4=>?_)
    ·refine DT Z Z (fun _ q=>ON Z Z Z (FA Z tyF_impl_Stream_5 Z q))<|DT Z Z (fun _ q=>ON Z Z Z (LS (i:=1) [_,_] Z tyS_impl_Priority Z Z Z Z q))<|DT Z Z (fun _ q=>ON Z Z Z (FA Z tyF_impl_Stream_5 Z q))<|DT Z Z (fun _ q=>ON Z Z Z (LS (i:=0) [_,_] Z tyS_impl_Priority Z Z Z Z q))<|DT Z Z (fun _ q=>ON Z Z Z (rw_eqlQ Z tyQ_impl_Priority Z Z Z Z q))<|DT Z Z (fun _ q=>PT Z Z Z Z q)<|?_
     refine DM Z Z Z<|?_
     refine dw_caseL (j:=38) Z (fun h5=>?_) (fun h5=>?_)
     ·refine DT Z Z (fun _ q=>ON Z Z Z (LS (i:=1) [_,_,_,_,_,_,_,_,_,_,_,_,_,_,_,_,_,_,_,_,_,_,_,_,_,_,_,_,_,_,_,_,_,_,_,_,_,_,_] Z tyS_impl_Stream Z Z Z Z q))<|DT Z Z (fun _ q=>ON Z Z Z (CV1 Z fun_impl_flags Z (fun w hs=>impl_flags ⟨_,_,_,_,_,Z,(hA0.s Pl.keeps hs),(hA1.s Pl.keeps hs),(hA2.s Pl.keeps hs),(hA3.s Pl.keeps hs),(hA4.s Pl.keeps hs)⟩) q))<|DT Z Z (fun _ q=>ON Z Z Z (LS (i:=0) [_,_,_,_,_,_,_,_,_,_,_,_,_,_,_,_,_,_,_,_,_,_,_,_,_,_,_,_,_,_,_,_,_,_,_,_,_,_,_] Z tyS_impl_Stream Z Z Z Z q))<|?_
      refine DT Z Z (fun _ q=>ON Z Z Z (CV1 Z fun_impl_flags Z (fun w hs=>impl_flags ⟨_,_,_,_,_,Z,(hA1_0.s Pl.keeps hs),(hA1_1.s Pl.keeps hs),(hA1_2.s Pl.keeps hs),(hA1_3.s Pl.keeps hs),(hA1_4.s Pl.keeps hs)⟩) q))<|DT Z Z (fun _ q=>ON Z Z Z (rw_eqlA [_,_,_,_,_,_,_] [_,_,_,_,_,_,_] Z tyA_7_bool Z Z Z Z Z Z q))<|DT Z Z (fun _ q=>PT Z Z Z Z q)<|DM Z Z Z<|?_
      refine dw_caseL (j:=45) Z (fun h6=>?_) (fun h6=>?_)
      ·refine DT Z Z (fun _ q=>ON Z Z Z (FA Z tyF_impl_Stream_1 Z q))<|DT Z Z (fun _ q=>ON Z Z Z (LS (i:=1) [_,_,_,_,_,_,_,_,_,_,_,_] Z tyS_impl_Sender Z Z Z Z q))<|DT Z Z (fun _ q=>ON Z Z Z (FA Z tyF_impl_Stream_1 Z q))<|DT Z Z (fun _ q=>ON Z Z Z (LS (i:=0) [_,_,_,_,_,_,_,_,_,_,_,_] Z tyS_impl_Sender Z Z Z Z q))<|DT Z Z (fun _ q=>ON Z Z Z (CV1 Z fun_impl_EqualSenders Z (fun w hs=>impl_EqualSenders ⟨_,_,_,_,Z,(hA0.s Pl.keeps hs),(hA1.s Pl.keeps hs),(hA2.s Pl.keeps hs),(hA3.s Pl.keeps hs)⟩ ⟨hb0,hb1,hb2,hb3⟩ ⟨_,_,_,_,Z,(hA1_0.s Pl.keeps hs),(hA1_1.s Pl.keeps hs),(hA1_2.s Pl.keeps hs),(hA1_3.s Pl.keeps hs)⟩) q))<|?_
       refine DT Z Z (fun _ q=>PT Z Z Z Z q)<|DM Z Z Z<|?_
       refine dw_caseL (j:=52) Z (fun h7=>?_) (fun h7=>?_)
       ·refine DT Z Z (fun _ q=>ON Z Z Z (FA Z tyF_impl_Stream_3 Z q))<|DT Z Z (fun _ q=>ON Z Z Z (LS (i:=1) [_,_,_,_,_,_] Z tyS_impl_Receiver Z Z Z Z q))<|DT Z Z (fun _ q=>ON Z Z Z (FA Z tyF_impl_Stream_3 Z q))<|DT Z Z (fun _ q=>ON Z Z Z (LS (i:=0) [_,_,_,_,_,_] Z tyS_impl_Receiver Z Z Z Z q))<|dw_nil<|ON Z Z Z<|CV1 Z fun_impl_EqualReceivers Z (fun w hs=>impl_EqualReceivers ⟨_,Z,(hA4.s Pl.keeps hs)⟩ ⟨hb4,hb5⟩ ⟨_,Z,(hA1_4.s Pl.keeps hs)⟩)<|?_
        refine PT Z Z Z Z<|AS Z Z<|ND<|RT Tryz.func24 Z Z<|?_
        rw [eqStreams_i]; simp [eqStreamsI,flagsC,Credit.cells,Window.cells,Priority.cells,h1,h2,h3,h4,h5,h6,h7]
       refine DSK Z<|dw_nil<|OF Z Z Z Z<|PF Z Z Z Z<|AS Z Z<|ND<|RT Tryz.func24 Z Z<|?_
       rw [eqStreams_i]; simp [eqStreamsI,flagsC,Credit.cells,Window.cells,Priority.cells,h1,h2,h3,h4,h5,h6,h7]
      refine DSK Z<|DT Z Z (fun _ q=>PF Z Z Z Z q)<|DM Z Z Z<|DSK Z<|dw_nil<|OF Z Z Z Z<|PF Z Z Z Z<|AS Z Z<|ND<|RT Tryz.func24 Z Z<|?_
      rw [eqStreams_i]; simp [eqStreamsI,flagsC,Credit.cells,Window.cells,Priority.cells,h1,h2,h3,h4,h5,h6]
     refine DSK Z<|DT Z Z (fun _ q=>PF Z Z Z Z q)<|DM Z Z Z<|DSK Z<|DT Z Z (fun _ q=>PF Z Z Z Z q)<|DM Z Z Z<|DSK Z<|dw_nil<|OF Z Z Z Z<|PF Z Z Z Z<|AS Z Z<|ND<|RT Tryz.func24 Z Z<|?_
     rw [eqStreams_i]; simp [eqStreamsI,flagsC,Credit.cells,Window.cells,Priority.cells,h1,h2,h3,h4,h5]
    refine DSK Z<|DT Z Z (fun _ q=>PF Z Z Z Z q)<|DM Z Z Z<|DSK Z<|DT Z Z (fun _ q=>PF Z Z Z Z q)<|DM Z Z Z<|DSK Z<|DT Z Z (fun _ q=>PF Z Z Z Z q)<|DM Z Z Z<|DSK Z<|dw_nil<|OF Z Z Z Z<|PF Z Z Z Z<|AS Z Z<|ND<|RT Tryz.func24 Z Z<|?_
    rw [eqStreams_i]; simp [eqStreamsI,flagsC,Credit.cells,Window.cells,Priority.cells,h1,h2,h3,h4]
   refine DSK Z<|DT Z Z (fun _ q=>PF Z Z Z Z q)<|DM Z Z Z<|DSK Z<|DT Z Z (fun _ q=>PF Z Z Z Z q)<|DM Z Z Z<|DSK Z<|DT Z Z (fun _ q=>PF Z Z Z Z q)<|DM Z Z Z<|DSK Z<|DT Z Z (fun _ q=>PF Z Z Z Z q)<|DM Z Z Z<|DSK Z<|dw_nil<|OF Z Z Z Z<|PF Z Z Z Z<|AS Z Z<|ND<|?_
   refine RT Tryz.func24 Z Z<|?_
   rw [eqStreams_i]; simp [eqStreamsI,flagsC,Credit.cells,Window.cells,Priority.cells,h1,h2,h3]
  refine DSK Z<|DT Z Z (fun _ q=>PF Z Z Z Z q)<|DM Z Z Z<|DSK Z<|DT Z Z (fun _ q=>PF Z Z Z Z q)<|DM Z Z Z<|DSK Z<|DT Z Z (fun _ q=>PF Z Z Z Z q)<|DM Z Z Z<|DSK Z<|DT Z Z (fun _ q=>PF Z Z Z Z q)<|DM Z Z Z<|DSK Z<|DT Z Z (fun _ q=>PF Z Z Z Z q)<|DM Z Z Z<|?_
  refine DSK Z<|dw_nil<|OF Z Z Z Z<|PF Z Z Z Z<|AS Z Z<|ND<|RT Tryz.func24 Z Z<|?_
  rw [eqStreams_i]; simp [eqStreamsI,flagsC,Credit.cells,Window.cells,Priority.cells,h1,h2]
 refine DSK Z<|DT Z Z (fun _ q=>PF Z Z Z Z q)<|DM Z Z Z<|DSK Z<|DT Z Z (fun _ q=>PF Z Z Z Z q)<|DM Z Z Z<|DSK Z<|DT Z Z (fun _ q=>PF Z Z Z Z q)<|DM Z Z Z<|DSK Z<|DT Z Z (fun _ q=>PF Z Z Z Z q)<|DM Z Z Z<|DSK Z<|DT Z Z (fun _ q=>PF Z Z Z Z q)<|DM Z Z Z<|?_
 refine DSK Z<|DT Z Z (fun _ q=>PF Z Z Z Z q)<|DM Z Z Z<|DSK Z<|dw_nil<|OF Z Z Z Z<|PF Z Z Z Z<|AS Z Z<|ND<|RT Tryz.func24 Z Z<|?_
 rw [eqStreams_i]; simp [eqStreamsI,flagsC,Credit.cells,Window.cells,Priority.cells,h1]
theorem spec_EqualRings {w : World} {cs : List Value} {x : Ring} (hv : RdRing w cs x) (hb : x.le 1048576) {cs1_ : List Value} {y : Ring} (hv1_ : RdRing w cs1_ y) : CV Tryz.prog 116 [.agg cs.toArray, .agg cs1_.toArray] w (.bool (eqRings x y)) := by
 obtain ⟨v0,rfl,k0⟩:=hv
 obtain ⟨A0,c0,rfl,hA0⟩:=k0
 have hb0 : x.cells.length ≤ 1048576:=hb
 obtain ⟨v1_0,rfl,k1_0⟩:=hv1_
 obtain ⟨A1_0,c1_0,rfl,hA1_0⟩:=k1_0
 refine cv_of Tryz.func116 Z Z Z<|SQ<|RG<|BX [_,_,_,_] Z Z Z<|fun b1=>BX [_,_,_,_] Z Z Z<|fun b2=>AS Z Z<|ND<|SQ<|SQ<|RG<|FA Z tyF_impl_Ring_0 Z<|LD (i:=1) Z tyP_int Z Z Z<|FA Z tyF_impl_Ring_0 Z<|LD (i:=0) Z tyP_int Z Z Z<|rw_neq Z Z Z<|MV Z Z<|?_
 refine rw_caseN (j:=11) Z (fun h1=>?_) (fun h1=>?_)
 ·refine SKP Z<|PT Z Z Z Z<|MV Z Z<|SKP Z<|PT Z Z Z Z<|MV Z Z<|SKP Z<|PT Z Z Z Z<|ND<|CT Z Z<|SQ<|RG<|AS Z Z<|ND<|RT Tryz.func116 Z Z<|?_
  simp [eqRings,h1]
 refine ON Z Z Z<|FA Z tyF_impl_Ring_1 Z<|ON Z Z Z<|LD (i:=1) Z tyP_int Z Z Z<|ON Z Z Z<|FA Z tyF_impl_Ring_1 Z<|ON Z Z Z<|LD (i:=0) Z tyP_int Z Z Z<|ON Z Z Z<|rw_neq Z Z Z<|PF Z Z Z Z<|MV Z Z<|?_
 refine rw_caseN (j:=18) Z (fun h2=>?_) (fun h2=>?_)
 ·refine SKP Z<|PT Z Z Z Z<|MV Z Z<|SKP Z<|PT Z Z Z Z<|ND<|CT Z Z<|SQ<|RG<|AS Z Z<|ND<|RT Tryz.func116 Z Z<|?_
  simp [eqRings,h1,h2]
 refine ON Z Z Z<|FA Z tyF_impl_Ring_2 Z<|ON Z Z Z<|LD (i:=1) Z tyP_int Z Z Z<|ON Z Z Z<|FA Z tyF_impl_Ring_2 Z<|ON Z Z Z<|LD (i:=0) Z tyP_int Z Z Z<|ON Z Z Z<|rw_neq Z Z Z<|PF Z Z Z Z<|MV Z Z<|?_
 refine rw_caseN (j:=25) Z (fun h3=>?_) (fun h3=>?_)
 ·refine SKP Z<|PT Z Z Z Z<|ND<|CT Z Z<|SQ<|RG<|AS Z Z<|ND<|RT Tryz.func116 Z Z<|?_
  simp [eqRings,h1,h2,h3]
 refine ON Z Z Z<|FA Z tyF_impl_Ring_3 Z<|ON Z Z Z<|LD (i:=1) Z tyP_S_int Z Z Z<|ON Z Z Z<|rw_len Z tyE_S_int Z<|ON Z Z Z<|FA Z tyF_impl_Ring_3 Z<|ON Z Z Z<|LD (i:=0) Z tyP_S_int Z Z Z<|ON Z Z Z<|rw_len Z tyE_S_int Z<|ON Z Z Z<|rw_neq Z Z Z<|PF Z Z Z Z<|ND<|?_
 refine gw_condN Z (fun h4=>?_) (fun h4=>?_)
 ·have hlne1:=len_ne_of h4
  refine SQ<|RG<|AS Z Z<|ND<|RT Tryz.func116 Z Z<|?_
  simp [eqRings,eqL_len _ _ _ hlne1,h1,h2,h3]
 have hlen2:=len_eq_of h4
 refine SK<|SQ<|SQ<|RG<|AS Z Z<|ND<|BK<|?_
 refine gw_loopC (α:=Nat) (fun z_=>z_ ≤ x.cells.length ∧ eqRings x y = eqL intC (x.cells.drop z_) (y.cells.drop z_)) (fun z_=>x.cells.length - z_) (fun e z_=>(5,.int .i64 (z_ : Int)) :: e) 0 [(2,_),(3,_)] (Sub.consE Z Z (Sub.cons (i:=2) Z (Sub.cons (i:=3) Z (Sub.nil _)))) ?_ ?_
 ·exact ⟨Nat.zero_le _,by simp [eqRings,h1,h2,h3]⟩
 ·rintro i hI3 ih3
  try dsimp only
  obtain ⟨hle,hI⟩:=hI3
  refine SQ<|SQ<|RG<|MV Z Z<|FA Z tyF_impl_Ring_3 Z<|LD (i:=1) Z tyP_S_int Z Z Z<|rw_len Z tyE_S_int Z<|rw_lss Z Z Z<|ND<|?_
  refine gw_cond Z (fun h5=>?_) (fun h5=>?_)
  ·have hi4:=lt_of_dec h5
   obtain ⟨x5,hx5⟩:=get_of_lt hi4
   have hd5:=drop_cons hx5
   refine SK<|SQ<|BK<|SQ<|gw_draw' [dd 0,dd 1,dd 2,dd 3,dd 4,dd 5,dd 6,dd 7,dd 8,dd 9] [10] mixed Z (FD Z) (ts:=[_]) Z<|DT Z Z (fun _ q=>FA Z tyF_impl_Ring_3 Z q)<|DT Z Z (fun _ q=>LD (i:=1) Z tyP_S_int Z Z Z q)<|DM Z Z Z<|?_
   have hq6:=hA0.plain hx5
   refine DT Z Z (fun _ q=>rw_indexAddr (i) Z tyE_S_int Z Z Z (hA0.some hi4) hi4 q)<|DT Z Z (fun _ q=>rw_loadX _ Z tyP_int Z (fun w hs=>hq6.ld0 hs Z) q)<|DT Z Z (fun _ q=>FA Z tyF_impl_Ring_3 Z q)<|DT Z Z (fun _ q=>LD (i:=0) Z tyP_S_int Z Z Z q)<|DM Z Z Z<|?_
   have hi7 : i < y.cells.length:=by omega
   obtain ⟨x8,hx8⟩:=get_of_lt hi7
   have hd8:=drop_cons hx8
   have hq9:=hA1_0.plain hx8
   refine DT Z Z (fun _ q=>rw_indexAddr (i) Z tyE_S_int Z Z Z (hA1_0.some hi7) hi7 q)<|DT Z Z (fun _ q=>rw_loadX _ Z tyP_int Z (fun w hs=>hq9.ld0 hs Z) q)<|dw_nil<|rw_neq Z Z Z<|ND<|?_
   refine gw_condN Z (fun h6=>?_) (fun h6=>?_)
   ·refine SQ<|RG<|AS Z Z<|ND<|RT Tryz.func116 Z Z<|?_
    rw [hI,hd5,hd8]; simp [eqL,eqC_int,h6]
   refine SK<|IB<|RG<|MV Z Z<|rw_add Z Z Z<|AS Z Z<|ND<|?_
   refine gw_sub (Sub.consE (i:=5) Z (int_succ (by omega)) (Sub.cons (i:=2) Z (Sub.cons (i:=3) Z (Sub.nil _)))) (ih3 (i + 1) ?_ ?_)
   ·exact ⟨by omega,by rw [hI,hd5,hd8]; simp [eqL,eqC_int,h6]⟩
   ·show x.cells.length - (i + 1) < x.cells.length - i; omega
  have hn10:=nil_of_dec h5
  refine EX Z<|SQ<|RG<|AS Z Z<|ND<|RT Tryz.func116 Z Z<|?_
  rw [hI,hn10,drop_nil_of hlen2 hn10]; rfl
theorem spec_EqualRanges {w : World} {v : Value} {l : List Range} (hv : RdS w 2 (Pl Range.cells) v l) (hb : l.length ≤ 1048576) {v1 : Value} {l1 : List Range} (hv1 : RdS w 2 (Pl Range.cells) v1 l1) : CV Tryz.prog 117 [v, v1] w (.bool (eqL Range.cells l l1)) := by
 obtain ⟨A,c,rfl,hA⟩:=hv
 obtain ⟨A1,c1,rfl,hA1⟩:=hv1
 refine cv_of Tryz.func117 Z Z Z<|SQ<|RG<|AS Z Z<|ND<|SQ<|SQ<|RG<|MV Z Z<|rw_len Z tyE_S_impl_Range Z<|MV Z Z<|rw_len Z tyE_S_impl_Range Z<|rw_neq Z Z Z<|ND<|?_
 refine gw_condN Z (fun h1=>?_) (fun h1=>?_)
 ·have hlne1:=len_ne_of h1
  refine SQ<|RG<|AS Z Z<|ND<|RT Tryz.func117 Z Z<|?_
  simp [eqL_len _ _ _ hlne1]
 have hlen2:=len_eq_of h1
 refine SK<|SQ<|SQ<|RG<|AS Z Z<|ND<|BK<|?_
 refine gw_loopC (α:=Nat) (fun z_=>z_ ≤ l.length ∧ eqL Range.cells l l1 = eqL Range.cells (l.drop z_) (l1.drop z_)) (fun z_=>l.length - z_) (fun e z_=>(5,.int .i64 (z_ : Int)) :: e) 0 [(0,_),(1,_)] (Sub.consE Z Z (Sub.cons (i:=0) Z (Sub.cons (i:=1) Z (Sub.nil _)))) ?_ ?_
 ·exact ⟨Nat.zero_le _,by simp [List.drop_zero]⟩
 ·rintro i hI3 ih3
  try dsimp only
  obtain ⟨hle,hI⟩:=hI3
  refine SQ<|SQ<|RG<|MV Z Z<|MV Z Z<|rw_len Z tyE_S_impl_Range Z<|rw_lss Z Z Z<|ND<|?_
  refine gw_cond Z (fun h2=>?_) (fun h2=>?_)
  ·have hi4:=lt_of_dec h2
   obtain ⟨x5,hx5⟩:=get_of_lt hi4
   have hd5:=drop_cons hx5
   refine SK<|SQ<|BK<|SQ<|gw_draw' [dd 0,dd 1,dd 2,dd 3,dd 4,dd 5,dd 6,dd 7] [8] mixed Z (FD Z) (ts:=[_]) Z<|DM Z Z Z<|DM Z Z Z<|?_
   have hq6:=hA.plain hx5
   refine DT Z Z (fun _ q=>rw_indexAddr (i) Z tyE_S_impl_Range Z Z Z (hA.some hi4) hi4 q)<|DT Z Z (fun _ q=>rw_loadX_s [_,_] Z tyS_impl_Range Z Z (fun w hs=>hq6.lds0 (n:=2) hs Z) q)<|DM Z Z Z<|DM Z Z Z<|?_
   have hi7 : i < l1.length:=by omega
   obtain ⟨x8,hx8⟩:=get_of_lt hi7
   have hd8:=drop_cons hx8
   have hq9:=hA1.plain hx8
   refine DT Z Z (fun _ q=>rw_indexAddr (i) Z tyE_S_impl_Range Z Z Z (hA1.some hi7) hi7 q)<|DT Z Z (fun _ q=>rw_loadX_s [_,_] Z tyS_impl_Range Z Z (fun w hs=>hq9.lds0 (n:=2) hs Z) q)<|dw_nil<|rw_neqQ Z tyQ_impl_Range Z Z Z Z<|ND<|?_
   refine gw_condN Z (fun h3=>?_) (fun h3=>?_)
   ·refine SQ<|RG<|AS Z Z<|ND<|RT Tryz.func117 Z Z<|?_
    rw [hI,hd5,hd8]; simp [eqL,show eqC (Range.cells x5) (Range.cells x8) = false from h3]
   refine SK<|IB<|RG<|MV Z Z<|rw_add Z Z Z<|AS Z Z<|ND<|?_
   refine gw_sub (Sub.consE (i:=5) Z (int_succ (by omega)) (Sub.cons (i:=0) Z (Sub.cons (i:=1) Z (Sub.nil _)))) (ih3 (i + 1) ?_ ?_)
   ·exact ⟨by omega,by rw [hI,hd5,hd8]; simp [eqL,show eqC (Range.cells x5) (Range.cells x8) = true from h3]⟩
   ·show l.length - (i + 1) < l.length - i; omega
  have hn10:=nil_of_dec h2
  refine EX Z<|SQ<|RG<|AS Z Z<|ND<|RT Tryz.func117 Z Z<|?_
  rw [hI,hn10,drop_nil_of hlen2 hn10]; rfl
set_option maxRecDepth 20000 in
theorem spec_EqualSenders {w : World} {cs : List Value} {x : Sender} (hv : RdSender w cs x) (hb : x.le 1048576) {cs1_ : List Value} {y : Sender} (hv1_ : RdSender w cs1_ y) : CV Tryz.prog 68 [.agg cs.toArray, .agg cs1_.toArray] w (.bool (eqSenders x y)) := by
 obtain ⟨v0,v1,v2,v3,rfl,k0,k1,k2,k3⟩:=hv
 obtain ⟨A0,c0,rfl,hA0⟩:=k0
 obtain ⟨A1,c1,rfl,hA1⟩:=k1
 obtain ⟨A2,c2,rfl,hA2⟩:=k2
 obtain ⟨A3,c3,rfl,hA3⟩:=k3
 obtain ⟨hb0,hb1,hb2,hb3⟩:=hb
 obtain ⟨v1_0,v1_1,v1_2,v1_3,rfl,k1_0,k1_1,k1_2,k1_3⟩:=hv1_
 obtain ⟨A1_0,c1_0,rfl,hA1_0⟩:=k1_0
 obtain ⟨A1_1,c1_1,rfl,hA1_1⟩:=k1_1
 obtain ⟨A1_2,c1_2,rfl,hA1_2⟩:=k1_2
 obtain ⟨A1_3,c1_3,rfl,hA1_3⟩:=k1_3
 refine cv_of Tryz.func68 Z Z Z<|SQ<|RG<|BX [_,_,_,_,_,_,_,_,_,_,_,_] Z Z Z<|fun b1=>BX [_,_,_,_,_,_,_,_,_,_,_,_] Z Z Z<|fun b2=>AS Z Z<|ND<|SQ<|RG<|FA Z tyF_impl_Sender_0 Z<|LD (i:=1) Z tyP_int Z Z Z<|FA Z tyF_impl_Sender_0 Z<|LD (i:=0) Z tyP_int Z Z Z<|EQ1 Z Z Z<|MV Z Z<|?_
 refine rw_caseL (j:=10) Z (fun h1=>?_) (fun h1=>?_)
 ·refine ON Z Z Z<|FA Z tyF_impl_Sender_1 Z<|ON Z Z Z<|LS (i:=1) [_,_,_,_] Z tyS_impl_Ring Z Z Z Z<|ON Z Z Z<|FA Z tyF_impl_Sender_1 Z<|ON Z Z Z<|LS (i:=0) [_,_,_,_] Z tyS_impl_Ring Z Z Z Z<|ON Z Z Z<|CV1 Z fun_spec_EqualRings Z (fun w hs=>spec_EqualRings ⟨_,Z,(hA0.s Pl.keeps hs)⟩ (show _ ≤ _ from hb0) ⟨_,Z,(hA1_0.s Pl.keeps hs)⟩)<|PT Z Z Z Z<|MV Z Z<|?_
  refine rw_caseL (j:=17) Z (fun h2=>?_) (fun h2=>?_)
  ·refine ON Z Z Z<|FA Z tyF_impl_Sender_2 Z<|ON Z Z Z<|LD (i:=1) Z tyP_S_impl_Range Z Z Z<|ON Z Z Z<|FA Z tyF_impl_Sender_2 Z<|ON Z Z Z<|LD (i:=0) Z tyP_S_impl_Range Z Z Z<|ON Z Z Z<|CV1 Z fun_spec_EqualRanges Z (fun w hs=>spec_EqualRanges (hA1.s Pl.keeps hs) (by omega) (hA1_1.s Pl.keeps hs) )<|PT Z Z Z Z<|MV Z Z<|?_
   refine rw_caseL (j:=24) Z (fun h3=>?_) (fun h3=>?_)
   ·refine ON Z Z Z<|FA Z tyF_impl_Sender_3 Z<|ON Z Z Z<|LD (i:=1) Z tyP_S_impl_Range Z Z Z<|ON Z Z Z<|FA Z tyF_impl_Sender_3 Z<|ON Z Z Z<|LD (i:=0) Z tyP_S_impl_Range Z Z Z<|ON Z Z Z<|CV1 Z fun_spec_EqualRanges Z (fun w hs=>spec_EqualRanges (hA2.s Pl.keeps hs) (by omega) (hA1_2.s Pl.keeps hs) )<|PT Z Z Z Z<|MV Z Z<|?_
    refine rw_caseL (j:=31) Z (fun h4=>?_) (fun h4=>?_)
    ·refine ON Z Z Z<|FA Z tyF_impl_Sender_4 Z<|ON Z Z Z<|LD (i:=1) Z tyP_S_impl_Range Z Z Z<|ON Z Z Z<|FA Z tyF_impl_Sender_4 Z<|ON Z Z Z<|LD (i:=0) Z tyP_S_impl_Range Z Z Z<|ON Z Z Z<|CV1 Z fun_spec_EqualRanges Z (fun w hs=>spec_EqualRanges (hA3.s Pl.keeps hs) (by omega) (hA1_3.s Pl.keeps hs) )<|PT Z Z Z Z<|MV Z Z<|?_
     refine rw_caseL (j:=38) Z (fun h5=>?_) (fun h5=>?_)
     ·refine ON Z Z Z<|FA Z tyF_impl_Sender_5 Z<|ON Z Z Z<|LD (i:=1) Z tyP_int Z Z Z<|ON Z Z Z<|FA Z tyF_impl_Sender_5 Z<|ON Z Z Z<|LD (i:=0) Z tyP_int Z Z Z<|ON Z Z Z<|EQ1 Z Z Z<|PT Z Z Z Z<|MV Z Z<|?_
      refine rw_caseL (j:=45) Z (fun h6=>?_) (fun h6=>?_)
      ·refine ON Z Z Z<|FA Z tyF_impl_Sender_6 Z<|ON Z Z Z<|LD (i:=1) Z tyP_int Z Z Z<|ON Z Z Z<|FA Z tyF_impl_Sender_6 Z<|ON Z Z Z<|LD (i:=0) Z tyP_int Z Z Z<|ON Z Z Z<|EQ1 Z Z Z<|PT Z Z Z Z<|MV Z Z<|?_
       refine rw_caseL (j:=52) Z (fun h7=>?_) (fun h7=>?_)
       ·refine ON Z Z Z<|FA Z tyF_impl_Sender_7 Z<|ON Z Z Z<|LD (i:=1) Z tyP_int Z Z Z<|ON Z Z Z<|FA Z tyF_impl_Sender_7 Z<|ON Z Z Z<|LD (i:=0) Z tyP_int Z Z Z<|ON Z Z Z<|EQ1 Z Z Z<|PT Z Z Z Z<|MV Z Z<|?_
        refine rw_caseL (j:=59) Z (fun h8=>?_) (fun h8=>?_)
        ·refine ON Z Z Z<|FA Z tyF_impl_Sender_8 Z<|ON Z Z Z<|LD (i:=1) Z tyP_int Z Z Z<|ON Z Z Z<|FA Z tyF_impl_Sender_8 Z<|ON Z Z Z<|LD (i:=0) Z tyP_int Z Z Z<|ON Z Z Z<|EQ1 Z Z Z<|PT Z Z Z Z<|AS Z Z<|ND<|RT Tryz.func68 Z Z<|?_
         simp [eqSenders,h1,h2,h3,h4,h5,h6,h7,h8]
        refine SKP Z<|PF Z Z Z Z<|AS Z Z<|ND<|RT Tryz.func68 Z Z<|?_
        simp [eqSenders,h1,h2,h3,h4,h5,h6,h7,h8]
       refine SKP Z<|PF Z Z Z Z<|MV Z Z<|SKP Z<|PF Z Z Z Z<|AS Z Z<|ND<|RT Tryz.func68 Z Z<|?_
       simp [eqSenders,h1,h2,h3,h4,h5,h6,h7]
      refine SKP Z<|PF Z Z Z Z<|MV Z Z<|SKP Z<|PF Z Z Z Z<|MV Z Z<|SKP Z<|PF Z Z Z Z<|AS Z Z<|ND<|RT Tryz.func68 Z Z<|?_
      simp [eqSenders,h1,h2,h3,h4,h5,h6]
     refine SKP Z<|PF Z Z Z Z<|MV Z Z<|SKP Z<|PF Z Z Z Z<|MV Z Z<|SKP Z<|PF Z Z Z Z<|MV Z Z<|SKP Z<|PF Z Z Z Z<|AS Z Z<|ND<|RT Tryz.func68 Z Z<|?_
     simp [eqSenders,h1,h2,h3,h4,h5]
    refine SKP Z<|PF Z Z Z Z<|MV Z Z<|SKP Z<|PF Z Z Z Z<|MV Z Z<|SKP Z<|PF Z Z Z Z<|MV Z Z<|SKP Z<|PF Z Z Z Z<|MV Z Z<|SKP Z<|PF Z Z Z Z<|AS Z Z<|ND<|RT Tryz.func68 Z Z<|?_
    simp [eqSenders,h1,h2,h3,h4]
   refine SKP Z<|PF Z Z Z Z<|MV Z Z<|SKP Z<|PF Z Z Z Z<|MV Z Z<|SKP Z<|PF Z Z Z Z<|MV Z Z<|SKP Z<|PF Z Z Z Z<|MV Z Z<|SKP Z<|PF Z Z Z Z<|MV Z Z<|SKP Z<|PF Z Z Z Z<|AS Z Z<|ND<|RT Tryz.func68 Z Z<|?_
   simp [eqSenders,h1,h2,h3]
  refine SKP Z<|PF Z Z Z Z<|MV Z Z<|SKP Z<|PF Z Z Z Z<|MV Z Z<|SKP Z<|PF Z Z Z Z<|MV Z Z<|SKP Z<|PF Z Z Z Z<|MV Z Z<|SKP Z<|PF Z Z Z Z<|MV Z Z<|SKP Z<|PF Z Z Z Z<|MV Z Z<|SKP Z<|PF Z Z Z Z<|AS Z Z<|ND<|RT Tryz.func68 Z Z<|?_
  simp [eqSenders,h1,h2]
 refine SKP Z<|PF Z Z Z Z<|MV Z Z<|SKP Z<|PF Z Z Z Z<|MV Z Z<|SKP Z<|PF Z Z Z Z<|MV Z Z<|SKP Z<|PF Z Z Z Z<|MV Z Z<|SKP Z<|PF Z Z Z Z<|MV Z Z<|SKP Z<|PF Z Z Z Z<|MV Z Z<|SKP Z<|PF Z Z Z Z<|MV Z Z<|SKP Z<|PF Z Z Z Z<|AS Z Z<|ND<|RT Tryz.func68 Z Z<|?_
 simp [eqSenders,h1]
theorem spec_EqualBuffers {w : World} {cs : List Value} {x : Buffer} (hv : RdBuffer w cs x) (hb : x.le 1048576) {cs1_ : List Value} {y : Buffer} (hv1_ : RdBuffer w cs1_ y) : CV Tryz.prog 118 [.agg cs.toArray, .agg cs1_.toArray] w (.bool (eqBuffers x y)) := by
 obtain ⟨v0,rfl,k0⟩:=hv
 obtain ⟨A0,c0,rfl,hA0⟩:=k0
 obtain ⟨hb0,hb1⟩:=hb
 obtain ⟨v1_0,rfl,k1_0⟩:=hv1_
 obtain ⟨A1_0,c1_0,rfl,hA1_0⟩:=k1_0
 refine cv_of Tryz.func118 Z Z Z<|SQ<|RG<|BX [_,_] Z Z Z<|fun b1=>BX [_,_] Z Z Z<|fun b2=>AS Z Z<|ND<|SQ<|SQ<|RG<|FA Z tyF_impl_Buffer_0 Z<|LD (i:=1) Z tyP_int Z Z Z<|FA Z tyF_impl_Buffer_0 Z<|LD (i:=0) Z tyP_int Z Z Z<|rw_neq Z Z Z<|MV Z Z<|?_
 refine rw_caseN (j:=11) Z (fun h1=>?_) (fun h1=>?_)
 ·refine SKP Z<|PT Z Z Z Z<|ND<|CT Z Z<|SQ<|RG<|AS Z Z<|ND<|RT Tryz.func118 Z Z<|?_
  simp [eqBuffers,h1]
 refine ON Z Z Z<|FA Z tyF_impl_Buffer_1 Z<|ON Z Z Z<|LD (i:=1) Z tyP_S_impl_Chunk Z Z Z<|ON Z Z Z<|rw_len Z tyE_S_impl_Chunk Z<|ON Z Z Z<|FA Z tyF_impl_Buffer_1 Z<|ON Z Z Z<|LD (i:=0) Z tyP_S_impl_Chunk Z Z Z<|ON Z Z Z<|rw_len Z tyE_S_impl_Chunk Z<|ON Z Z Z<|rw_neq Z Z Z<|PF Z Z Z Z<|ND<|?_
 refine gw_condN Z (fun h2=>?_) (fun h2=>?_)
 ·have hlne1:=len_ne_of h2
  refine SQ<|RG<|AS Z Z<|ND<|RT Tryz.func118 Z Z<|?_
  simp [eqBuffers,eqL_len _ _ _ hlne1,h1]
 have hlen2:=len_eq_of h2
 refine SK<|SQ<|SQ<|RG<|AS Z Z<|ND<|BK<|?_
 refine gw_loopC (α:=Nat) (fun z_=>z_ ≤ x.chunks.length ∧ eqBuffers x y = eqL Chunk.cells (x.chunks.drop z_) (y.chunks.drop z_)) (fun z_=>x.chunks.length - z_) (fun e z_=>(5,.int .i64 (z_ : Int)) :: e) 0 [(2,_),(3,_)] (Sub.consE Z Z (Sub.cons (i:=2) Z (Sub.cons (i:=3) Z (Sub.nil _)))) ?_ ?_
 ·exact ⟨Nat.zero_le _,by simp [eqBuffers,h1]⟩
 ·rintro i hI3 ih3
  try dsimp only
  obtain ⟨hle,hI⟩:=hI3
  refine SQ<|SQ<|RG<|MV Z Z<|FA Z tyF_impl_Buffer_1 Z<|LD (i:=1) Z tyP_S_impl_Chunk Z Z Z<|rw_len Z tyE_S_impl_Chunk Z<|rw_lss Z Z Z<|ND<|?_
  refine gw_cond Z (fun h3=>?_) (fun h3=>?_)
  ·have hi4:=lt_of_dec h3
   obtain ⟨x5,hx5⟩:=get_of_lt hi4
   have hd5:=drop_cons hx5
   refine SK<|SQ<|BK<|SQ<|gw_draw' [dd 0,dd 1,dd 2,dd 3,dd 4,dd 5,dd 6,dd 7,dd 8,dd 9] [10] mixed Z (FD Z) (ts:=[_]) Z<|DT Z Z (fun _ q=>FA Z tyF_impl_Buffer_1 Z q)<|DT Z Z (fun _ q=>LD (i:=1) Z tyP_S_impl_Chunk Z Z Z q)<|DM Z Z Z<|?_
   have hq6:=hA0.plain hx5
   refine DT Z Z (fun _ q=>rw_indexAddr (i) Z tyE_S_impl_Chunk Z Z Z (hA0.some hi4) hi4 q)<|DT Z Z (fun _ q=>rw_loadX_s [_,_] Z tyS_impl_Chunk Z Z (fun w hs=>hq6.lds0 (n:=2) hs Z) q)<|DT Z Z (fun _ q=>FA Z tyF_impl_Buffer_1 Z q)<|DT Z Z (fun _ q=>LD (i:=0) Z tyP_S_impl_Chunk Z Z Z q)<|DM Z Z Z<|?_
   have hi7 : i < y.chunks.length:=by omega
   obtain ⟨x8,hx8⟩:=get_of_lt hi7
   have hd8:=drop_cons hx8
   have hq9:=hA1_0.plain hx8
   refine DT Z Z (fun _ q=>rw_indexAddr (i) Z tyE_S_impl_Chunk Z Z Z (hA1_0.some hi7) hi7 q)<|DT Z Z (fun _ q=>rw_loadX_s [_,_] Z tyS_impl_Chunk Z Z (fun w hs=>hq9.lds0 (n:=2) hs Z) q)<|dw_nil<|rw_neqQ Z tyQ_impl_Chunk Z Z Z Z<|ND<|?_
   refine gw_condN Z (fun h4=>?_) (fun h4=>?_)
   ·refine SQ<|RG<|AS Z Z<|ND<|RT Tryz.func118 Z Z<|?_
    rw [hI,hd5,hd8]; simp [eqL,show eqC (Chunk.cells x5) (Chunk.cells x8) = false from h4]
   refine SK<|IB<|RG<|MV Z Z<|rw_add Z Z Z<|AS Z Z<|ND<|?_
   refine gw_sub (Sub.consE (i:=5) Z (int_succ (by omega)) (Sub.cons (i:=2) Z (Sub.cons (i:=3) Z (Sub.nil _)))) (ih3 (i + 1) ?_ ?_)
   ·exact ⟨by omega,by rw [hI,hd5,hd8]; simp [eqL,show eqC (Chunk.cells x5) (Chunk.cells x8) = true from h4]⟩
   ·show x.chunks.length - (i + 1) < x.chunks.length - i; omega
  have hn10:=nil_of_dec h3
  refine EX Z<|SQ<|RG<|AS Z Z<|ND<|RT Tryz.func118 Z Z<|?_
  rw [hI,hn10,drop_nil_of hlen2 hn10]; rfl
theorem spec_EqualReceivers {w : World} {cs : List Value} {x : Receiver} (hv : RdReceiver w cs x) (hb : x.le 1048576) {cs1_ : List Value} {y : Receiver} (hv1_ : RdReceiver w cs1_ y) : CV Tryz.prog 69 [.agg cs.toArray, .agg cs1_.toArray] w (.bool (eqReceivers x y)) := by
 obtain ⟨v0,rfl,k0⟩:=hv
 obtain ⟨A0,c0,rfl,hA0⟩:=k0
 obtain ⟨hb0,hb1⟩:=hb
 obtain ⟨v1_0,rfl,k1_0⟩:=hv1_
 obtain ⟨A1_0,c1_0,rfl,hA1_0⟩:=k1_0
 refine cv_of Tryz.func69 Z Z Z<|SQ<|RG<|BX [_,_,_,_,_,_] Z Z Z<|fun b1=>BX [_,_,_,_,_,_] Z Z Z<|fun b2=>AS Z Z<|ND<|SQ<|RG<|FA Z tyF_impl_Receiver_0 Z<|LD (i:=1) Z tyP_int Z Z Z<|FA Z tyF_impl_Receiver_0 Z<|LD (i:=0) Z tyP_int Z Z Z<|EQ1 Z Z Z<|MV Z Z<|?_
 refine rw_caseL (j:=10) Z (fun h1=>?_) (fun h1=>?_)
 ·refine ON Z Z Z<|FA Z tyF_impl_Receiver_1 Z<|ON Z Z Z<|LS (i:=1) [_,_] Z tyS_impl_Buffer Z Z Z Z<|ON Z Z Z<|FA Z tyF_impl_Receiver_1 Z<|ON Z Z Z<|LS (i:=0) [_,_] Z tyS_impl_Buffer Z Z Z Z<|ON Z Z Z<|CV1 Z fun_spec_EqualBuffers Z (fun w hs=>spec_EqualBuffers ⟨_,Z,(hA0.s Pl.keeps hs)⟩ ⟨hb0,hb1⟩ ⟨_,Z,(hA1_0.s Pl.keeps hs)⟩)<|PT Z Z Z Z<|MV Z Z<|?_
  refine rw_caseL (j:=17) Z (fun h2=>?_) (fun h2=>?_)
  ·refine ON Z Z Z<|FA Z tyF_impl_Receiver_2 Z<|ON Z Z Z<|LD (i:=1) Z tyP_int Z Z Z<|ON Z Z Z<|FA Z tyF_impl_Receiver_2 Z<|ON Z Z Z<|LD (i:=0) Z tyP_int Z Z Z<|ON Z Z Z<|EQ1 Z Z Z<|PT Z Z Z Z<|MV Z Z<|?_
   refine rw_caseL (j:=24) Z (fun h3=>?_) (fun h3=>?_)
   ·refine ON Z Z Z<|FA Z tyF_impl_Receiver_3 Z<|ON Z Z Z<|LD (i:=1) Z tyP_int Z Z Z<|ON Z Z Z<|FA Z tyF_impl_Receiver_3 Z<|ON Z Z Z<|LD (i:=0) Z tyP_int Z Z Z<|ON Z Z Z<|EQ1 Z Z Z<|PT Z Z Z Z<|MV Z Z<|?_
    refine rw_caseL (j:=31) Z (fun h4=>?_) (fun h4=>?_)
    ·refine ON Z Z Z<|FA Z tyF_impl_Receiver_4 Z<|ON Z Z Z<|LD (i:=1) Z tyP_int Z Z Z<|ON Z Z Z<|FA Z tyF_impl_Receiver_4 Z<|ON Z Z Z<|LD (i:=0) Z tyP_int Z Z Z<|ON Z Z Z<|EQ1 Z Z Z<|PT Z Z Z Z<|AS Z Z<|ND<|RT Tryz.func69 Z Z<|?_
     simp [eqReceivers,h1,h2,h3,h4]
    refine SKP Z<|PF Z Z Z Z<|AS Z Z<|ND<|RT Tryz.func69 Z Z<|?_
    simp [eqReceivers,h1,h2,h3,h4]
   refine SKP Z<|PF Z Z Z Z<|MV Z Z<|SKP Z<|PF Z Z Z Z<|AS Z Z<|ND<|RT Tryz.func69 Z Z<|?_
   simp [eqReceivers,h1,h2,h3]
  refine SKP Z<|PF Z Z Z Z<|MV Z Z<|SKP Z<|PF Z Z Z Z<|MV Z Z<|SKP Z<|PF Z Z Z Z<|AS Z Z<|ND<|RT Tryz.func69 Z Z<|?_
  simp [eqReceivers,h1,h2]
 refine SKP Z<|PF Z Z Z Z<|MV Z Z<|SKP Z<|PF Z Z Z Z<|MV Z Z<|SKP Z<|PF Z Z Z Z<|MV Z Z<|SKP Z<|PF Z Z Z Z<|AS Z Z<|ND<|RT Tryz.func69 Z Z<|?_
 simp [eqReceivers,h1]
set_option maxRecDepth 20000 in
theorem spec_EqualStreams {w : World} {cs : List Value} {x : Stream} (hv : RdStream w cs x) (hb : x.le 1048576) {cs1_ : List Value} {y : Stream} (hv1_ : RdStream w cs1_ y) : CV Tryz.prog 9 [.agg cs.toArray, .agg cs1_.toArray] w (.bool (eqStreams x y)) := by
 obtain ⟨v0,v1,v2,v3,v4,rfl,k0,k1,k2,k3,k4⟩:=hv
 obtain ⟨A0,c0,rfl,hA0⟩:=k0
 obtain ⟨A1,c1,rfl,hA1⟩:=k1
 obtain ⟨A2,c2,rfl,hA2⟩:=k2
 obtain ⟨A3,c3,rfl,hA3⟩:=k3
 obtain ⟨A4,c4,rfl,hA4⟩:=k4
 obtain ⟨hb0,hb1,hb2,hb3,hb4,hb5⟩:=hb
 obtain ⟨v1_0,v1_1,v1_2,v1_3,v1_4,rfl,k1_0,k1_1,k1_2,k1_3,k1_4⟩:=hv1_
 obtain ⟨A1_0,c1_0,rfl,hA1_0⟩:=k1_0
 obtain ⟨A1_1,c1_1,rfl,hA1_1⟩:=k1_1
 obtain ⟨A1_2,c1_2,rfl,hA1_2⟩:=k1_2
 obtain ⟨A1_3,c1_3,rfl,hA1_3⟩:=k1_3
 obtain ⟨A1_4,c1_4,rfl,hA1_4⟩:=k1_4
 refine cv_of Tryz.func9 Z Z Z<|SQ<|RG<|BX [_,_,_,_,_,_,_,_,_,_,_,_,_,_,_,_,_,_,_,_,_,_,_,_,_,_,_,_,_,_,_,_,_,_,_,_,_,_,_] Z Z Z<|fun b1=>BX [_,_,_,_,_,_,_,_,_,_,_,_,_,_,_,_,_,_,_,_,_,_,_,_,_,_,_,_,_,_,_,_,_,_,_,_,_,_,_] Z Z Z<|fun b2=>AS Z Z<|ND<|SQ<|RG<|FA Z tyF_impl_Stream_0 Z<|LD (i:=1) Z tyP_int Z Z Z<|FA Z tyF_impl_Stream_0 Z<|LD (i:=0) Z tyP_int Z Z Z<|?_
 refine EQ1 Z Z Z<|MV Z Z<|?_
 refine rw_caseL (j:=10) Z (fun h1=>?_) (fun h1=>?_)
 ·refine ON Z Z Z<|FA Z tyF_impl_Stream_1 Z<|ON Z Z Z<|LS (i:=1) [_,_,_,_,_,_,_,_,_,_,_,_] Z tyS_impl_Sender Z Z Z Z<|ON Z Z Z<|FA Z tyF_impl_Stream_1 Z<|ON Z Z Z<|LS (i:=0) [_,_,_,_,_,_,_,_,_,_,_,_] Z tyS_impl_Sender Z Z Z Z<|ON Z Z Z<|CV1 Z fun_spec_EqualSenders Z (fun w hs=>spec_EqualSenders ⟨_,_,_,_,Z,(hA0.s Pl.keeps hs),(hA1.s Pl.keeps hs),(hA2.s Pl.keeps hs),(hA3.s Pl.keeps hs)⟩ ⟨hb0,hb1,hb2,hb3⟩ ⟨_,_,_,_,Z,(hA1_0.s Pl.keeps hs),(hA1_1.s Pl.keeps hs),(hA1_2.s Pl.keeps hs),(hA1_3.s Pl.keeps hs)⟩)<|?_
  refine PT Z Z Z Z<|MV Z Z<|?_
  refine rw_caseL (j:=17) Z (fun h2=>?_) (fun h2=>?_)
  ·refine ON Z Z Z<|FA Z tyF_impl_Stream_2 Z<|ON Z Z Z<|LS (i:=1) [_,_,_,_] Z tyS_impl_Credit Z Z Z Z<|ON Z Z Z<|FA Z tyF_impl_Stream_2 Z<|ON Z Z Z<|LS (i:=0) [_,_,_,_] Z tyS_impl_Credit Z Z Z Z<|ON Z Z Z<|rw_eqlQ Z tyQ_impl_Credit Z Z Z Z<|PT Z Z Z Z<|MV Z Z<|?_
   refine rw_caseL (j:=24) Z (fun h3=>?_) (fun h3=>?_)
   ·refine ON Z Z Z<|FA Z tyF_impl_Stream_3 Z<|ON Z Z Z<|LS (i:=1) [_,_,_,_,_,_] Z tyS_impl_Receiver Z Z Z Z<|ON Z Z Z<|FA Z tyF_impl_Stream_3 Z<|ON Z Z Z<|LS (i:=0) [_,_,_,_,_,_] Z tyS_impl_Receiver Z Z Z Z<|ON Z Z Z<|CV1 Z fun_spec_EqualReceivers Z (fun w hs=>spec_EqualReceivers ⟨_,Z,(hA4.s Pl.keeps hs)⟩ ⟨hb4,hb5⟩ ⟨_,Z,(hA1_4.s Pl.keeps hs)⟩)<|PT Z Z Z Z<|MV Z Z<|?_
    refine rw_caseL (j:=31) Z (fun h4=>?_) (fun h4=>?_)
    ·refine ON Z Z Z<|FA Z tyF_impl_Stream_4 Z<|ON Z Z Z<|LS (i:=1) [_,_,_,_,_,_] Z tyS_impl_Window Z Z Z Z<|ON Z Z Z<|FA Z tyF_impl_Stream_4 Z<|ON Z Z Z<|LS (i:=0) [_,_,_,_,_,_] Z tyS_impl_Window Z Z Z Z<|ON Z Z Z<|rw_eqlQ Z tyQ_impl_Window Z Z Z Z<|PT Z Z Z Z<|MV Z Z<|?_
     refine rw_caseL (j:=38) Z (fun h5=>?_) (fun h5=>?_)
     ·refine ON Z Z Z<|FA Z tyF_impl_Stream_5 Z<|ON Z Z Z<|LS (i:=1) [_,_] Z tyS_impl_Priority Z Z Z Z<|ON Z Z Z<|FA Z tyF_impl_Stream_5 Z<|ON Z Z Z<|LS (i:=0) [_,_] Z tyS_impl_Priority Z Z Z Z<|ON Z Z Z<|rw_eqlQ Z tyQ_impl_Priority Z Z Z Z<|PT Z Z Z Z<|MV Z Z<|?_
      refine rw_caseL (j:=45) Z (fun h6=>?_) (fun h6=>?_)
      ·refine ON Z Z Z<|FA Z tyF_impl_Stream_6 Z<|ON Z Z Z<|LD (i:=1) Z tyP_bool Z Z Z<|ON Z Z Z<|FA Z tyF_impl_Stream_6 Z<|ON Z Z Z<|LD (i:=0) Z tyP_bool Z Z Z<|ON Z Z Z<|rw_eqlB (by kernel_rfl) Z Z Z<|PT Z Z Z Z<|MV Z Z<|?_
       refine rw_caseL (j:=52) Z (fun h7=>?_) (fun h7=>?_)
       ·refine ON Z Z Z<|FA Z tyF_impl_Stream_7 Z<|ON Z Z Z<|LD (i:=1) Z tyP_bool Z Z Z<|ON Z Z Z<|FA Z tyF_impl_Stream_7 Z<|ON Z Z Z<|LD (i:=0) Z tyP_bool Z Z Z<|ON Z Z Z<|rw_eqlB (by kernel_rfl) Z Z Z<|PT Z Z Z Z<|MV Z Z<|?_
        refine rw_caseL (j:=59) Z (fun h8=>?_) (fun h8=>?_)
        ·refine ON Z Z Z<|FA Z tyF_impl_Stream_8 Z<|ON Z Z Z<|LD (i:=1) Z tyP_bool Z Z Z<|ON Z Z Z<|FA Z tyF_impl_Stream_8 Z<|ON Z Z Z<|LD (i:=0) Z tyP_bool Z Z Z<|ON Z Z Z<|rw_eqlB (by kernel_rfl) Z Z Z<|PT Z Z Z Z<|MV Z Z<|?_
         refine rw_caseL (j:=66) Z (fun h9=>?_) (fun h9=>?_)
         ·refine ON Z Z Z<|FA Z tyF_impl_Stream_9 Z<|ON Z Z Z<|LD (i:=1) Z tyP_bool Z Z Z<|ON Z Z Z<|FA Z tyF_impl_Stream_9 Z<|ON Z Z Z<|LD (i:=0) Z tyP_bool Z Z Z<|ON Z Z Z<|rw_eqlB (by kernel_rfl) Z Z Z<|PT Z Z Z Z<|MV Z Z<|?_
          refine rw_caseL (j:=73) Z (fun h10=>?_) (fun h10=>?_)
          ·refine ON Z Z Z<|FA Z tyF_impl_Stream_10 Z<|ON Z Z Z<|LD (i:=1) Z tyP_bool Z Z Z<|ON Z Z Z<|FA Z tyF_impl_Stream_10 Z<|ON Z Z Z<|LD (i:=0) Z tyP_bool Z Z Z<|ON Z Z Z<|rw_eqlB (by kernel_rfl) Z Z Z<|PT Z Z Z Z<|MV Z Z<|?_
           refine rw_caseL (j:=80) Z (fun h11=>?_) (fun h11=>?_)
           ·refine ON Z Z Z<|FA Z tyF_impl_Stream_11 Z<|ON Z Z Z<|LD (i:=1) Z tyP_bool Z Z Z<|ON Z Z Z<|FA Z tyF_impl_Stream_11 Z<|ON Z Z Z<|LD (i:=0) Z tyP_bool Z Z Z<|ON Z Z Z<|rw_eqlB (by kernel_rfl) Z Z Z<|PT Z Z Z Z<|MV Z Z<|?_
            refine rw_caseL (j:=87) Z (fun h12=>?_) (fun h12=>?_)
            ·refine ON Z Z Z<|FA Z tyF_impl_Stream_12 Z<|ON Z Z Z<|LD (i:=1) Z tyP_int Z Z Z<|ON Z Z Z<|FA Z tyF_impl_Stream_12 Z<|ON Z Z Z<|LD (i:=0) Z tyP_int Z Z Z<|ON Z Z Z<|EQ1 Z Z Z<|PT Z Z Z Z<|MV Z Z<|?_
             refine rw_caseL (j:=94) Z (fun h13=>?_) (fun h13=>?_)
             ·refine ON Z Z Z<|FA Z tyF_impl_Stream_13 Z<|ON Z Z Z<|LD (i:=1) Z tyP_bool Z Z Z<|ON Z Z Z<|FA Z tyF_impl_Stream_13 Z<|ON Z Z Z<|LD (i:=0) Z tyP_bool Z Z Z<|ON Z Z Z<|rw_eqlB (by kernel_rfl) Z Z Z<|PT Z Z Z Z<|AS Z Z<|ND<|RT Tryz.func9 Z Z<|?_
              simp [eqStreams,Credit.cells,Window.cells,Priority.cells,h1,h2,h3,h4,h5,h6,h7,h8,h9,h10,h11,h12,h13]
             refine SKP Z<|PF Z Z Z Z<|AS Z Z<|ND<|RT Tryz.func9 Z Z<|?_
             simp [eqStreams,Credit.cells,Window.cells,Priority.cells,h1,h2,h3,h4,h5,h6,h7,h8,h9,h10,h11,h12,h13]
            refine SKP Z<|PF Z Z Z Z<|MV Z Z<|SKP Z<|PF Z Z Z Z<|AS Z Z<|ND<|RT Tryz.func9 Z Z<|?_
            simp [eqStreams,Credit.cells,Window.cells,Priority.cells,h1,h2,h3,h4,h5,h6,h7,h8,h9,h10,h11,h12]
           refine SKP Z<|PF Z Z Z Z<|MV Z Z<|SKP Z<|PF Z Z Z Z<|MV Z Z<|SKP Z<|PF Z Z Z Z<|AS Z Z<|ND<|RT Tryz.func9 Z Z<|?_
           simp [eqStreams,Credit.cells,Window.cells,Priority.cells,h1,h2,h3,h4,h5,h6,h7,h8,h9,h10,h11]
          refine SKP Z<|PF Z Z Z Z<|MV Z Z<|SKP Z<|PF Z Z Z Z<|MV Z Z<|SKP Z<|PF Z Z Z Z<|MV Z Z<|SKP Z<|PF Z Z Z Z<|AS Z Z<|ND<|RT Tryz.func9 Z Z<|?_
          simp [eqStreams,Credit.cells,Window.cells,Priority.cells,h1,h2,h3,h4,h5,h6,h7,h8,h9,h10]
         refine SKP Z<|PF Z Z Z Z<|MV Z Z<|SKP Z<|PF Z Z Z Z<|MV Z Z<|SKP Z<|PF Z Z Z Z<|MV Z Z<|SKP Z<|PF Z Z Z Z<|MV Z Z<|SKP Z<|PF Z Z Z Z<|AS Z Z<|ND<|RT Tryz.func9 Z Z<|?_
         simp [eqStreams,Credit.cells,Window.cells,Priority.cells,h1,h2,h3,h4,h5,h6,h7,h8,h9]
        refine SKP Z<|PF Z Z Z Z<|MV Z Z<|SKP Z<|PF Z Z Z Z<|MV Z Z<|SKP Z<|PF Z Z Z Z<|MV Z Z<|SKP Z<|PF Z Z Z Z<|MV Z Z<|SKP Z<|PF Z Z Z Z<|MV Z Z<|SKP Z<|PF Z Z Z Z<|AS Z Z<|ND<|RT Tryz.func9 Z Z<|?_
        simp [eqStreams,Credit.cells,Window.cells,Priority.cells,h1,h2,h3,h4,h5,h6,h7,h8]
       refine SKP Z<|PF Z Z Z Z<|MV Z Z<|SKP Z<|PF Z Z Z Z<|MV Z Z<|SKP Z<|PF Z Z Z Z<|MV Z Z<|SKP Z<|PF Z Z Z Z<|MV Z Z<|SKP Z<|PF Z Z Z Z<|MV Z Z<|SKP Z<|PF Z Z Z Z<|MV Z Z<|SKP Z<|PF Z Z Z Z<|AS Z Z<|ND<|RT Tryz.func9 Z Z<|?_
       simp [eqStreams,Credit.cells,Window.cells,Priority.cells,h1,h2,h3,h4,h5,h6,h7]
      refine SKP Z<|PF Z Z Z Z<|MV Z Z<|SKP Z<|PF Z Z Z Z<|MV Z Z<|SKP Z<|PF Z Z Z Z<|MV Z Z<|SKP Z<|PF Z Z Z Z<|MV Z Z<|SKP Z<|PF Z Z Z Z<|MV Z Z<|SKP Z<|PF Z Z Z Z<|MV Z Z<|SKP Z<|PF Z Z Z Z<|MV Z Z<|SKP Z<|PF Z Z Z Z<|AS Z Z<|ND<|RT Tryz.func9 Z Z<|?_
      simp [eqStreams,Credit.cells,Window.cells,Priority.cells,h1,h2,h3,h4,h5,h6]
     refine SKP Z<|PF Z Z Z Z<|MV Z Z<|SKP Z<|PF Z Z Z Z<|MV Z Z<|SKP Z<|PF Z Z Z Z<|MV Z Z<|SKP Z<|PF Z Z Z Z<|MV Z Z<|SKP Z<|PF Z Z Z Z<|MV Z Z<|SKP Z<|PF Z Z Z Z<|MV Z Z<|SKP Z<|PF Z Z Z Z<|MV Z Z<|SKP Z<|PF Z Z Z Z<|MV Z Z<|SKP Z<|PF Z Z Z Z<|AS Z Z<|ND<|RT Tryz.func9 Z Z<|?_
     simp [eqStreams,Credit.cells,Window.cells,Priority.cells,h1,h2,h3,h4,h5]
    refine SKP Z<|PF Z Z Z Z<|MV Z Z<|SKP Z<|PF Z Z Z Z<|MV Z Z<|SKP Z<|PF Z Z Z Z<|MV Z Z<|SKP Z<|PF Z Z Z Z<|MV Z Z<|SKP Z<|PF Z Z Z Z<|MV Z Z<|SKP Z<|PF Z Z Z Z<|MV Z Z<|SKP Z<|PF Z Z Z Z<|MV Z Z<|SKP Z<|PF Z Z Z Z<|MV Z Z<|SKP Z<|PF Z Z Z Z<|MV Z Z<|SKP Z<|PF Z Z Z Z<|AS Z Z<|?_
    refine ND<|RT Tryz.func9 Z Z<|?_
    simp [eqStreams,Credit.cells,Window.cells,Priority.cells,h1,h2,h3,h4]
   refine SKP Z<|PF Z Z Z Z<|MV Z Z<|SKP Z<|PF Z Z Z Z<|MV Z Z<|SKP Z<|PF Z Z Z Z<|MV Z Z<|SKP Z<|PF Z Z Z Z<|MV Z Z<|SKP Z<|PF Z Z Z Z<|MV Z Z<|SKP Z<|PF Z Z Z Z<|MV Z Z<|SKP Z<|PF Z Z Z Z<|MV Z Z<|SKP Z<|PF Z Z Z Z<|MV Z Z<|SKP Z<|PF Z Z Z Z<|MV Z Z<|SKP Z<|PF Z Z Z Z<|MV Z Z<|?_
   refine SKP Z<|PF Z Z Z Z<|AS Z Z<|ND<|RT Tryz.func9 Z Z<|?_
   simp [eqStreams,Credit.cells,Window.cells,Priority.cells,h1,h2,h3]
  refine SKP Z<|PF Z Z Z Z<|MV Z Z<|SKP Z<|PF Z Z Z Z<|MV Z Z<|SKP Z<|PF Z Z Z Z<|MV Z Z<|SKP Z<|PF Z Z Z Z<|MV Z Z<|SKP Z<|PF Z Z Z Z<|MV Z Z<|SKP Z<|PF Z Z Z Z<|MV Z Z<|SKP Z<|PF Z Z Z Z<|MV Z Z<|SKP Z<|PF Z Z Z Z<|MV Z Z<|SKP Z<|PF Z Z Z Z<|MV Z Z<|SKP Z<|PF Z Z Z Z<|MV Z Z<|?_
  refine SKP Z<|PF Z Z Z Z<|MV Z Z<|SKP Z<|PF Z Z Z Z<|AS Z Z<|ND<|RT Tryz.func9 Z Z<|?_
  simp [eqStreams,Credit.cells,Window.cells,Priority.cells,h1,h2]
 refine SKP Z<|PF Z Z Z Z<|MV Z Z<|SKP Z<|PF Z Z Z Z<|MV Z Z<|SKP Z<|PF Z Z Z Z<|MV Z Z<|SKP Z<|PF Z Z Z Z<|MV Z Z<|SKP Z<|PF Z Z Z Z<|MV Z Z<|SKP Z<|PF Z Z Z Z<|MV Z Z<|SKP Z<|PF Z Z Z Z<|MV Z Z<|SKP Z<|PF Z Z Z Z<|MV Z Z<|SKP Z<|PF Z Z Z Z<|MV Z Z<|SKP Z<|PF Z Z Z Z<|MV Z Z<|?_
 refine SKP Z<|PF Z Z Z Z<|MV Z Z<|SKP Z<|PF Z Z Z Z<|MV Z Z<|SKP Z<|PF Z Z Z Z<|AS Z Z<|ND<|RT Tryz.func9 Z Z<|?_
 simp [eqStreams,Credit.cells,Window.cells,Priority.cells,h1]
theorem spec_IsCredit (c : Credit) (w : World) : CV Tryz.prog 80 [.agg c.cells.toArray] w (.bool (isCredit c)) := by
 refine cv_of Tryz.func80 Z Z Z<|SQ<|RG<|BX [_,_,_,_] Z Z Z<|fun b1=>AS Z Z<|ND<|SQ<|RG<|FA Z tyF_impl_Credit_0 Z<|LD (i:=0) Z tyP_int Z Z Z<|CV1 Z fun_spec_l4Quic Z (fun w hs=>spec_l4Quic _ w)<|MV Z Z<|?_
 refine rw_caseL (j:=6) Z (fun h1=>?_) (fun h1=>?_)
 ·refine ON Z Z Z<|FA Z tyF_impl_Credit_1 Z<|ON Z Z Z<|LD (i:=0) Z tyP_int Z Z Z<|ON Z Z Z<|FA Z tyF_impl_Credit_0 Z<|ON Z Z Z<|LD (i:=0) Z tyP_int Z Z Z<|ON Z Z Z<|CV1 Z fun_spec_l1In Z (fun w hs=>spec_l1In _ _ _ w)<|PT Z Z Z Z<|MV Z Z<|?_
  refine rw_caseL (j:=13) Z (fun h2=>?_) (fun h2=>?_)
  ·refine ON Z Z Z<|FA Z tyF_impl_Credit_2 Z<|ON Z Z Z<|LD (i:=0) Z tyP_int Z Z Z<|ON Z Z Z<|FA Z tyF_impl_Credit_0 Z<|ON Z Z Z<|LD (i:=0) Z tyP_int Z Z Z<|ON Z Z Z<|CV1 Z fun_spec_l1In Z (fun w hs=>spec_l1In _ _ _ w)<|PT Z Z Z Z<|MV Z Z<|?_
   refine rw_caseL (j:=20) Z (fun h3=>?_) (fun h3=>?_)
   ·refine ON Z Z Z<|FA Z tyF_impl_Credit_3 Z<|ON Z Z Z<|LD (i:=0) Z tyP_int Z Z Z<|ON Z Z Z<|FA Z tyF_impl_Credit_0 Z<|ON Z Z Z<|LD (i:=0) Z tyP_int Z Z Z<|ON Z Z Z<|CV1 Z fun_spec_l1In Z (fun w hs=>spec_l1In _ _ _ w)<|PT Z Z Z Z<|AS Z Z<|ND<|RT Tryz.func80 Z Z<|?_
    simp [isCredit,h1,h2,h3]
   refine SKP Z<|PF Z Z Z Z<|AS Z Z<|ND<|RT Tryz.func80 Z Z<|?_
   simp [isCredit,h1,h2,h3]
  refine SKP Z<|PF Z Z Z Z<|MV Z Z<|SKP Z<|PF Z Z Z Z<|AS Z Z<|ND<|RT Tryz.func80 Z Z<|?_
  simp [isCredit,h1,h2]
 refine SKP Z<|PF Z Z Z Z<|MV Z Z<|SKP Z<|PF Z Z Z Z<|MV Z Z<|SKP Z<|PF Z Z Z Z<|AS Z Z<|ND<|RT Tryz.func80 Z Z<|?_
 simp [isCredit,h1]
set_option maxRecDepth 20000 in
theorem spec_IsWindow (p : Window) (w : World) : CV Tryz.prog 82 [.agg p.cells.toArray] w (.bool (isWindow p)) := by
 refine cv_of Tryz.func82 Z Z Z<|SQ<|RG<|BX [_,_,_,_,_,_] Z Z Z<|fun b1=>AS Z Z<|ND<|SQ<|RG<|FA Z tyF_impl_Window_1 Z<|LD (i:=0) Z tyP_int Z Z Z<|CV1 Z fun_spec_l1In Z (fun w hs=>spec_l1In _ _ _ w)<|MV Z Z<|?_
 refine rw_caseL (j:=6) Z (fun h1=>?_) (fun h1=>?_)
 ·refine ON Z Z Z<|FA Z tyF_impl_Window_0 Z<|ON Z Z Z<|LD (i:=0) Z tyP_int Z Z Z<|ON Z Z Z<|FA Z tyF_impl_Window_1 Z<|ON Z Z Z<|LD (i:=0) Z tyP_int Z Z Z<|ON Z Z Z<|CV1 Z fun_spec_l1In Z (fun w hs=>spec_l1In _ _ _ w)<|PT Z Z Z Z<|MV Z Z<|?_
  refine rw_caseL (j:=13) Z (fun h2=>?_) (fun h2=>?_)
  ·refine ON Z Z Z<|FA Z tyF_impl_Window_2 Z<|ON Z Z Z<|LD (i:=0) Z tyP_int Z Z Z<|ON Z Z Z<|CV1 Z fun_spec_l1In Z (fun w hs=>spec_l1In _ _ _ w)<|PT Z Z Z Z<|MV Z Z<|?_
   refine rw_caseL (j:=18) Z (fun h3=>?_) (fun h3=>?_)
   ·refine ON Z Z Z<|FA Z tyF_impl_Window_3 Z<|ON Z Z Z<|LD (i:=0) Z tyP_int Z Z Z<|ON Z Z Z<|FA Z tyF_impl_Window_2 Z<|ON Z Z Z<|LD (i:=0) Z tyP_int Z Z Z<|ON Z Z Z<|CV1 Z fun_spec_l1In Z (fun w hs=>spec_l1In _ _ _ w)<|PT Z Z Z Z<|MV Z Z<|?_
    refine rw_caseL (j:=25) Z (fun h4=>?_) (fun h4=>?_)
    ·refine ON Z Z Z<|FA Z tyF_impl_Window_4 Z<|ON Z Z Z<|LD (i:=0) Z tyP_int Z Z Z<|ON Z Z Z<|FA Z tyF_impl_Window_3 Z<|ON Z Z Z<|LD (i:=0) Z tyP_int Z Z Z<|ON Z Z Z<|CV1 Z fun_spec_l1In Z (fun w hs=>spec_l1In _ _ _ w)<|PT Z Z Z Z<|MV Z Z<|?_
     refine rw_caseL (j:=32) Z (fun h5=>?_) (fun h5=>?_)
     ·refine ON Z Z Z<|FA Z tyF_impl_Window_2 Z<|ON Z Z Z<|LD (i:=0) Z tyP_int Z Z Z<|ON Z Z Z<|FA Z tyF_impl_Window_4 Z<|ON Z Z Z<|LD (i:=0) Z tyP_int Z Z Z<|ON Z Z Z<|FA Z tyF_impl_Window_0 Z<|ON Z Z Z<|LD (i:=0) Z tyP_int Z Z Z<|ON Z Z Z<|rw_add Z Z Z<|ON Z Z Z<|rw_leq Z Z Z<|PT Z Z Z Z<|MV Z Z<|?_
      refine rw_caseL (j:=42) Z (fun h6=>?_) (fun h6=>?_)
      ·refine ON Z Z Z<|FA Z tyF_impl_Window_5 Z<|ON Z Z Z<|LD (i:=0) Z tyP_int Z Z Z<|ON Z Z Z<|CV1 Z fun_spec_l1In Z (fun w hs=>spec_l1In _ _ _ w)<|PT Z Z Z Z<|AS Z Z<|ND<|RT Tryz.func82 Z Z<|?_
       simp [isWindow,maxQuic,h1,h2,h3,h4,h5,h6]
      refine SKP Z<|PF Z Z Z Z<|AS Z Z<|ND<|RT Tryz.func82 Z Z<|?_
      simp [isWindow,maxQuic,h1,h2,h3,h4,h5,h6]
     refine SKP Z<|PF Z Z Z Z<|MV Z Z<|SKP Z<|PF Z Z Z Z<|AS Z Z<|ND<|RT Tryz.func82 Z Z<|?_
     simp [isWindow,maxQuic,h1,h2,h3,h4,h5]
    refine SKP Z<|PF Z Z Z Z<|MV Z Z<|SKP Z<|PF Z Z Z Z<|MV Z Z<|SKP Z<|PF Z Z Z Z<|AS Z Z<|ND<|RT Tryz.func82 Z Z<|?_
    simp [isWindow,maxQuic,h1,h2,h3,h4]
   refine SKP Z<|PF Z Z Z Z<|MV Z Z<|SKP Z<|PF Z Z Z Z<|MV Z Z<|SKP Z<|PF Z Z Z Z<|MV Z Z<|SKP Z<|PF Z Z Z Z<|AS Z Z<|ND<|RT Tryz.func82 Z Z<|?_
   simp [isWindow,maxQuic,h1,h2,h3]
  refine SKP Z<|PF Z Z Z Z<|MV Z Z<|SKP Z<|PF Z Z Z Z<|MV Z Z<|SKP Z<|PF Z Z Z Z<|MV Z Z<|SKP Z<|PF Z Z Z Z<|MV Z Z<|SKP Z<|PF Z Z Z Z<|AS Z Z<|ND<|RT Tryz.func82 Z Z<|?_
  simp [isWindow,maxQuic,h1,h2]
 refine SKP Z<|PF Z Z Z Z<|MV Z Z<|SKP Z<|PF Z Z Z Z<|MV Z Z<|SKP Z<|PF Z Z Z Z<|MV Z Z<|SKP Z<|PF Z Z Z Z<|MV Z Z<|SKP Z<|PF Z Z Z Z<|MV Z Z<|SKP Z<|PF Z Z Z Z<|AS Z Z<|ND<|RT Tryz.func82 Z Z<|?_
 simp [isWindow,maxQuic,h1]
theorem spec_IsPriority (p : Priority) (w : World) : CV Tryz.prog 83 [.agg p.cells.toArray] w (.bool (isPriority p)) := by
 refine cv_of Tryz.func83 Z Z Z<|SQ<|RG<|BX [_,_] Z Z Z<|fun b1=>AS Z Z<|ND<|SQ<|RG<|FA Z tyF_impl_Priority_0 Z<|LD (i:=0) Z tyP_int Z Z Z<|CV1 Z fun_spec_l1In Z (fun w hs=>spec_l1In _ _ _ w)<|AS Z Z<|ND<|RT Tryz.func83 Z Z<|?_
 simp only [isPriority] <;> rfl
set_option maxHeartbeats 2000000 in
set_option maxRecDepth 20000 in
theorem spec_IsStream {w : World} {cs : List Value} {x : Stream} (hv : RdStream w cs x) (hb : x.le 1048576) : CV Tryz.prog 16 [.agg cs.toArray] w (.bool (isStreamS x)) := by
 obtain ⟨v0,v1,v2,v3,v4,rfl,k0,k1,k2,k3,k4⟩:=hv
 obtain ⟨A0,c0,rfl,hA0⟩:=k0
 obtain ⟨A1,c1,rfl,hA1⟩:=k1
 obtain ⟨A2,c2,rfl,hA2⟩:=k2
 obtain ⟨A3,c3,rfl,hA3⟩:=k3
 obtain ⟨A4,c4,rfl,hA4⟩:=k4
 obtain ⟨hb0,hb1,hb2,hb3,hb4,hb5⟩:=hb
 refine cv_of Tryz.func16 Z Z Z<|SQ<|RG<|BX [_,_,_,_,_,_,_,_,_,_,_,_,_,_,_,_,_,_,_,_,_,_,_,_,_,_,_,_,_,_,_,_,_,_,_,_,_,_,_] Z Z Z<|fun b1=>AS Z Z<|ND<|SQ<|SQ<|RG<|FA Z tyF_impl_Stream_0 Z<|LD (i:=0) Z tyP_int Z Z Z<|CV1 Z fun_spec_l4Quic Z (fun w hs=>spec_l4Quic _ w)<|NT Z Z<|MV Z Z<|?_
 refine rw_caseN (j:=7) Z (fun h1=>?_) (fun h1=>?_)
 ·refine SKP Z<|PT Z Z Z Z<|MV Z Z<|SKP Z<|PT Z Z Z Z<|MV Z Z<|SKP Z<|PT Z Z Z Z<|MV Z Z<|SKP Z<|PT Z Z Z Z<|MV Z Z<|SKP Z<|PT Z Z Z Z<|MV Z Z<|SKP Z<|PT Z Z Z Z<|MV Z Z<|SKP Z<|PT Z Z Z Z<|ND<|CT Z Z<|SQ<|RG<|AS Z Z<|ND<|RT Tryz.func16 Z Z<|?_
  simp [isStreamS,isStreamW,h1]
 refine ON Z Z Z<|FA Z tyF_impl_Stream_1 Z<|ON Z Z Z<|LS (i:=0) [_,_,_,_,_,_,_,_,_,_,_,_] Z tyS_impl_Sender Z Z Z Z<|ON Z Z Z<|CV1 Z fun_spec_IsSender Z (fun w hs=>spec_IsSender ⟨_,_,_,_,Z,(hA0.s Pl.keeps hs),(hA1.s Pl.keeps hs),(hA2.s Pl.keeps hs),(hA3.s Pl.keeps hs)⟩ ⟨hb0,hb1,hb2,hb3⟩)<|ON Z Z Z<|NT Z Z<|PF Z Z Z Z<|MV Z Z<|?_
 refine rw_caseN (j:=13) Z (fun h2=>?_) (fun h2=>?_)
 ·refine SKP Z<|PT Z Z Z Z<|MV Z Z<|SKP Z<|PT Z Z Z Z<|MV Z Z<|SKP Z<|PT Z Z Z Z<|MV Z Z<|SKP Z<|PT Z Z Z Z<|MV Z Z<|SKP Z<|PT Z Z Z Z<|MV Z Z<|SKP Z<|PT Z Z Z Z<|ND<|CT Z Z<|SQ<|RG<|AS Z Z<|ND<|RT Tryz.func16 Z Z<|?_
  simp [isStreamS,isStreamW,h1,h2]
 refine ON Z Z Z<|FA Z tyF_impl_Stream_2 Z<|ON Z Z Z<|LS (i:=0) [_,_,_,_] Z tyS_impl_Credit Z Z Z Z<|ON Z Z Z<|CV1 Z fun_spec_IsCredit Z (fun w hs=>spec_IsCredit _ w)<|ON Z Z Z<|NT Z Z<|PF Z Z Z Z<|MV Z Z<|?_
 refine rw_caseN (j:=19) Z (fun h3=>?_) (fun h3=>?_)
 ·refine SKP Z<|PT Z Z Z Z<|MV Z Z<|SKP Z<|PT Z Z Z Z<|MV Z Z<|SKP Z<|PT Z Z Z Z<|MV Z Z<|SKP Z<|PT Z Z Z Z<|MV Z Z<|SKP Z<|PT Z Z Z Z<|ND<|CT Z Z<|SQ<|RG<|AS Z Z<|ND<|RT Tryz.func16 Z Z<|?_
  simp [isStreamS,isStreamW,h1,h2,h3]
 refine ON Z Z Z<|FA Z tyF_impl_Stream_3 Z<|ON Z Z Z<|LS (i:=0) [_,_,_,_,_,_] Z tyS_impl_Receiver Z Z Z Z<|ON Z Z Z<|CV1 Z fun_spec_IsReceiver Z (fun w hs=>spec_IsReceiver ⟨_,Z,(hA4.s Pl.keeps hs)⟩ ⟨hb4,hb5⟩)<|ON Z Z Z<|NT Z Z<|PF Z Z Z Z<|MV Z Z<|?_
 refine rw_caseN (j:=25) Z (fun h4=>?_) (fun h4=>?_)
 ·refine SKP Z<|PT Z Z Z Z<|MV Z Z<|SKP Z<|PT Z Z Z Z<|MV Z Z<|SKP Z<|PT Z Z Z Z<|MV Z Z<|SKP Z<|PT Z Z Z Z<|ND<|CT Z Z<|SQ<|RG<|AS Z Z<|ND<|RT Tryz.func16 Z Z<|?_
  simp [isStreamS,isStreamW,h1,h2,h3,h4]
 refine ON Z Z Z<|FA Z tyF_impl_Stream_4 Z<|ON Z Z Z<|LS (i:=0) [_,_,_,_,_,_] Z tyS_impl_Window Z Z Z Z<|ON Z Z Z<|CV1 Z fun_spec_IsWindow Z (fun w hs=>spec_IsWindow _ w)<|ON Z Z Z<|NT Z Z<|PF Z Z Z Z<|MV Z Z<|?_
 refine rw_caseN (j:=31) Z (fun h5=>?_) (fun h5=>?_)
 ·refine SKP Z<|PT Z Z Z Z<|MV Z Z<|SKP Z<|PT Z Z Z Z<|MV Z Z<|SKP Z<|PT Z Z Z Z<|ND<|CT Z Z<|SQ<|RG<|AS Z Z<|ND<|RT Tryz.func16 Z Z<|?_
  simp [isStreamS,isStreamW,h1,h2,h3,h4,h5]
 refine ON Z Z Z<|FA Z tyF_impl_Stream_5 Z<|ON Z Z Z<|LS (i:=0) [_,_] Z tyS_impl_Priority Z Z Z Z<|ON Z Z Z<|CV1 Z fun_spec_IsPriority Z (fun w hs=>spec_IsPriority _ w)<|ON Z Z Z<|NT Z Z<|PF Z Z Z Z<|MV Z Z<|?_
 refine rw_caseN (j:=37) Z (fun h6=>?_) (fun h6=>?_)
 ·refine SKP Z<|PT Z Z Z Z<|MV Z Z<|SKP Z<|PT Z Z Z Z<|ND<|CT Z Z<|SQ<|RG<|AS Z Z<|ND<|RT Tryz.func16 Z Z<|?_
  simp [isStreamS,isStreamW,h1,h2,h3,h4,h5,h6]
 refine ON Z Z Z<|FA Z tyF_impl_Stream_12 Z<|ON Z Z Z<|LD (i:=0) Z tyP_int Z Z Z<|ON Z Z Z<|CV1 Z fun_spec_l4Quic Z (fun w hs=>spec_l4Quic _ w)<|ON Z Z Z<|NT Z Z<|PF Z Z Z Z<|MV Z Z<|?_
 refine rw_caseN (j:=43) Z (fun h7=>?_) (fun h7=>?_)
 ·refine SKP Z<|PT Z Z Z Z<|ND<|CT Z Z<|SQ<|RG<|AS Z Z<|ND<|RT Tryz.func16 Z Z<|?_
  simp [isStreamS,isStreamW,h1,h2,h3,h4,h5,h6,h7]
 refine ON Z Z Z<|FA Z tyF_impl_Stream_6 Z<|ON Z Z Z<|LD (i:=0) Z tyP_bool Z Z Z<|ON Z Z Z<|NT Z Z<|ON Z Z Z<|MV Z Z<|?_
 refine rw_caseN (j:=47) Z (fun h8=>?_) (fun h8=>?_)
 ·refine ON Z Z Z<|FA Z tyF_impl_Stream_7 Z<|ON Z Z Z<|LD (i:=0) Z tyP_bool Z Z Z<|ON Z Z Z<|NT Z Z<|ON Z Z Z<|PT Z Z Z Z<|PF Z Z Z Z<|ND<|?_
  refine gw_condN Z (fun h9=>?_) (fun h9=>?_)
  ·refine SQ<|RG<|AS Z Z<|ND<|RT Tryz.func16 Z Z<|?_
   simp [isStreamS,isStreamW,h1,h2,h3,h4,h5,h6,h7,h8,h9]
  refine SK<|SQ<|SQ<|RG<|FA Z tyF_impl_Stream_1 Z<|FA Z tyF_impl_Sender_7 Z<|LD (i:=0) Z tyP_int Z Z Z<|FA Z tyF_impl_Stream_2 Z<|FA Z tyF_impl_Credit_1 Z<|LD (i:=0) Z tyP_int Z Z Z<|rw_gtr Z Z Z<|MV Z Z<|?_
  refine rw_caseL (j:=60) Z (fun h10=>?_) (fun h10=>?_)
  ·refine SKP Z<|PT Z Z Z Z<|MV Z Z<|SKP Z<|PT Z Z Z Z<|MV Z Z<|SKP Z<|PT Z Z Z Z<|MV Z Z<|SKP Z<|PT Z Z Z Z<|ND<|CT Z Z<|SQ<|RG<|AS Z Z<|ND<|RT Tryz.func16 Z Z<|?_
   simp [isStreamS,isStreamW,h1,h2,h3,h4,h5,h6,h7,h8,h9,h10]
  refine ON Z Z Z<|FA Z tyF_impl_Stream_3 Z<|ON Z Z Z<|FA Z tyF_impl_Receiver_3 Z<|ON Z Z Z<|LD (i:=0) Z tyP_int Z Z Z<|ON Z Z Z<|FA Z tyF_impl_Stream_4 Z<|ON Z Z Z<|FA Z tyF_impl_Window_3 Z<|ON Z Z Z<|LD (i:=0) Z tyP_int Z Z Z<|ON Z Z Z<|rw_gtr Z Z Z<|PF Z Z Z Z<|MV Z Z<|?_
  refine rw_caseL (j:=69) Z (fun h11=>?_) (fun h11=>?_)
  ·refine SKP Z<|PT Z Z Z Z<|MV Z Z<|SKP Z<|PT Z Z Z Z<|MV Z Z<|SKP Z<|PT Z Z Z Z<|ND<|CT Z Z<|SQ<|RG<|AS Z Z<|ND<|RT Tryz.func16 Z Z<|?_
   simp [isStreamS,isStreamW,h1,h2,h3,h4,h5,h6,h7,h8,h9,h10,h11]
  refine ON Z Z Z<|FA Z tyF_impl_Stream_8 Z<|ON Z Z Z<|LD (i:=0) Z tyP_bool Z Z Z<|ON Z Z Z<|MV Z Z<|?_
  refine rw_caseL (j:=72) Z (fun h12=>?_) (fun h12=>?_)
  ·refine ON Z Z Z<|FA Z tyF_impl_Stream_1 Z<|ON Z Z Z<|FA Z tyF_impl_Sender_0 Z<|ON Z Z Z<|LD (i:=0) Z tyP_int Z Z Z<|ON Z Z Z<|rw_neq Z Z Z<|ON Z Z Z<|PT Z Z Z Z<|PF Z Z Z Z<|MV Z Z<|?_
   refine rw_caseN (j:=79) Z (fun h13=>?_) (fun h13=>?_)
   ·refine SKP Z<|PT Z Z Z Z<|MV Z Z<|SKP Z<|PT Z Z Z Z<|ND<|CT Z Z<|SQ<|RG<|AS Z Z<|ND<|RT Tryz.func16 Z Z<|?_
    simp [isStreamS,isStreamW,h1,h2,h3,h4,h5,h6,h7,h8,h9,h10,h11,h12,h13]
   refine ON Z Z Z<|FA Z tyF_impl_Stream_9 Z<|ON Z Z Z<|LD (i:=0) Z tyP_bool Z Z Z<|ON Z Z Z<|MV Z Z<|?_
   refine rw_caseL (j:=82) Z (fun h14=>?_) (fun h14=>?_)
   ·refine ON Z Z Z<|FA Z tyF_impl_Stream_11 Z<|ON Z Z Z<|LD (i:=0) Z tyP_bool Z Z Z<|ON Z Z Z<|NT Z Z<|ON Z Z Z<|PT Z Z Z Z<|PF Z Z Z Z<|MV Z Z<|?_
    refine rw_caseN (j:=88) Z (fun h15=>?_) (fun h15=>?_)
    ·refine SKP Z<|PT Z Z Z Z<|ND<|CT Z Z<|SQ<|RG<|AS Z Z<|ND<|RT Tryz.func16 Z Z<|?_
     simp [isStreamS,isStreamW,h1,h2,h3,h4,h5,h6,h7,h8,h9,h10,h11,h12,h13,h14,h15]
    refine ON Z Z Z<|FA Z tyF_impl_Stream_12 Z<|ON Z Z Z<|LD (i:=0) Z tyP_int Z Z Z<|ON Z Z Z<|rw_neq Z Z Z<|ON Z Z Z<|MV Z Z<|?_
    refine rw_caseN (j:=92) Z (fun h16=>?_) (fun h16=>?_)
    ·refine ON Z Z Z<|FA Z tyF_impl_Stream_11 Z<|ON Z Z Z<|LD (i:=0) Z tyP_bool Z Z Z<|ON Z Z Z<|NT Z Z<|ON Z Z Z<|PT Z Z Z Z<|PF Z Z Z Z<|ND<|CF Z (not_T h15)<|SK<|SQ<|RG<|FA Z tyF_impl_Stream_6 Z<|LD (i:=0) Z tyP_bool Z Z Z<|MV Z Z<|ON Z Z h8<|FA Z tyF_impl_Stream_1 Z<|ON Z Z h8<|FA Z tyF_impl_Sender_0 Z<|?_
     refine ON Z Z h8<|LD (i:=0) Z tyP_int Z Z Z<|ON Z Z h8<|EQ1 Z Z Z<|ON Z Z h8<|MV Z Z<|?_
     refine rw_caseL (j:=105) Z (fun h17=>?_) (fun h17=>?_)
     ·refine ON Z Z Z<|FA Z tyF_impl_Stream_1 Z<|ON Z Z Z<|FA Z tyF_impl_Sender_1 Z<|ON Z Z Z<|FA Z tyF_impl_Ring_2 Z<|ON Z Z Z<|LD (i:=0) Z tyP_int Z Z Z<|ON Z Z Z<|EQ1 Z Z Z<|ON Z Z h8<|PT Z Z Z Z<|ON Z Z h8<|MV Z Z<|?_
      refine rw_caseL (j:=112) Z (fun h18=>?_) (fun h18=>?_)
      ·refine ON Z Z Z<|FA Z tyF_impl_Stream_1 Z<|ON Z Z Z<|FA Z tyF_impl_Sender_5 Z<|ON Z Z Z<|LD (i:=0) Z tyP_int Z Z Z<|ON Z Z Z<|EQ1 Z Z Z<|ON Z Z h8<|PT Z Z Z Z<|PF Z Z h8 Z<|MV Z Z<|?_
       refine rw_caseL (j:=119) Z (fun h19=>?_) (fun h19=>?_)
       ·refine ON Z Z Z<|FA Z tyF_impl_Stream_7 Z<|ON Z Z Z<|LD (i:=0) Z tyP_bool Z Z Z<|ON Z Z Z<|MV Z Z<|rw_lit (j:=122) Z h9<|SKP Z<|ON Z Z Z<|PT Z Z Z Z<|PT Z Z Z Z<|AS Z Z<|ND<|RT Tryz.func16 Z Z<|?_
        simp [isStreamS,isStreamW,h1,h2,h3,h4,h5,h6,h7,h8,h9,h10,h11,h12,h13,h14,h15,h16,h17,h18,h19]
       refine SKP Z<|PF Z Z Z Z<|AS Z Z<|ND<|RT Tryz.func16 Z Z<|?_
       simp [isStreamS,isStreamW,h1,h2,h3,h4,h5,h6,h7,h8,h9,h10,h11,h12,h13,h14,h15,h16,h17,h18,h19]
      refine rw_lit (j:=100) Z h8<|SKP Z<|ON Z Z Z<|PF Z Z Z Z<|PF Z Z Z Z<|MV Z Z<|SKP Z<|PF Z Z Z Z<|AS Z Z<|ND<|RT Tryz.func16 Z Z<|?_
      simp [isStreamS,isStreamW,h1,h2,h3,h4,h5,h6,h7,h8,h9,h10,h11,h12,h13,h14,h15,h16,h17,h18]
     refine rw_lit (j:=100) Z h8<|SKP Z<|ON Z Z Z<|PF Z Z Z Z<|ON Z Z Z<|MV Z Z<|SKP Z<|ON Z Z Z<|PF Z Z Z Z<|PF Z Z Z Z<|MV Z Z<|SKP Z<|PF Z Z Z Z<|AS Z Z<|ND<|RT Tryz.func16 Z Z<|?_
     simp [isStreamS,isStreamW,h1,h2,h3,h4,h5,h6,h7,h8,h9,h10,h11,h12,h13,h14,h15,h16,h17]
    refine SKP Z<|ON Z Z Z<|PF Z Z Z Z<|PF Z Z Z Z<|ND<|CF Z Z<|SK<|SQ<|RG<|FA Z tyF_impl_Stream_6 Z<|LD (i:=0) Z tyP_bool Z Z Z<|MV Z Z<|ON Z Z h8<|FA Z tyF_impl_Stream_1 Z<|ON Z Z h8<|FA Z tyF_impl_Sender_0 Z<|ON Z Z h8<|LD (i:=0) Z tyP_int Z Z Z<|ON Z Z h8<|EQ1 Z Z Z<|ON Z Z h8<|MV Z Z<|?_
    refine rw_caseL (j:=105) Z (fun h20=>?_) (fun h20=>?_)
    ·refine ON Z Z Z<|FA Z tyF_impl_Stream_1 Z<|ON Z Z Z<|FA Z tyF_impl_Sender_1 Z<|ON Z Z Z<|FA Z tyF_impl_Ring_2 Z<|ON Z Z Z<|LD (i:=0) Z tyP_int Z Z Z<|ON Z Z Z<|EQ1 Z Z Z<|ON Z Z h8<|PT Z Z Z Z<|ON Z Z h8<|MV Z Z<|?_
     refine rw_caseL (j:=112) Z (fun h21=>?_) (fun h21=>?_)
     ·refine ON Z Z Z<|FA Z tyF_impl_Stream_1 Z<|ON Z Z Z<|FA Z tyF_impl_Sender_5 Z<|ON Z Z Z<|LD (i:=0) Z tyP_int Z Z Z<|ON Z Z Z<|EQ1 Z Z Z<|ON Z Z h8<|PT Z Z Z Z<|PF Z Z h8 Z<|MV Z Z<|?_
      refine rw_caseL (j:=119) Z (fun h22=>?_) (fun h22=>?_)
      ·refine ON Z Z Z<|FA Z tyF_impl_Stream_7 Z<|ON Z Z Z<|LD (i:=0) Z tyP_bool Z Z Z<|ON Z Z Z<|MV Z Z<|rw_lit (j:=122) Z h9<|SKP Z<|ON Z Z Z<|PT Z Z Z Z<|PT Z Z Z Z<|AS Z Z<|ND<|RT Tryz.func16 Z Z<|?_
       simp [isStreamS,isStreamW,h1,h2,h3,h4,h5,h6,h7,h8,h9,h10,h11,h12,h13,h14,h15,h16,h20,h21,h22]
      refine SKP Z<|PF Z Z Z Z<|AS Z Z<|ND<|RT Tryz.func16 Z Z<|?_
      simp [isStreamS,isStreamW,h1,h2,h3,h4,h5,h6,h7,h8,h9,h10,h11,h12,h13,h14,h15,h16,h20,h21,h22]
     refine rw_lit (j:=100) Z h8<|SKP Z<|ON Z Z Z<|PF Z Z Z Z<|PF Z Z Z Z<|MV Z Z<|SKP Z<|PF Z Z Z Z<|AS Z Z<|ND<|RT Tryz.func16 Z Z<|?_
     simp [isStreamS,isStreamW,h1,h2,h3,h4,h5,h6,h7,h8,h9,h10,h11,h12,h13,h14,h15,h16,h20,h21]
    refine rw_lit (j:=100) Z h8<|SKP Z<|ON Z Z Z<|PF Z Z Z Z<|ON Z Z Z<|MV Z Z<|SKP Z<|ON Z Z Z<|PF Z Z Z Z<|PF Z Z Z Z<|MV Z Z<|SKP Z<|PF Z Z Z Z<|AS Z Z<|ND<|RT Tryz.func16 Z Z<|?_
    simp [isStreamS,isStreamW,h1,h2,h3,h4,h5,h6,h7,h8,h9,h10,h11,h12,h13,h14,h15,h16,h20]
   refine SKP Z<|ON Z Z Z<|PF Z Z Z Z<|PF Z Z Z Z<|MV Z Z<|ON Z Z Z<|FA Z tyF_impl_Stream_12 Z<|ON Z Z Z<|LD (i:=0) Z tyP_int Z Z Z<|ON Z Z Z<|rw_neq Z Z Z<|ON Z Z Z<|MV Z Z<|?_
   refine rw_caseN (j:=92) Z (fun h23=>?_) (fun h23=>?_)
   ·refine ON Z Z Z<|FA Z tyF_impl_Stream_11 Z<|ON Z Z Z<|LD (i:=0) Z tyP_bool Z Z Z<|ON Z Z Z<|NT Z Z<|ON Z Z Z<|PT Z Z Z Z<|PF Z Z Z Z<|ND<|?_
    refine gw_condN Z (fun h24=>?_) (fun h24=>?_)
    ·refine SQ<|RG<|AS Z Z<|ND<|RT Tryz.func16 Z Z<|?_
     simp [isStreamS,isStreamW,h1,h2,h3,h4,h5,h6,h7,h8,h9,h10,h11,h12,h13,h14,h23,h24]
    refine SK<|SQ<|RG<|FA Z tyF_impl_Stream_6 Z<|LD (i:=0) Z tyP_bool Z Z Z<|MV Z Z<|ON Z Z h8<|FA Z tyF_impl_Stream_1 Z<|ON Z Z h8<|FA Z tyF_impl_Sender_0 Z<|ON Z Z h8<|LD (i:=0) Z tyP_int Z Z Z<|ON Z Z h8<|EQ1 Z Z Z<|ON Z Z h8<|MV Z Z<|?_
    refine rw_caseL (j:=105) Z (fun h25=>?_) (fun h25=>?_)
    ·refine ON Z Z Z<|FA Z tyF_impl_Stream_1 Z<|ON Z Z Z<|FA Z tyF_impl_Sender_1 Z<|ON Z Z Z<|FA Z tyF_impl_Ring_2 Z<|ON Z Z Z<|LD (i:=0) Z tyP_int Z Z Z<|ON Z Z Z<|EQ1 Z Z Z<|ON Z Z h8<|PT Z Z Z Z<|ON Z Z h8<|MV Z Z<|?_
     refine rw_caseL (j:=112) Z (fun h26=>?_) (fun h26=>?_)
     ·refine ON Z Z Z<|FA Z tyF_impl_Stream_1 Z<|ON Z Z Z<|FA Z tyF_impl_Sender_5 Z<|ON Z Z Z<|LD (i:=0) Z tyP_int Z Z Z<|ON Z Z Z<|EQ1 Z Z Z<|ON Z Z h8<|PT Z Z Z Z<|PF Z Z h8 Z<|MV Z Z<|?_
      refine rw_caseL (j:=119) Z (fun h27=>?_) (fun h27=>?_)
      ·refine ON Z Z Z<|FA Z tyF_impl_Stream_7 Z<|ON Z Z Z<|LD (i:=0) Z tyP_bool Z Z Z<|ON Z Z Z<|MV Z Z<|rw_lit (j:=122) Z h9<|SKP Z<|ON Z Z Z<|PT Z Z Z Z<|PT Z Z Z Z<|AS Z Z<|ND<|RT Tryz.func16 Z Z<|?_
       simp [isStreamS,isStreamW,h1,h2,h3,h4,h5,h6,h7,h8,h9,h10,h11,h12,h13,h14,h23,h24,h25,h26,h27]
      refine SKP Z<|PF Z Z Z Z<|AS Z Z<|ND<|RT Tryz.func16 Z Z<|?_
      simp [isStreamS,isStreamW,h1,h2,h3,h4,h5,h6,h7,h8,h9,h10,h11,h12,h13,h14,h23,h24,h25,h26,h27]
     refine rw_lit (j:=100) Z h8<|SKP Z<|ON Z Z Z<|PF Z Z Z Z<|PF Z Z Z Z<|MV Z Z<|SKP Z<|PF Z Z Z Z<|AS Z Z<|ND<|RT Tryz.func16 Z Z<|?_
     simp [isStreamS,isStreamW,h1,h2,h3,h4,h5,h6,h7,h8,h9,h10,h11,h12,h13,h14,h23,h24,h25,h26]
    refine rw_lit (j:=100) Z h8<|SKP Z<|ON Z Z Z<|PF Z Z Z Z<|ON Z Z Z<|MV Z Z<|SKP Z<|ON Z Z Z<|PF Z Z Z Z<|PF Z Z Z Z<|MV Z Z<|SKP Z<|PF Z Z Z Z<|AS Z Z<|ND<|RT Tryz.func16 Z Z<|?_
    simp [isStreamS,isStreamW,h1,h2,h3,h4,h5,h6,h7,h8,h9,h10,h11,h12,h13,h14,h23,h24,h25]
   refine SKP Z<|ON Z Z Z<|PF Z Z Z Z<|PF Z Z Z Z<|ND<|CF Z Z<|SK<|SQ<|RG<|FA Z tyF_impl_Stream_6 Z<|LD (i:=0) Z tyP_bool Z Z Z<|MV Z Z<|ON Z Z h8<|FA Z tyF_impl_Stream_1 Z<|ON Z Z h8<|FA Z tyF_impl_Sender_0 Z<|ON Z Z h8<|LD (i:=0) Z tyP_int Z Z Z<|ON Z Z h8<|EQ1 Z Z Z<|ON Z Z h8<|MV Z Z<|?_
   refine rw_caseL (j:=105) Z (fun h28=>?_) (fun h28=>?_)
   ·refine ON Z Z Z<|FA Z tyF_impl_Stream_1 Z<|ON Z Z Z<|FA Z tyF_impl_Sender_1 Z<|ON Z Z Z<|FA Z tyF_impl_Ring_2 Z<|ON Z Z Z<|LD (i:=0) Z tyP_int Z Z Z<|ON Z Z Z<|EQ1 Z Z Z<|ON Z Z h8<|PT Z Z Z Z<|ON Z Z h8<|MV Z Z<|?_
    refine rw_caseL (j:=112) Z (fun h29=>?_) (fun h29=>?_)
    ·refine ON Z Z Z<|FA Z tyF_impl_Stream_1 Z<|ON Z Z Z<|FA Z tyF_impl_Sender_5 Z<|ON Z Z Z<|LD (i:=0) Z tyP_int Z Z Z<|ON Z Z Z<|EQ1 Z Z Z<|ON Z Z h8<|PT Z Z Z Z<|PF Z Z h8 Z<|MV Z Z<|?_
     refine rw_caseL (j:=119) Z (fun h30=>?_) (fun h30=>?_)
     ·refine ON Z Z Z<|FA Z tyF_impl_Stream_7 Z<|ON Z Z Z<|LD (i:=0) Z tyP_bool Z Z Z<|ON Z Z Z<|MV Z Z<|rw_lit (j:=122) Z h9<|SKP Z<|ON Z Z Z<|PT Z Z Z Z<|PT Z Z Z Z<|AS Z Z<|ND<|RT Tryz.func16 Z Z<|?_
      simp [isStreamS,isStreamW,h1,h2,h3,h4,h5,h6,h7,h8,h9,h10,h11,h12,h13,h14,h23,h28,h29,h30]
     refine SKP Z<|PF Z Z Z Z<|AS Z Z<|ND<|RT Tryz.func16 Z Z<|?_
     simp [isStreamS,isStreamW,h1,h2,h3,h4,h5,h6,h7,h8,h9,h10,h11,h12,h13,h14,h23,h28,h29,h30]
    refine rw_lit (j:=100) Z h8<|SKP Z<|ON Z Z Z<|PF Z Z Z Z<|PF Z Z Z Z<|MV Z Z<|SKP Z<|PF Z Z Z Z<|AS Z Z<|ND<|RT Tryz.func16 Z Z<|?_
    simp [isStreamS,isStreamW,h1,h2,h3,h4,h5,h6,h7,h8,h9,h10,h11,h12,h13,h14,h23,h28,h29]
   refine rw_lit (j:=100) Z h8<|SKP Z<|ON Z Z Z<|PF Z Z Z Z<|ON Z Z Z<|MV Z Z<|SKP Z<|ON Z Z Z<|PF Z Z Z Z<|PF Z Z Z Z<|MV Z Z<|SKP Z<|PF Z Z Z Z<|AS Z Z<|ND<|RT Tryz.func16 Z Z<|?_
   simp [isStreamS,isStreamW,h1,h2,h3,h4,h5,h6,h7,h8,h9,h10,h11,h12,h13,h14,h23,h28]
  refine SKP Z<|ON Z Z Z<|PF Z Z Z Z<|PF Z Z Z Z<|MV Z Z<|ON Z Z Z<|FA Z tyF_impl_Stream_9 Z<|ON Z Z Z<|LD (i:=0) Z tyP_bool Z Z Z<|ON Z Z Z<|MV Z Z<|?_
  refine rw_caseL (j:=82) Z (fun h31=>?_) (fun h31=>?_)
  ·refine ON Z Z Z<|FA Z tyF_impl_Stream_11 Z<|ON Z Z Z<|LD (i:=0) Z tyP_bool Z Z Z<|ON Z Z Z<|NT Z Z<|ON Z Z Z<|PT Z Z Z Z<|PF Z Z Z Z<|MV Z Z<|?_
   refine rw_caseN (j:=88) Z (fun h32=>?_) (fun h32=>?_)
   ·refine SKP Z<|PT Z Z Z Z<|ND<|CT Z Z<|SQ<|RG<|AS Z Z<|ND<|RT Tryz.func16 Z Z<|?_
    simp [isStreamS,isStreamW,h1,h2,h3,h4,h5,h6,h7,h8,h9,h10,h11,h12,h31,h32]
   refine ON Z Z Z<|FA Z tyF_impl_Stream_12 Z<|ON Z Z Z<|LD (i:=0) Z tyP_int Z Z Z<|ON Z Z Z<|rw_neq Z Z Z<|ON Z Z Z<|MV Z Z<|?_
   refine rw_caseN (j:=92) Z (fun h33=>?_) (fun h33=>?_)
   ·refine ON Z Z Z<|FA Z tyF_impl_Stream_11 Z<|ON Z Z Z<|LD (i:=0) Z tyP_bool Z Z Z<|ON Z Z Z<|NT Z Z<|ON Z Z Z<|PT Z Z Z Z<|PF Z Z Z Z<|ND<|CF Z (not_T h32)<|SK<|SQ<|RG<|FA Z tyF_impl_Stream_6 Z<|LD (i:=0) Z tyP_bool Z Z Z<|MV Z Z<|ON Z Z h8<|FA Z tyF_impl_Stream_1 Z<|ON Z Z h8<|FA Z tyF_impl_Sender_0 Z<|?_
    refine ON Z Z h8<|LD (i:=0) Z tyP_int Z Z Z<|ON Z Z h8<|EQ1 Z Z Z<|ON Z Z h8<|MV Z Z<|?_
    refine rw_caseL (j:=105) Z (fun h34=>?_) (fun h34=>?_)
    ·refine ON Z Z Z<|FA Z tyF_impl_Stream_1 Z<|ON Z Z Z<|FA Z tyF_impl_Sender_1 Z<|ON Z Z Z<|FA Z tyF_impl_Ring_2 Z<|ON Z Z Z<|LD (i:=0) Z tyP_int Z Z Z<|ON Z Z Z<|EQ1 Z Z Z<|ON Z Z h8<|PT Z Z Z Z<|ON Z Z h8<|MV Z Z<|?_
     refine rw_caseL (j:=112) Z (fun h35=>?_) (fun h35=>?_)
     ·refine ON Z Z Z<|FA Z tyF_impl_Stream_1 Z<|ON Z Z Z<|FA Z tyF_impl_Sender_5 Z<|ON Z Z Z<|LD (i:=0) Z tyP_int Z Z Z<|ON Z Z Z<|EQ1 Z Z Z<|ON Z Z h8<|PT Z Z Z Z<|PF Z Z h8 Z<|MV Z Z<|?_
      refine rw_caseL (j:=119) Z (fun h36=>?_) (fun h36=>?_)
      ·refine ON Z Z Z<|FA Z tyF_impl_Stream_7 Z<|ON Z Z Z<|LD (i:=0) Z tyP_bool Z Z Z<|ON Z Z Z<|MV Z Z<|rw_lit (j:=122) Z h9<|SKP Z<|ON Z Z Z<|PT Z Z Z Z<|PT Z Z Z Z<|AS Z Z<|ND<|RT Tryz.func16 Z Z<|?_
       simp [isStreamS,isStreamW,h1,h2,h3,h4,h5,h6,h7,h8,h9,h10,h11,h12,h31,h32,h33,h34,h35,h36]
      refine SKP Z<|PF Z Z Z Z<|AS Z Z<|ND<|RT Tryz.func16 Z Z<|?_
      simp [isStreamS,isStreamW,h1,h2,h3,h4,h5,h6,h7,h8,h9,h10,h11,h12,h31,h32,h33,h34,h35,h36]
     refine rw_lit (j:=100) Z h8<|SKP Z<|ON Z Z Z<|PF Z Z Z Z<|PF Z Z Z Z<|MV Z Z<|SKP Z<|PF Z Z Z Z<|AS Z Z<|ND<|RT Tryz.func16 Z Z<|?_
     simp [isStreamS,isStreamW,h1,h2,h3,h4,h5,h6,h7,h8,h9,h10,h11,h12,h31,h32,h33,h34,h35]
    refine rw_lit (j:=100) Z h8<|SKP Z<|ON Z Z Z<|PF Z Z Z Z<|ON Z Z Z<|MV Z Z<|SKP Z<|ON Z Z Z<|PF Z Z Z Z<|PF Z Z Z Z<|MV Z Z<|SKP Z<|PF Z Z Z Z<|AS Z Z<|ND<|RT Tryz.func16 Z Z<|?_
    simp [isStreamS,isStreamW,h1,h2,h3,h4,h5,h6,h7,h8,h9,h10,h11,h12,h31,h32,h33,h34]
   refine SKP Z<|ON Z Z Z<|PF Z Z Z Z<|PF Z Z Z Z<|ND<|CF Z Z<|SK<|SQ<|RG<|FA Z tyF_impl_Stream_6 Z<|LD (i:=0) Z tyP_bool Z Z Z<|MV Z Z<|ON Z Z h8<|FA Z tyF_impl_Stream_1 Z<|ON Z Z h8<|FA Z tyF_impl_Sender_0 Z<|ON Z Z h8<|LD (i:=0) Z tyP_int Z Z Z<|ON Z Z h8<|EQ1 Z Z Z<|ON Z Z h8<|MV Z Z<|?_
   refine rw_caseL (j:=105) Z (fun h37=>?_) (fun h37=>?_)
   ·refine ON Z Z Z<|FA Z tyF_impl_Stream_1 Z<|ON Z Z Z<|FA Z tyF_impl_Sender_1 Z<|ON Z Z Z<|FA Z tyF_impl_Ring_2 Z<|ON Z Z Z<|LD (i:=0) Z tyP_int Z Z Z<|ON Z Z Z<|EQ1 Z Z Z<|ON Z Z h8<|PT Z Z Z Z<|ON Z Z h8<|MV Z Z<|?_
    refine rw_caseL (j:=112) Z (fun h38=>?_) (fun h38=>?_)
    ·refine ON Z Z Z<|FA Z tyF_impl_Stream_1 Z<|ON Z Z Z<|FA Z tyF_impl_Sender_5 Z<|ON Z Z Z<|LD (i:=0) Z tyP_int Z Z Z<|ON Z Z Z<|EQ1 Z Z Z<|ON Z Z h8<|PT Z Z Z Z<|PF Z Z h8 Z<|MV Z Z<|?_
     refine rw_caseL (j:=119) Z (fun h39=>?_) (fun h39=>?_)
     ·refine ON Z Z Z<|FA Z tyF_impl_Stream_7 Z<|ON Z Z Z<|LD (i:=0) Z tyP_bool Z Z Z<|ON Z Z Z<|MV Z Z<|rw_lit (j:=122) Z h9<|SKP Z<|ON Z Z Z<|PT Z Z Z Z<|PT Z Z Z Z<|AS Z Z<|ND<|RT Tryz.func16 Z Z<|?_
      simp [isStreamS,isStreamW,h1,h2,h3,h4,h5,h6,h7,h8,h9,h10,h11,h12,h31,h32,h33,h37,h38,h39]
     refine SKP Z<|PF Z Z Z Z<|AS Z Z<|ND<|RT Tryz.func16 Z Z<|?_
     simp [isStreamS,isStreamW,h1,h2,h3,h4,h5,h6,h7,h8,h9,h10,h11,h12,h31,h32,h33,h37,h38,h39]
    refine rw_lit (j:=100) Z h8<|SKP Z<|ON Z Z Z<|PF Z Z Z Z<|PF Z Z Z Z<|MV Z Z<|SKP Z<|PF Z Z Z Z<|AS Z Z<|ND<|RT Tryz.func16 Z Z<|?_
    simp [isStreamS,isStreamW,h1,h2,h3,h4,h5,h6,h7,h8,h9,h10,h11,h12,h31,h32,h33,h37,h38]
   refine rw_lit (j:=100) Z h8<|SKP Z<|ON Z Z Z<|PF Z Z Z Z<|ON Z Z Z<|MV Z Z<|SKP Z<|ON Z Z Z<|PF Z Z Z Z<|PF Z Z Z Z<|MV Z Z<|SKP Z<|PF Z Z Z Z<|AS Z Z<|ND<|RT Tryz.func16 Z Z<|?_
   simp [isStreamS,isStreamW,h1,h2,h3,h4,h5,h6,h7,h8,h9,h10,h11,h12,h31,h32,h33,h37]
  refine SKP Z<|ON Z Z Z<|PF Z Z Z Z<|PF Z Z Z Z<|MV Z Z<|ON Z Z Z<|FA Z tyF_impl_Stream_12 Z<|ON Z Z Z<|LD (i:=0) Z tyP_int Z Z Z<|ON Z Z Z<|rw_neq Z Z Z<|ON Z Z Z<|MV Z Z<|?_
  refine rw_caseN (j:=92) Z (fun h40=>?_) (fun h40=>?_)
  ·refine ON Z Z Z<|FA Z tyF_impl_Stream_11 Z<|ON Z Z Z<|LD (i:=0) Z tyP_bool Z Z Z<|ON Z Z Z<|NT Z Z<|ON Z Z Z<|PT Z Z Z Z<|PF Z Z Z Z<|ND<|?_
   refine gw_condN Z (fun h41=>?_) (fun h41=>?_)
   ·refine SQ<|RG<|AS Z Z<|ND<|RT Tryz.func16 Z Z<|?_
    simp [isStreamS,isStreamW,h1,h2,h3,h4,h5,h6,h7,h8,h9,h10,h11,h12,h31,h40,h41]
   refine SK<|SQ<|RG<|FA Z tyF_impl_Stream_6 Z<|LD (i:=0) Z tyP_bool Z Z Z<|MV Z Z<|ON Z Z h8<|FA Z tyF_impl_Stream_1 Z<|ON Z Z h8<|FA Z tyF_impl_Sender_0 Z<|ON Z Z h8<|LD (i:=0) Z tyP_int Z Z Z<|ON Z Z h8<|EQ1 Z Z Z<|ON Z Z h8<|MV Z Z<|?_
   refine rw_caseL (j:=105) Z (fun h42=>?_) (fun h42=>?_)
   ·refine ON Z Z Z<|FA Z tyF_impl_Stream_1 Z<|ON Z Z Z<|FA Z tyF_impl_Sender_1 Z<|ON Z Z Z<|FA Z tyF_impl_Ring_2 Z<|ON Z Z Z<|LD (i:=0) Z tyP_int Z Z Z<|ON Z Z Z<|EQ1 Z Z Z<|ON Z Z h8<|PT Z Z Z Z<|ON Z Z h8<|MV Z Z<|?_
    refine rw_caseL (j:=112) Z (fun h43=>?_) (fun h43=>?_)
    ·refine ON Z Z Z<|FA Z tyF_impl_Stream_1 Z<|ON Z Z Z<|FA Z tyF_impl_Sender_5 Z<|ON Z Z Z<|LD (i:=0) Z tyP_int Z Z Z<|ON Z Z Z<|EQ1 Z Z Z<|ON Z Z h8<|PT Z Z Z Z<|PF Z Z h8 Z<|MV Z Z<|?_
     refine rw_caseL (j:=119) Z (fun h44=>?_) (fun h44=>?_)
     ·refine ON Z Z Z<|FA Z tyF_impl_Stream_7 Z<|ON Z Z Z<|LD (i:=0) Z tyP_bool Z Z Z<|ON Z Z Z<|MV Z Z<|rw_lit (j:=122) Z h9<|SKP Z<|ON Z Z Z<|PT Z Z Z Z<|PT Z Z Z Z<|AS Z Z<|ND<|RT Tryz.func16 Z Z<|?_
      simp [isStreamS,isStreamW,h1,h2,h3,h4,h5,h6,h7,h8,h9,h10,h11,h12,h31,h40,h41,h42,h43,h44]
     refine SKP Z<|PF Z Z Z Z<|AS Z Z<|ND<|RT Tryz.func16 Z Z<|?_
     simp [isStreamS,isStreamW,h1,h2,h3,h4,h5,h6,h7,h8,h9,h10,h11,h12,h31,h40,h41,h42,h43,h44]
    refine rw_lit (j:=100) Z h8<|SKP Z<|ON Z Z Z<|PF Z Z Z Z<|PF Z Z Z Z<|MV Z Z<|SKP Z<|PF Z Z Z Z<|AS Z Z<|ND<|RT Tryz.func16 Z Z<|?_
    simp [isStreamS,isStreamW,h1,h2,h3,h4,h5,h6,h7,h8,h9,h10,h11,h12,h31,h40,h41,h42,h43]
   refine rw_lit (j:=100) Z h8<|SKP Z<|ON Z Z Z<|PF Z Z Z Z<|ON Z Z Z<|MV Z Z<|SKP Z<|ON Z Z Z<|PF Z Z Z Z<|PF Z Z Z Z<|MV Z Z<|SKP Z<|PF Z Z Z Z<|AS Z Z<|ND<|RT Tryz.func16 Z Z<|?_
   simp [isStreamS,isStreamW,h1,h2,h3,h4,h5,h6,h7,h8,h9,h10,h11,h12,h31,h40,h41,h42]
  refine SKP Z<|ON Z Z Z<|PF Z Z Z Z<|PF Z Z Z Z<|ND<|CF Z Z<|SK<|SQ<|RG<|FA Z tyF_impl_Stream_6 Z<|LD (i:=0) Z tyP_bool Z Z Z<|MV Z Z<|ON Z Z h8<|FA Z tyF_impl_Stream_1 Z<|ON Z Z h8<|FA Z tyF_impl_Sender_0 Z<|ON Z Z h8<|LD (i:=0) Z tyP_int Z Z Z<|ON Z Z h8<|EQ1 Z Z Z<|ON Z Z h8<|MV Z Z<|?_
  refine rw_caseL (j:=105) Z (fun h45=>?_) (fun h45=>?_)
  ·refine ON Z Z Z<|FA Z tyF_impl_Stream_1 Z<|ON Z Z Z<|FA Z tyF_impl_Sender_1 Z<|ON Z Z Z<|FA Z tyF_impl_Ring_2 Z<|ON Z Z Z<|LD (i:=0) Z tyP_int Z Z Z<|ON Z Z Z<|EQ1 Z Z Z<|ON Z Z h8<|PT Z Z Z Z<|ON Z Z h8<|MV Z Z<|?_
   refine rw_caseL (j:=112) Z (fun h46=>?_) (fun h46=>?_)
   ·refine ON Z Z Z<|FA Z tyF_impl_Stream_1 Z<|ON Z Z Z<|FA Z tyF_impl_Sender_5 Z<|ON Z Z Z<|LD (i:=0) Z tyP_int Z Z Z<|ON Z Z Z<|EQ1 Z Z Z<|ON Z Z h8<|PT Z Z Z Z<|PF Z Z h8 Z<|MV Z Z<|?_
    refine rw_caseL (j:=119) Z (fun h47=>?_) (fun h47=>?_)
    ·refine ON Z Z Z<|FA Z tyF_impl_Stream_7 Z<|ON Z Z Z<|LD (i:=0) Z tyP_bool Z Z Z<|ON Z Z Z<|MV Z Z<|rw_lit (j:=122) Z h9<|SKP Z<|ON Z Z Z<|PT Z Z Z Z<|PT Z Z Z Z<|AS Z Z<|ND<|RT Tryz.func16 Z Z<|?_
     simp [isStreamS,isStreamW,h1,h2,h3,h4,h5,h6,h7,h8,h9,h10,h11,h12,h31,h40,h45,h46,h47]
    refine SKP Z<|PF Z Z Z Z<|AS Z Z<|ND<|RT Tryz.func16 Z Z<|?_
    simp [isStreamS,isStreamW,h1,h2,h3,h4,h5,h6,h7,h8,h9,h10,h11,h12,h31,h40,h45,h46,h47]
   refine rw_lit (j:=100) Z h8<|SKP Z<|ON Z Z Z<|PF Z Z Z Z<|PF Z Z Z Z<|MV Z Z<|SKP Z<|PF Z Z Z Z<|AS Z Z<|ND<|RT Tryz.func16 Z Z<|?_
   simp [isStreamS,isStreamW,h1,h2,h3,h4,h5,h6,h7,h8,h9,h10,h11,h12,h31,h40,h45,h46]
  refine rw_lit (j:=100) Z h8<|SKP Z<|ON Z Z Z<|PF Z Z Z Z<|ON Z Z Z<|MV Z Z<|SKP Z<|ON Z Z Z<|PF Z Z Z Z<|PF Z Z Z Z<|MV Z Z<|SKP Z<|PF Z Z Z Z<|AS Z Z<|ND<|RT Tryz.func16 Z Z<|?_
  simp [isStreamS,isStreamW,h1,h2,h3,h4,h5,h6,h7,h8,h9,h10,h11,h12,h31,h40,h45]
 refine SKP Z<|ON Z Z Z<|PF Z Z Z Z<|PF Z Z Z Z<|ND<|CF Z Z<|SK<|SQ<|SQ<|RG<|FA Z tyF_impl_Stream_1 Z<|FA Z tyF_impl_Sender_7 Z<|LD (i:=0) Z tyP_int Z Z Z<|FA Z tyF_impl_Stream_2 Z<|FA Z tyF_impl_Credit_1 Z<|LD (i:=0) Z tyP_int Z Z Z<|rw_gtr Z Z Z<|MV Z Z<|?_
 refine rw_caseL (j:=60) Z (fun h48=>?_) (fun h48=>?_)
 ·refine SKP Z<|PT Z Z Z Z<|MV Z Z<|SKP Z<|PT Z Z Z Z<|MV Z Z<|SKP Z<|PT Z Z Z Z<|MV Z Z<|SKP Z<|PT Z Z Z Z<|ND<|CT Z Z<|SQ<|RG<|AS Z Z<|ND<|RT Tryz.func16 Z Z<|?_
  simp [isStreamS,isStreamW,h1,h2,h3,h4,h5,h6,h7,h8,h48]
 refine ON Z Z Z<|FA Z tyF_impl_Stream_3 Z<|ON Z Z Z<|FA Z tyF_impl_Receiver_3 Z<|ON Z Z Z<|LD (i:=0) Z tyP_int Z Z Z<|ON Z Z Z<|FA Z tyF_impl_Stream_4 Z<|ON Z Z Z<|FA Z tyF_impl_Window_3 Z<|ON Z Z Z<|LD (i:=0) Z tyP_int Z Z Z<|ON Z Z Z<|rw_gtr Z Z Z<|PF Z Z Z Z<|MV Z Z<|?_
 refine rw_caseL (j:=69) Z (fun h49=>?_) (fun h49=>?_)
 ·refine SKP Z<|PT Z Z Z Z<|MV Z Z<|SKP Z<|PT Z Z Z Z<|MV Z Z<|SKP Z<|PT Z Z Z Z<|ND<|CT Z Z<|SQ<|RG<|AS Z Z<|ND<|RT Tryz.func16 Z Z<|?_
  simp [isStreamS,isStreamW,h1,h2,h3,h4,h5,h6,h7,h8,h48,h49]
 refine ON Z Z Z<|FA Z tyF_impl_Stream_8 Z<|ON Z Z Z<|LD (i:=0) Z tyP_bool Z Z Z<|ON Z Z Z<|MV Z Z<|?_
 refine rw_caseL (j:=72) Z (fun h50=>?_) (fun h50=>?_)
 ·refine ON Z Z Z<|FA Z tyF_impl_Stream_1 Z<|ON Z Z Z<|FA Z tyF_impl_Sender_0 Z<|ON Z Z Z<|LD (i:=0) Z tyP_int Z Z Z<|ON Z Z Z<|rw_neq Z Z Z<|ON Z Z Z<|PT Z Z Z Z<|PF Z Z Z Z<|MV Z Z<|?_
  refine rw_caseN (j:=79) Z (fun h51=>?_) (fun h51=>?_)
  ·refine SKP Z<|PT Z Z Z Z<|MV Z Z<|SKP Z<|PT Z Z Z Z<|ND<|CT Z Z<|SQ<|RG<|AS Z Z<|ND<|RT Tryz.func16 Z Z<|?_
   simp [isStreamS,isStreamW,h1,h2,h3,h4,h5,h6,h7,h8,h48,h49,h50,h51]
  refine ON Z Z Z<|FA Z tyF_impl_Stream_9 Z<|ON Z Z Z<|LD (i:=0) Z tyP_bool Z Z Z<|ON Z Z Z<|MV Z Z<|?_
  refine rw_caseL (j:=82) Z (fun h52=>?_) (fun h52=>?_)
  ·refine ON Z Z Z<|FA Z tyF_impl_Stream_11 Z<|ON Z Z Z<|LD (i:=0) Z tyP_bool Z Z Z<|ON Z Z Z<|NT Z Z<|ON Z Z Z<|PT Z Z Z Z<|PF Z Z Z Z<|MV Z Z<|?_
   refine rw_caseN (j:=88) Z (fun h53=>?_) (fun h53=>?_)
   ·refine SKP Z<|PT Z Z Z Z<|ND<|CT Z Z<|SQ<|RG<|AS Z Z<|ND<|RT Tryz.func16 Z Z<|?_
    simp [isStreamS,isStreamW,h1,h2,h3,h4,h5,h6,h7,h8,h48,h49,h50,h51,h52,h53]
   refine ON Z Z Z<|FA Z tyF_impl_Stream_12 Z<|ON Z Z Z<|LD (i:=0) Z tyP_int Z Z Z<|ON Z Z Z<|rw_neq Z Z Z<|ON Z Z Z<|MV Z Z<|?_
   refine rw_caseN (j:=92) Z (fun h54=>?_) (fun h54=>?_)
   ·refine ON Z Z Z<|FA Z tyF_impl_Stream_11 Z<|ON Z Z Z<|LD (i:=0) Z tyP_bool Z Z Z<|ON Z Z Z<|NT Z Z<|ON Z Z Z<|PT Z Z Z Z<|PF Z Z Z Z<|ND<|CF Z (not_T h53)<|SK<|SQ<|RG<|FA Z tyF_impl_Stream_6 Z<|LD (i:=0) Z tyP_bool Z Z Z<|MV Z Z<|rw_lit (j:=100) Z h8<|SKP Z<|PT Z Z Z Z<|MV Z Z<|ON Z Z Z<|FA Z tyF_impl_Stream_7 Z<|?_
    refine ON Z Z Z<|LD (i:=0) Z tyP_bool Z Z Z<|ON Z Z Z<|MV Z Z<|?_
    refine rw_caseL (j:=122) Z (fun h55=>?_) (fun h55=>?_)
    ·refine SKP Z<|ON Z Z Z<|PT Z Z Z Z<|PT Z Z Z Z<|AS Z Z<|ND<|RT Tryz.func16 Z Z<|?_
     simp [isStreamS,isStreamW,h1,h2,h3,h4,h5,h6,h7,h8,h48,h49,h50,h51,h52,h53,h54,h55]
    refine ON Z Z Z<|FA Z tyF_impl_Stream_3 Z<|ON Z Z Z<|FA Z tyF_impl_Receiver_0 Z<|ON Z Z Z<|LD (i:=0) Z tyP_int Z Z Z<|ON Z Z Z<|EQ1 Z Z Z<|ON Z Z Z<|MV Z Z<|?_
    refine rw_caseL (j:=127) Z (fun h56=>?_) (fun h56=>?_)
    ·refine ON Z Z Z<|FA Z tyF_impl_Stream_3 Z<|ON Z Z Z<|FA Z tyF_impl_Receiver_3 Z<|ON Z Z Z<|LD (i:=0) Z tyP_int Z Z Z<|ON Z Z Z<|EQ1 Z Z Z<|ON Z Z Z<|PT Z Z Z Z<|ON Z Z Z<|MV Z Z<|?_
     refine rw_caseL (j:=133) Z (fun h57=>?_) (fun h57=>?_)
     ·refine ON Z Z Z<|FA Z tyF_impl_Stream_11 Z<|ON Z Z Z<|LD (i:=0) Z tyP_bool Z Z Z<|ON Z Z Z<|NT Z Z<|ON Z Z Z<|PT Z Z Z Z<|ON Z Z Z<|PF Z Z Z Z<|PT Z Z Z Z<|AS Z Z<|ND<|RT Tryz.func16 Z Z<|?_
      simp [isStreamS,isStreamW,h1,h2,h3,h4,h5,h6,h7,h8,h48,h49,h50,h51,h52,h53,h54,h55,h56,h57]
     refine SKP Z<|ON Z Z Z<|PF Z Z Z Z<|ON Z Z Z<|PF Z Z Z Z<|PT Z Z Z Z<|AS Z Z<|ND<|RT Tryz.func16 Z Z<|?_
     simp [isStreamS,isStreamW,h1,h2,h3,h4,h5,h6,h7,h8,h48,h49,h50,h51,h52,h53,h54,h55,h56,h57]
    refine SKP Z<|ON Z Z Z<|PF Z Z Z Z<|ON Z Z Z<|MV Z Z<|SKP Z<|ON Z Z Z<|PF Z Z Z Z<|ON Z Z Z<|PF Z Z Z Z<|PT Z Z Z Z<|AS Z Z<|ND<|RT Tryz.func16 Z Z<|?_
    simp [isStreamS,isStreamW,h1,h2,h3,h4,h5,h6,h7,h8,h48,h49,h50,h51,h52,h53,h54,h55,h56]
   refine SKP Z<|ON Z Z Z<|PF Z Z Z Z<|PF Z Z Z Z<|ND<|CF Z Z<|SK<|SQ<|RG<|FA Z tyF_impl_Stream_6 Z<|LD (i:=0) Z tyP_bool Z Z Z<|MV Z Z<|rw_lit (j:=100) Z h8<|SKP Z<|PT Z Z Z Z<|MV Z Z<|ON Z Z Z<|FA Z tyF_impl_Stream_7 Z<|ON Z Z Z<|LD (i:=0) Z tyP_bool Z Z Z<|ON Z Z Z<|MV Z Z<|?_
   refine rw_caseL (j:=122) Z (fun h58=>?_) (fun h58=>?_)
   ·refine SKP Z<|ON Z Z Z<|PT Z Z Z Z<|PT Z Z Z Z<|AS Z Z<|ND<|RT Tryz.func16 Z Z<|?_
    simp [isStreamS,isStreamW,h1,h2,h3,h4,h5,h6,h7,h8,h48,h49,h50,h51,h52,h53,h54,h58]
   refine ON Z Z Z<|FA Z tyF_impl_Stream_3 Z<|ON Z Z Z<|FA Z tyF_impl_Receiver_0 Z<|ON Z Z Z<|LD (i:=0) Z tyP_int Z Z Z<|ON Z Z Z<|EQ1 Z Z Z<|ON Z Z Z<|MV Z Z<|?_
   refine rw_caseL (j:=127) Z (fun h59=>?_) (fun h59=>?_)
   ·refine ON Z Z Z<|FA Z tyF_impl_Stream_3 Z<|ON Z Z Z<|FA Z tyF_impl_Receiver_3 Z<|ON Z Z Z<|LD (i:=0) Z tyP_int Z Z Z<|ON Z Z Z<|EQ1 Z Z Z<|ON Z Z Z<|PT Z Z Z Z<|ON Z Z Z<|MV Z Z<|?_
    refine rw_caseL (j:=133) Z (fun h60=>?_) (fun h60=>?_)
    ·refine ON Z Z Z<|FA Z tyF_impl_Stream_11 Z<|ON Z Z Z<|LD (i:=0) Z tyP_bool Z Z Z<|ON Z Z Z<|NT Z Z<|ON Z Z Z<|PT Z Z Z Z<|ON Z Z Z<|PF Z Z Z Z<|PT Z Z Z Z<|AS Z Z<|ND<|RT Tryz.func16 Z Z<|?_
     simp [isStreamS,isStreamW,h1,h2,h3,h4,h5,h6,h7,h8,h48,h49,h50,h51,h52,h53,h54,h58,h59,h60]
    refine SKP Z<|ON Z Z Z<|PF Z Z Z Z<|ON Z Z Z<|PF Z Z Z Z<|PT Z Z Z Z<|AS Z Z<|ND<|RT Tryz.func16 Z Z<|?_
    simp [isStreamS,isStreamW,h1,h2,h3,h4,h5,h6,h7,h8,h48,h49,h50,h51,h52,h53,h54,h58,h59,h60]
   refine SKP Z<|ON Z Z Z<|PF Z Z Z Z<|ON Z Z Z<|MV Z Z<|SKP Z<|ON Z Z Z<|PF Z Z Z Z<|ON Z Z Z<|PF Z Z Z Z<|PT Z Z Z Z<|AS Z Z<|ND<|RT Tryz.func16 Z Z<|?_
   simp [isStreamS,isStreamW,h1,h2,h3,h4,h5,h6,h7,h8,h48,h49,h50,h51,h52,h53,h54,h58,h59]
  refine SKP Z<|ON Z Z Z<|PF Z Z Z Z<|PF Z Z Z Z<|MV Z Z<|ON Z Z Z<|FA Z tyF_impl_Stream_12 Z<|ON Z Z Z<|LD (i:=0) Z tyP_int Z Z Z<|ON Z Z Z<|rw_neq Z Z Z<|ON Z Z Z<|MV Z Z<|?_
  refine rw_caseN (j:=92) Z (fun h61=>?_) (fun h61=>?_)
  ·refine ON Z Z Z<|FA Z tyF_impl_Stream_11 Z<|ON Z Z Z<|LD (i:=0) Z tyP_bool Z Z Z<|ON Z Z Z<|NT Z Z<|ON Z Z Z<|PT Z Z Z Z<|PF Z Z Z Z<|ND<|?_
   refine gw_condN Z (fun h62=>?_) (fun h62=>?_)
   ·refine SQ<|RG<|AS Z Z<|ND<|RT Tryz.func16 Z Z<|?_
    simp [isStreamS,isStreamW,h1,h2,h3,h4,h5,h6,h7,h8,h48,h49,h50,h51,h52,h61,h62]
   refine SK<|SQ<|RG<|FA Z tyF_impl_Stream_6 Z<|LD (i:=0) Z tyP_bool Z Z Z<|MV Z Z<|rw_lit (j:=100) Z h8<|SKP Z<|PT Z Z Z Z<|MV Z Z<|ON Z Z Z<|FA Z tyF_impl_Stream_7 Z<|ON Z Z Z<|LD (i:=0) Z tyP_bool Z Z Z<|ON Z Z Z<|MV Z Z<|?_
   refine rw_caseL (j:=122) Z (fun h63=>?_) (fun h63=>?_)
   ·refine SKP Z<|ON Z Z Z<|PT Z Z Z Z<|PT Z Z Z Z<|AS Z Z<|ND<|RT Tryz.func16 Z Z<|?_
    simp [isStreamS,isStreamW,h1,h2,h3,h4,h5,h6,h7,h8,h48,h49,h50,h51,h52,h61,h62,h63]
   refine ON Z Z Z<|FA Z tyF_impl_Stream_3 Z<|ON Z Z Z<|FA Z tyF_impl_Receiver_0 Z<|ON Z Z Z<|LD (i:=0) Z tyP_int Z Z Z<|ON Z Z Z<|EQ1 Z Z Z<|ON Z Z Z<|MV Z Z<|?_
   refine rw_caseL (j:=127) Z (fun h64=>?_) (fun h64=>?_)
   ·refine ON Z Z Z<|FA Z tyF_impl_Stream_3 Z<|ON Z Z Z<|FA Z tyF_impl_Receiver_3 Z<|ON Z Z Z<|LD (i:=0) Z tyP_int Z Z Z<|ON Z Z Z<|EQ1 Z Z Z<|ON Z Z Z<|PT Z Z Z Z<|ON Z Z Z<|MV Z Z<|?_
    refine rw_caseL (j:=133) Z (fun h65=>?_) (fun h65=>?_)
    ·refine ON Z Z Z<|FA Z tyF_impl_Stream_11 Z<|ON Z Z Z<|LD (i:=0) Z tyP_bool Z Z Z<|ON Z Z Z<|NT Z Z<|ON Z Z Z<|PT Z Z Z Z<|ON Z Z Z<|PF Z Z Z Z<|PT Z Z Z Z<|AS Z Z<|ND<|RT Tryz.func16 Z Z<|?_
     simp [isStreamS,isStreamW,h1,h2,h3,h4,h5,h6,h7,h8,h48,h49,h50,h51,h52,h61,h62,h63,h64,h65]
    refine SKP Z<|ON Z Z Z<|PF Z Z Z Z<|ON Z Z Z<|PF Z Z Z Z<|PT Z Z Z Z<|AS Z Z<|ND<|RT Tryz.func16 Z Z<|?_
    simp [isStreamS,isStreamW,h1,h2,h3,h4,h5,h6,h7,h8,h48,h49,h50,h51,h52,h61,h62,h63,h64,h65]
   refine SKP Z<|ON Z Z Z<|PF Z Z Z Z<|ON Z Z Z<|MV Z Z<|SKP Z<|ON Z Z Z<|PF Z Z Z Z<|ON Z Z Z<|PF Z Z Z Z<|PT Z Z Z Z<|AS Z Z<|ND<|RT Tryz.func16 Z Z<|?_
   simp [isStreamS,isStreamW,h1,h2,h3,h4,h5,h6,h7,h8,h48,h49,h50,h51,h52,h61,h62,h63,h64]
  refine SKP Z<|ON Z Z Z<|PF Z Z Z Z<|PF Z Z Z Z<|ND<|CF Z Z<|SK<|SQ<|RG<|FA Z tyF_impl_Stream_6 Z<|LD (i:=0) Z tyP_bool Z Z Z<|MV Z Z<|rw_lit (j:=100) Z h8<|SKP Z<|PT Z Z Z Z<|MV Z Z<|ON Z Z Z<|FA Z tyF_impl_Stream_7 Z<|ON Z Z Z<|LD (i:=0) Z tyP_bool Z Z Z<|ON Z Z Z<|MV Z Z<|?_
  refine rw_caseL (j:=122) Z (fun h66=>?_) (fun h66=>?_)
  ·refine SKP Z<|ON Z Z Z<|PT Z Z Z Z<|PT Z Z Z Z<|AS Z Z<|ND<|RT Tryz.func16 Z Z<|?_
   simp [isStreamS,isStreamW,h1,h2,h3,h4,h5,h6,h7,h8,h48,h49,h50,h51,h52,h61,h66]
  refine ON Z Z Z<|FA Z tyF_impl_Stream_3 Z<|ON Z Z Z<|FA Z tyF_impl_Receiver_0 Z<|ON Z Z Z<|LD (i:=0) Z tyP_int Z Z Z<|ON Z Z Z<|EQ1 Z Z Z<|ON Z Z Z<|MV Z Z<|?_
  refine rw_caseL (j:=127) Z (fun h67=>?_) (fun h67=>?_)
  ·refine ON Z Z Z<|FA Z tyF_impl_Stream_3 Z<|ON Z Z Z<|FA Z tyF_impl_Receiver_3 Z<|ON Z Z Z<|LD (i:=0) Z tyP_int Z Z Z<|ON Z Z Z<|EQ1 Z Z Z<|ON Z Z Z<|PT Z Z Z Z<|ON Z Z Z<|MV Z Z<|?_
   refine rw_caseL (j:=133) Z (fun h68=>?_) (fun h68=>?_)
   ·refine ON Z Z Z<|FA Z tyF_impl_Stream_11 Z<|ON Z Z Z<|LD (i:=0) Z tyP_bool Z Z Z<|ON Z Z Z<|NT Z Z<|ON Z Z Z<|PT Z Z Z Z<|ON Z Z Z<|PF Z Z Z Z<|PT Z Z Z Z<|AS Z Z<|ND<|RT Tryz.func16 Z Z<|?_
    simp [isStreamS,isStreamW,h1,h2,h3,h4,h5,h6,h7,h8,h48,h49,h50,h51,h52,h61,h66,h67,h68]
   refine SKP Z<|ON Z Z Z<|PF Z Z Z Z<|ON Z Z Z<|PF Z Z Z Z<|PT Z Z Z Z<|AS Z Z<|ND<|RT Tryz.func16 Z Z<|?_
   simp [isStreamS,isStreamW,h1,h2,h3,h4,h5,h6,h7,h8,h48,h49,h50,h51,h52,h61,h66,h67,h68]
  refine SKP Z<|ON Z Z Z<|PF Z Z Z Z<|ON Z Z Z<|MV Z Z<|SKP Z<|ON Z Z Z<|PF Z Z Z Z<|ON Z Z Z<|PF Z Z Z Z<|PT Z Z Z Z<|AS Z Z<|ND<|RT Tryz.func16 Z Z<|?_
  simp [isStreamS,isStreamW,h1,h2,h3,h4,h5,h6,h7,h8,h48,h49,h50,h51,h52,h61,h66,h67]
 refine SKP Z<|ON Z Z Z<|PF Z Z Z Z<|PF Z Z Z Z<|MV Z Z<|ON Z Z Z<|FA Z tyF_impl_Stream_9 Z<|ON Z Z Z<|LD (i:=0) Z tyP_bool Z Z Z<|ON Z Z Z<|MV Z Z<|?_
 refine rw_caseL (j:=82) Z (fun h69=>?_) (fun h69=>?_)
 ·refine ON Z Z Z<|FA Z tyF_impl_Stream_11 Z<|ON Z Z Z<|LD (i:=0) Z tyP_bool Z Z Z<|ON Z Z Z<|NT Z Z<|ON Z Z Z<|PT Z Z Z Z<|PF Z Z Z Z<|MV Z Z<|?_
  refine rw_caseN (j:=88) Z (fun h70=>?_) (fun h70=>?_)
  ·refine SKP Z<|PT Z Z Z Z<|ND<|CT Z Z<|SQ<|RG<|AS Z Z<|ND<|RT Tryz.func16 Z Z<|?_
   simp [isStreamS,isStreamW,h1,h2,h3,h4,h5,h6,h7,h8,h48,h49,h50,h69,h70]
  refine ON Z Z Z<|FA Z tyF_impl_Stream_12 Z<|ON Z Z Z<|LD (i:=0) Z tyP_int Z Z Z<|ON Z Z Z<|rw_neq Z Z Z<|ON Z Z Z<|MV Z Z<|?_
  refine rw_caseN (j:=92) Z (fun h71=>?_) (fun h71=>?_)
  ·refine ON Z Z Z<|FA Z tyF_impl_Stream_11 Z<|ON Z Z Z<|LD (i:=0) Z tyP_bool Z Z Z<|ON Z Z Z<|NT Z Z<|ON Z Z Z<|PT Z Z Z Z<|PF Z Z Z Z<|ND<|CF Z (not_T h70)<|SK<|SQ<|RG<|FA Z tyF_impl_Stream_6 Z<|LD (i:=0) Z tyP_bool Z Z Z<|MV Z Z<|rw_lit (j:=100) Z h8<|SKP Z<|PT Z Z Z Z<|MV Z Z<|ON Z Z Z<|FA Z tyF_impl_Stream_7 Z<|?_
   refine ON Z Z Z<|LD (i:=0) Z tyP_bool Z Z Z<|ON Z Z Z<|MV Z Z<|?_
   refine rw_caseL (j:=122) Z (fun h72=>?_) (fun h72=>?_)
   ·refine SKP Z<|ON Z Z Z<|PT Z Z Z Z<|PT Z Z Z Z<|AS Z Z<|ND<|RT Tryz.func16 Z Z<|?_
    simp [isStreamS,isStreamW,h1,h2,h3,h4,h5,h6,h7,h8,h48,h49,h50,h69,h70,h71,h72]
   refine ON Z Z Z<|FA Z tyF_impl_Stream_3 Z<|ON Z Z Z<|FA Z tyF_impl_Receiver_0 Z<|ON Z Z Z<|LD (i:=0) Z tyP_int Z Z Z<|ON Z Z Z<|EQ1 Z Z Z<|ON Z Z Z<|MV Z Z<|?_
   refine rw_caseL (j:=127) Z (fun h73=>?_) (fun h73=>?_)
   ·refine ON Z Z Z<|FA Z tyF_impl_Stream_3 Z<|ON Z Z Z<|FA Z tyF_impl_Receiver_3 Z<|ON Z Z Z<|LD (i:=0) Z tyP_int Z Z Z<|ON Z Z Z<|EQ1 Z Z Z<|ON Z Z Z<|PT Z Z Z Z<|ON Z Z Z<|MV Z Z<|?_
    refine rw_caseL (j:=133) Z (fun h74=>?_) (fun h74=>?_)
    ·refine ON Z Z Z<|FA Z tyF_impl_Stream_11 Z<|ON Z Z Z<|LD (i:=0) Z tyP_bool Z Z Z<|ON Z Z Z<|NT Z Z<|ON Z Z Z<|PT Z Z Z Z<|ON Z Z Z<|PF Z Z Z Z<|PT Z Z Z Z<|AS Z Z<|ND<|RT Tryz.func16 Z Z<|?_
     simp [isStreamS,isStreamW,h1,h2,h3,h4,h5,h6,h7,h8,h48,h49,h50,h69,h70,h71,h72,h73,h74]
    refine SKP Z<|ON Z Z Z<|PF Z Z Z Z<|ON Z Z Z<|PF Z Z Z Z<|PT Z Z Z Z<|AS Z Z<|ND<|RT Tryz.func16 Z Z<|?_
    simp [isStreamS,isStreamW,h1,h2,h3,h4,h5,h6,h7,h8,h48,h49,h50,h69,h70,h71,h72,h73,h74]
   refine SKP Z<|ON Z Z Z<|PF Z Z Z Z<|ON Z Z Z<|MV Z Z<|SKP Z<|ON Z Z Z<|PF Z Z Z Z<|ON Z Z Z<|PF Z Z Z Z<|PT Z Z Z Z<|AS Z Z<|ND<|RT Tryz.func16 Z Z<|?_
   simp [isStreamS,isStreamW,h1,h2,h3,h4,h5,h6,h7,h8,h48,h49,h50,h69,h70,h71,h72,h73]
  refine SKP Z<|ON Z Z Z<|PF Z Z Z Z<|PF Z Z Z Z<|ND<|CF Z Z<|SK<|SQ<|RG<|FA Z tyF_impl_Stream_6 Z<|LD (i:=0) Z tyP_bool Z Z Z<|MV Z Z<|rw_lit (j:=100) Z h8<|SKP Z<|PT Z Z Z Z<|MV Z Z<|ON Z Z Z<|FA Z tyF_impl_Stream_7 Z<|ON Z Z Z<|LD (i:=0) Z tyP_bool Z Z Z<|ON Z Z Z<|MV Z Z<|?_
  refine rw_caseL (j:=122) Z (fun h75=>?_) (fun h75=>?_)
  ·refine SKP Z<|ON Z Z Z<|PT Z Z Z Z<|PT Z Z Z Z<|AS Z Z<|ND<|RT Tryz.func16 Z Z<|?_
   simp [isStreamS,isStreamW,h1,h2,h3,h4,h5,h6,h7,h8,h48,h49,h50,h69,h70,h71,h75]
  refine ON Z Z Z<|FA Z tyF_impl_Stream_3 Z<|ON Z Z Z<|FA Z tyF_impl_Receiver_0 Z<|ON Z Z Z<|LD (i:=0) Z tyP_int Z Z Z<|ON Z Z Z<|EQ1 Z Z Z<|ON Z Z Z<|MV Z Z<|?_
  refine rw_caseL (j:=127) Z (fun h76=>?_) (fun h76=>?_)
  ·refine ON Z Z Z<|FA Z tyF_impl_Stream_3 Z<|ON Z Z Z<|FA Z tyF_impl_Receiver_3 Z<|ON Z Z Z<|LD (i:=0) Z tyP_int Z Z Z<|ON Z Z Z<|EQ1 Z Z Z<|ON Z Z Z<|PT Z Z Z Z<|ON Z Z Z<|MV Z Z<|?_
   refine rw_caseL (j:=133) Z (fun h77=>?_) (fun h77=>?_)
   ·refine ON Z Z Z<|FA Z tyF_impl_Stream_11 Z<|ON Z Z Z<|LD (i:=0) Z tyP_bool Z Z Z<|ON Z Z Z<|NT Z Z<|ON Z Z Z<|PT Z Z Z Z<|ON Z Z Z<|PF Z Z Z Z<|PT Z Z Z Z<|AS Z Z<|ND<|RT Tryz.func16 Z Z<|?_
    simp [isStreamS,isStreamW,h1,h2,h3,h4,h5,h6,h7,h8,h48,h49,h50,h69,h70,h71,h75,h76,h77]
   refine SKP Z<|ON Z Z Z<|PF Z Z Z Z<|ON Z Z Z<|PF Z Z Z Z<|PT Z Z Z Z<|AS Z Z<|ND<|RT Tryz.func16 Z Z<|?_
   simp [isStreamS,isStreamW,h1,h2,h3,h4,h5,h6,h7,h8,h48,h49,h50,h69,h70,h71,h75,h76,h77]
  refine SKP Z<|ON Z Z Z<|PF Z Z Z Z<|ON Z Z Z<|MV Z Z<|SKP Z<|ON Z Z Z<|PF Z Z Z Z<|ON Z Z Z<|PF Z Z Z Z<|PT Z Z Z Z<|AS Z Z<|ND<|RT Tryz.func16 Z Z<|?_
  simp [isStreamS,isStreamW,h1,h2,h3,h4,h5,h6,h7,h8,h48,h49,h50,h69,h70,h71,h75,h76]
 refine SKP Z<|ON Z Z Z<|PF Z Z Z Z<|PF Z Z Z Z<|MV Z Z<|ON Z Z Z<|FA Z tyF_impl_Stream_12 Z<|ON Z Z Z<|LD (i:=0) Z tyP_int Z Z Z<|ON Z Z Z<|rw_neq Z Z Z<|ON Z Z Z<|MV Z Z<|?_
 refine rw_caseN (j:=92) Z (fun h78=>?_) (fun h78=>?_)
 ·refine ON Z Z Z<|FA Z tyF_impl_Stream_11 Z<|ON Z Z Z<|LD (i:=0) Z tyP_bool Z Z Z<|ON Z Z Z<|NT Z Z<|ON Z Z Z<|PT Z Z Z Z<|PF Z Z Z Z<|ND<|?_
  refine gw_condN Z (fun h79=>?_) (fun h79=>?_)
  ·refine SQ<|RG<|AS Z Z<|ND<|RT Tryz.func16 Z Z<|?_
   simp [isStreamS,isStreamW,h1,h2,h3,h4,h5,h6,h7,h8,h48,h49,h50,h69,h78,h79]
  refine SK<|SQ<|RG<|FA Z tyF_impl_Stream_6 Z<|LD (i:=0) Z tyP_bool Z Z Z<|MV Z Z<|rw_lit (j:=100) Z h8<|SKP Z<|PT Z Z Z Z<|MV Z Z<|ON Z Z Z<|FA Z tyF_impl_Stream_7 Z<|ON Z Z Z<|LD (i:=0) Z tyP_bool Z Z Z<|ON Z Z Z<|MV Z Z<|?_
  refine rw_caseL (j:=122) Z (fun h80=>?_) (fun h80=>?_)
  ·refine SKP Z<|ON Z Z Z<|PT Z Z Z Z<|PT Z Z Z Z<|AS Z Z<|ND<|RT Tryz.func16 Z Z<|?_
   simp [isStreamS,isStreamW,h1,h2,h3,h4,h5,h6,h7,h8,h48,h49,h50,h69,h78,h79,h80]
  refine ON Z Z Z<|FA Z tyF_impl_Stream_3 Z<|ON Z Z Z<|FA Z tyF_impl_Receiver_0 Z<|ON Z Z Z<|LD (i:=0) Z tyP_int Z Z Z<|ON Z Z Z<|EQ1 Z Z Z<|ON Z Z Z<|MV Z Z<|?_
  refine rw_caseL (j:=127) Z (fun h81=>?_) (fun h81=>?_)
  ·refine ON Z Z Z<|FA Z tyF_impl_Stream_3 Z<|ON Z Z Z<|FA Z tyF_impl_Receiver_3 Z<|ON Z Z Z<|LD (i:=0) Z tyP_int Z Z Z<|ON Z Z Z<|EQ1 Z Z Z<|ON Z Z Z<|PT Z Z Z Z<|ON Z Z Z<|MV Z Z<|?_
   refine rw_caseL (j:=133) Z (fun h82=>?_) (fun h82=>?_)
   ·refine ON Z Z Z<|FA Z tyF_impl_Stream_11 Z<|ON Z Z Z<|LD (i:=0) Z tyP_bool Z Z Z<|ON Z Z Z<|NT Z Z<|ON Z Z Z<|PT Z Z Z Z<|ON Z Z Z<|PF Z Z Z Z<|PT Z Z Z Z<|AS Z Z<|ND<|RT Tryz.func16 Z Z<|?_
    simp [isStreamS,isStreamW,h1,h2,h3,h4,h5,h6,h7,h8,h48,h49,h50,h69,h78,h79,h80,h81,h82]
   refine SKP Z<|ON Z Z Z<|PF Z Z Z Z<|ON Z Z Z<|PF Z Z Z Z<|PT Z Z Z Z<|AS Z Z<|ND<|RT Tryz.func16 Z Z<|?_
   simp [isStreamS,isStreamW,h1,h2,h3,h4,h5,h6,h7,h8,h48,h49,h50,h69,h78,h79,h80,h81,h82]
  refine SKP Z<|ON Z Z Z<|PF Z Z Z Z<|ON Z Z Z<|MV Z Z<|SKP Z<|ON Z Z Z<|PF Z Z Z Z<|ON Z Z Z<|PF Z Z Z Z<|PT Z Z Z Z<|AS Z Z<|ND<|RT Tryz.func16 Z Z<|?_
  simp [isStreamS,isStreamW,h1,h2,h3,h4,h5,h6,h7,h8,h48,h49,h50,h69,h78,h79,h80,h81]
 refine SKP Z<|ON Z Z Z<|PF Z Z Z Z<|PF Z Z Z Z<|ND<|CF Z Z<|SK<|SQ<|RG<|FA Z tyF_impl_Stream_6 Z<|LD (i:=0) Z tyP_bool Z Z Z<|MV Z Z<|rw_lit (j:=100) Z h8<|SKP Z<|PT Z Z Z Z<|MV Z Z<|ON Z Z Z<|FA Z tyF_impl_Stream_7 Z<|ON Z Z Z<|LD (i:=0) Z tyP_bool Z Z Z<|ON Z Z Z<|MV Z Z<|?_
 refine rw_caseL (j:=122) Z (fun h83=>?_) (fun h83=>?_)
 ·refine SKP Z<|ON Z Z Z<|PT Z Z Z Z<|PT Z Z Z Z<|AS Z Z<|ND<|RT Tryz.func16 Z Z<|?_
  simp [isStreamS,isStreamW,h1,h2,h3,h4,h5,h6,h7,h8,h48,h49,h50,h69,h78,h83]
 refine ON Z Z Z<|FA Z tyF_impl_Stream_3 Z<|ON Z Z Z<|FA Z tyF_impl_Receiver_0 Z<|ON Z Z Z<|LD (i:=0) Z tyP_int Z Z Z<|ON Z Z Z<|EQ1 Z Z Z<|ON Z Z Z<|MV Z Z<|?_
 refine rw_caseL (j:=127) Z (fun h84=>?_) (fun h84=>?_)
 ·refine ON Z Z Z<|FA Z tyF_impl_Stream_3 Z<|ON Z Z Z<|FA Z tyF_impl_Receiver_3 Z<|ON Z Z Z<|LD (i:=0) Z tyP_int Z Z Z<|ON Z Z Z<|EQ1 Z Z Z<|ON Z Z Z<|PT Z Z Z Z<|ON Z Z Z<|MV Z Z<|?_
  refine rw_caseL (j:=133) Z (fun h85=>?_) (fun h85=>?_)
  ·refine ON Z Z Z<|FA Z tyF_impl_Stream_11 Z<|ON Z Z Z<|LD (i:=0) Z tyP_bool Z Z Z<|ON Z Z Z<|NT Z Z<|ON Z Z Z<|PT Z Z Z Z<|ON Z Z Z<|PF Z Z Z Z<|PT Z Z Z Z<|AS Z Z<|ND<|RT Tryz.func16 Z Z<|?_
   simp [isStreamS,isStreamW,h1,h2,h3,h4,h5,h6,h7,h8,h48,h49,h50,h69,h78,h83,h84,h85]
  refine SKP Z<|ON Z Z Z<|PF Z Z Z Z<|ON Z Z Z<|PF Z Z Z Z<|PT Z Z Z Z<|AS Z Z<|ND<|RT Tryz.func16 Z Z<|?_
  simp [isStreamS,isStreamW,h1,h2,h3,h4,h5,h6,h7,h8,h48,h49,h50,h69,h78,h83,h84,h85]
 refine SKP Z<|ON Z Z Z<|PF Z Z Z Z<|ON Z Z Z<|MV Z Z<|SKP Z<|ON Z Z Z<|PF Z Z Z Z<|ON Z Z Z<|PF Z Z Z Z<|PT Z Z Z Z<|AS Z Z<|ND<|RT Tryz.func16 Z Z<|?_
 simp [isStreamS,isStreamW,h1,h2,h3,h4,h5,h6,h7,h8,h48,h49,h50,h69,h78,h83,h84]
theorem spec_IsSendOver {w : World} {cs : List Value} {x : Stream} (hv : RdStream w cs x)  : CV Tryz.prog 18 [.agg cs.toArray] w (.bool (isSendOver x)) := by
 obtain ⟨v0,v1,v2,v3,v4,rfl,k0,k1,k2,k3,k4⟩:=hv
 obtain ⟨A0,c0,rfl,hA0⟩:=k0
 obtain ⟨A1,c1,rfl,hA1⟩:=k1
 obtain ⟨A2,c2,rfl,hA2⟩:=k2
 obtain ⟨A3,c3,rfl,hA3⟩:=k3
 obtain ⟨A4,c4,rfl,hA4⟩:=k4
 refine cv_of Tryz.func18 Z Z Z<|SQ<|RG<|BX [_,_,_,_,_,_,_,_,_,_,_,_,_,_,_,_,_,_,_,_,_,_,_,_,_,_,_,_,_,_,_,_,_,_,_,_,_,_,_] Z Z Z<|fun b1=>AS Z Z<|ND<|SQ<|RG<|FA Z tyF_impl_Stream_6 Z<|LD (i:=0) Z tyP_bool Z Z Z<|NT Z Z<|MV Z Z<|?_
 refine rw_caseN (j:=6) Z (fun h1=>?_) (fun h1=>?_)
 ·refine SKP Z<|PT Z Z Z Z<|MV Z Z<|SKP Z<|PT Z Z Z Z<|AS Z Z<|ND<|RT Tryz.func18 Z Z<|?_
  simp [isSendOver,h1]
 refine ON Z Z Z<|FA Z tyF_impl_Stream_1 Z<|ON Z Z Z<|FA Z tyF_impl_Sender_0 Z<|ON Z Z Z<|LD (i:=0) Z tyP_int Z Z Z<|ON Z Z Z<|EQ1 Z Z Z<|PF Z Z Z Z<|MV Z Z<|?_
 refine rw_caseL (j:=12) Z (fun h2=>?_) (fun h2=>?_)
 ·refine SKP Z<|PT Z Z Z Z<|AS Z Z<|ND<|RT Tryz.func18 Z Z<|?_
  simp [isSendOver,h1,h2]
 refine ON Z Z Z<|FA Z tyF_impl_Stream_1 Z<|ON Z Z Z<|FA Z tyF_impl_Sender_0 Z<|ON Z Z Z<|LD (i:=0) Z tyP_int Z Z Z<|ON Z Z Z<|EQ1 Z Z Z<|PF Z Z Z Z<|AS Z Z<|ND<|RT Tryz.func18 Z Z<|?_
 simp [isSendOver,h1,h2]
theorem spec_IsReceived {w : World} {cs : List Value} {x : Receiver} (hv : RdReceiver w cs x) (hb : x.le 1048576) : CV Tryz.prog 85 [.agg cs.toArray] w (.bool (isReceived x)) := by
 obtain ⟨v0,rfl,k0⟩:=hv
 obtain ⟨A0,c0,rfl,hA0⟩:=k0
 obtain ⟨hb0,hb1⟩:=hb
 refine cv_of Tryz.func85 Z Z Z<|SQ<|RG<|BX [_,_,_,_,_,_] Z Z Z<|fun b1=>AS Z Z<|ND<|SQ<|RG<|LS (i:=0) [_,_,_,_,_,_] Z tyS_impl_Receiver Z Z Z Z<|CV1 Z fun_spec_IsReceiver Z (fun w hs=>spec_IsReceiver ⟨_,Z,(hA0.s Pl.keeps hs)⟩ ⟨hb0,hb1⟩)<|MV Z Z<|?_
 refine rw_caseL (j:=5) Z (fun h1=>?_) (fun h1=>?_)
 ·refine ON Z Z Z<|FA Z tyF_impl_Receiver_0 Z<|ON Z Z Z<|LD (i:=0) Z tyP_int Z Z Z<|ON Z Z Z<|EQ1 Z Z Z<|ON Z Z Z<|MV Z Z<|?_
  refine rw_caseL (j:=9) Z (fun h2=>?_) (fun h2=>?_)
  ·refine SKP Z<|ON Z Z Z<|PT Z Z Z Z<|PT Z Z Z Z<|AS Z Z<|ND<|RT Tryz.func85 Z Z<|?_
   simp [isReceived,h1,h2]
  refine ON Z Z Z<|FA Z tyF_impl_Receiver_0 Z<|ON Z Z Z<|LD (i:=0) Z tyP_int Z Z Z<|ON Z Z Z<|EQ1 Z Z Z<|ON Z Z Z<|PF Z Z Z Z<|PT Z Z Z Z<|AS Z Z<|ND<|RT Tryz.func85 Z Z<|?_
  simp [isReceived,h1,h2]
 refine SKP Z<|PF Z Z Z Z<|AS Z Z<|ND<|RT Tryz.func85 Z Z<|?_
 simp [isReceived,h1]
theorem spec_IsRecvOver {w : World} {cs : List Value} {x : Stream} (hv : RdStream w cs x) (hb : x.le 1048576) : CV Tryz.prog 20 [.agg cs.toArray] w (.bool (isRecvOver x)) := by
 obtain ⟨v0,v1,v2,v3,v4,rfl,k0,k1,k2,k3,k4⟩:=hv
 obtain ⟨A0,c0,rfl,hA0⟩:=k0
 obtain ⟨A1,c1,rfl,hA1⟩:=k1
 obtain ⟨A2,c2,rfl,hA2⟩:=k2
 obtain ⟨A3,c3,rfl,hA3⟩:=k3
 obtain ⟨A4,c4,rfl,hA4⟩:=k4
 obtain ⟨hb0,hb1,hb2,hb3,hb4,hb5⟩:=hb
 refine cv_of Tryz.func20 Z Z Z<|SQ<|RG<|BX [_,_,_,_,_,_,_,_,_,_,_,_,_,_,_,_,_,_,_,_,_,_,_,_,_,_,_,_,_,_,_,_,_,_,_,_,_,_,_] Z Z Z<|fun b1=>AS Z Z<|ND<|SQ<|RG<|FA Z tyF_impl_Stream_7 Z<|LD (i:=0) Z tyP_bool Z Z Z<|NT Z Z<|MV Z Z<|?_
 refine rw_caseN (j:=6) Z (fun h1=>?_) (fun h1=>?_)
 ·refine SKP Z<|PT Z Z Z Z<|AS Z Z<|ND<|RT Tryz.func20 Z Z<|?_
  simp [isRecvOver,h1]
 refine ON Z Z Z<|FA Z tyF_impl_Stream_3 Z<|ON Z Z Z<|LS (i:=0) [_,_,_,_,_,_] Z tyS_impl_Receiver Z Z Z Z<|ON Z Z Z<|CV1 Z fun_spec_IsReceived Z (fun w hs=>spec_IsReceived ⟨_,Z,(hA4.s Pl.keeps hs)⟩ ⟨hb4,hb5⟩)<|PF Z Z Z Z<|AS Z Z<|ND<|RT Tryz.func20 Z Z<|?_
 simp [isRecvOver,h1]
theorem spec_IsOver {w : World} {cs : List Value} {x : Stream} (hv : RdStream w cs x) (hb : x.le 1048576) : CV Tryz.prog 106 [.agg cs.toArray] w (.bool (isOver x)) := by
 obtain ⟨v0,v1,v2,v3,v4,rfl,k0,k1,k2,k3,k4⟩:=hv
 obtain ⟨A0,c0,rfl,hA0⟩:=k0
 obtain ⟨A1,c1,rfl,hA1⟩:=k1
 obtain ⟨A2,c2,rfl,hA2⟩:=k2
 obtain ⟨A3,c3,rfl,hA3⟩:=k3
 obtain ⟨A4,c4,rfl,hA4⟩:=k4
 obtain ⟨hb0,hb1,hb2,hb3,hb4,hb5⟩:=hb
 refine cv_of Tryz.func106 Z Z Z<|SQ<|RG<|BX [_,_,_,_,_,_,_,_,_,_,_,_,_,_,_,_,_,_,_,_,_,_,_,_,_,_,_,_,_,_,_,_,_,_,_,_,_,_,_] Z Z Z<|fun b1=>AS Z Z<|ND<|SQ<|RG<|LS (i:=0) [_,_,_,_,_,_,_,_,_,_,_,_,_,_,_,_,_,_,_,_,_,_,_,_,_,_,_,_,_,_,_,_,_,_,_,_,_,_,_] Z tyS_impl_Stream Z Z Z Z<|CV1 Z fun_spec_IsStream Z (fun w hs=>spec_IsStream ⟨_,_,_,_,_,Z,(hA0.s Pl.keeps hs),(hA1.s Pl.keeps hs),(hA2.s Pl.keeps hs),(hA3.s Pl.keeps hs),(hA4.s Pl.keeps hs)⟩ ⟨hb0,hb1,hb2,hb3,hb4,hb5⟩)<|?_
 refine MV Z Z<|?_
 refine rw_caseL (j:=5) Z (fun h1=>?_) (fun h1=>?_)
 ·refine ON Z Z Z<|LS (i:=0) [_,_,_,_,_,_,_,_,_,_,_,_,_,_,_,_,_,_,_,_,_,_,_,_,_,_,_,_,_,_,_,_,_,_,_,_,_,_,_] Z tyS_impl_Stream Z Z Z Z<|ON Z Z Z<|CV1 Z fun_spec_IsSendOver Z (fun w hs=>spec_IsSendOver ⟨_,_,_,_,_,Z,(hA0.s Pl.keeps hs),(hA1.s Pl.keeps hs),(hA2.s Pl.keeps hs),(hA3.s Pl.keeps hs),(hA4.s Pl.keeps hs)⟩)<|PT Z Z Z Z<|MV Z Z<|?_
  refine rw_caseL (j:=9) Z (fun h2=>?_) (fun h2=>?_)
  ·refine ON Z Z Z<|LS (i:=0) [_,_,_,_,_,_,_,_,_,_,_,_,_,_,_,_,_,_,_,_,_,_,_,_,_,_,_,_,_,_,_,_,_,_,_,_,_,_,_] Z tyS_impl_Stream Z Z Z Z<|ON Z Z Z<|CV1 Z fun_spec_IsRecvOver Z (fun w hs=>spec_IsRecvOver ⟨_,_,_,_,_,Z,(hA0.s Pl.keeps hs),(hA1.s Pl.keeps hs),(hA2.s Pl.keeps hs),(hA3.s Pl.keeps hs),(hA4.s Pl.keeps hs)⟩ ⟨hb0,hb1,hb2,hb3,hb4,hb5⟩)<|PT Z Z Z Z<|AS Z Z<|ND<|RT Tryz.func106 Z Z<|?_
   rw [isOver_s]
   simp [isOverS,h1,h2]
  refine SKP Z<|PF Z Z Z Z<|AS Z Z<|ND<|RT Tryz.func106 Z Z<|?_
  rw [isOver_s]
  simp [isOverS,h1,h2]
 refine SKP Z<|PF Z Z Z Z<|MV Z Z<|SKP Z<|PF Z Z Z Z<|AS Z Z<|ND<|RT Tryz.func106 Z Z<|?_
 rw [isOver_s]
 simp [isOverS,h1]
end Go.Proofs.YtbhnekiclbfmgaaGreat
