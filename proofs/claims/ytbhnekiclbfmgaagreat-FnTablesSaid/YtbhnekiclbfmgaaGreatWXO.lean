/- Walks: draws. -/
import Derived.Test.YtbhnekiclbfmgaaGreatWXa
import Derived.Test.YtbhnekiclbfmgaaGreatWXd
import Derived.Test.YtbhnekiclbfmgaaGreatWXs
import Derived.Test.YtbhnekiclbfmgaaGreatWXv
import Derived.Test.YtbhnekiclbfmgaaGreatWXA
import Derived.Test.YtbhnekiclbfmgaaGreatWXF
import Derived.Test.YtbhnekiclbfmgaaGreatWXJ
import Derived.Test.YtbhnekiclbfmgaaGreatWXK
import Derived.Test.YtbhnekiclbfmgaaGreatFactsX
import Derived.Test.YtbhnekiclbfmgaaGreatTab
namespace Go.Proofs.YtbhnekiclbfmgaaGreat
open SL Go.RowKit
theorem impl_CountOver {w : World} {v : Value} {l : List Stream} (hv : RdS w 39 RdStream v l) (hb : l.length ≤ 1048576) (hall : ∀ y ∈ l, y.le 1048576) : CV Tryz.prog 44 [v] w (.int .i64 (countOver 0 l)) := by
 obtain ⟨A,c,rfl,hA⟩:=hv
 refine cv_of Tryz.func44 Z Z Z<|SQ<|RG<|AS Z Z<|ND<|SQ<|RG<|AS Z Z<|ND<|SQ<|SQ<|RG<|MV Z Z<|rw_len Z tyE_S_impl_Stream Z<|MV Z Z<|ND<|BK<|?_
 refine gw_loopC (α:=Nat × Int) (fun z_=>z_.1 ≤ l.length ∧ (0 ≤ z_.2 ∧ z_.2 ≤ (z_.1 : Int)) ∧ countOver 0 l = countOver z_.2 (l.drop z_.1)) (fun z_=>l.length - z_.1) (fun e z_=>(8,.int .i64 (z_.1 : Int)) :: (3,.int .i64 z_.2) :: e) (0,0) [(2,_),(6,_),(7,_)] (Sub.consE Z Z (Sub.consE Z Z (Sub.cons (i:=2) Z (Sub.cons (i:=6) Z (Sub.cons (i:=7) Z (Sub.nil _)))))) ?_ ?_
 ·exact ⟨Nat.zero_le _,⟨Int.le_refl _,Int.le_refl _⟩,rfl⟩
 ·rintro ⟨i,n⟩ hI1 ih1
  dsimp only at hI1
  dsimp only
  obtain ⟨hle,hn0,hI⟩:=hI1
  refine SQ<|RG<|rw_lss Z Z Z<|ND<|SQ<|?_
  refine gw_cond Z (fun h1=>?_) (fun h1=>?_)
  ·have hi2:=lt_of_dec h1
   obtain ⟨x3,hx3⟩:=get_of_lt hi2
   have hd3:=drop_cons hx3
   refine SK<|SQ<|BK<|SQ<|RG<|?_
   obtain ⟨cse4_,hRe4_,hq4⟩:=hA.get hx3
   obtain ⟨ve4_0,ve4_1,ve4_2,ve4_3,ve4_4,rfl,ke4_0,ke4_1,ke4_2,ke4_3,ke4_4⟩:=hRe4_
   obtain ⟨Ae4_0,ce4_0,rfl,hAe4_0⟩:=ke4_0
   obtain ⟨Ae4_1,ce4_1,rfl,hAe4_1⟩:=ke4_1
   obtain ⟨Ae4_2,ce4_2,rfl,hAe4_2⟩:=ke4_2
   obtain ⟨Ae4_3,ce4_3,rfl,hAe4_3⟩:=ke4_3
   obtain ⟨Ae4_4,ce4_4,rfl,hAe4_4⟩:=ke4_4
   obtain ⟨hbe4_0,hbe4_1,hbe4_2,hbe4_3,hbe4_4,hbe4_5⟩:=hall x3 (List.mem_of_getElem? hx3)
   refine rw_indexAddr (i) Z tyE_S_impl_Stream Z Z Z (hA.some hi2) hi2<|rw_loadX_s [_,_,_,_,_,_,_,_,_,_,_,_,_,_,_,_,_,_,_,_,_,_,_,_,_,_,_,_,_,_,_,_,_,_,_,_,_,_,_] Z tyS_impl_Stream Z Z (fun w hs=>hq4.lds0 (n:=39) hs Z)<|AL Z tyZ_impl_Stream<|fun b1=>rw_storeN (i:=0) [_,_,_,_,_,_,_,_,_,_,_,_,_,_,_,_,_,_,_,_,_,_,_,_,_,_,_,_,_,_,_,_,_,_,_,_,_,_,_] [_,_,_,_,_,_,_,_,_,_,_,_,_,_,_,_,_,_,_,_,_,_,_,_,_,_,_,_,_,_,_,_,_,_,_,_,_,_,_] [_] tyS_impl_Stream.sz Z Z Z Z Z Z Z Z Z<|?_
   refine ND<|RG<|MV Z Z<|LS (i:=0) [_,_,_,_,_,_,_,_,_,_,_,_,_,_,_,_,_,_,_,_,_,_,_,_,_,_,_,_,_,_,_,_,_,_,_,_,_,_,_] Z tyS_impl_Stream Z Z Z Z<|CV1 Z fun_impl_IsOver Z (fun w hs=>impl_IsOver ⟨_,_,_,_,_,Z,(hAe4_0.s Pl.keeps hs),(hAe4_1.s Pl.keeps hs),(hAe4_2.s Pl.keeps hs),(hAe4_3.s Pl.keeps hs),(hAe4_4.s Pl.keeps hs)⟩ ⟨hbe4_0,hbe4_1,hbe4_2,hbe4_3,hbe4_4,hbe4_5⟩)<|CV1 Z fun_impl_one Z (fun w hs=>impl_one _ w)<|rw_add Z Z Z<|AS Z Z<|ND<|IB<|?_
   refine RG<|rw_add Z Z Z<|MV Z Z<|ND<|gw_dropN 1<|?_
   refine gw_sub (Sub.consE (i:=8) Z (int_succ (by omega)) (Sub.consE (i:=3) Z Z (Sub.cons (i:=2) Z (Sub.cons (i:=6) Z (Sub.cons (i:=7) Z (Sub.nil _)))))) (ih1 (i + 1,w64 (n + one (isOver x3))) ?_ ?_)
   ·refine ⟨by omega,?_,by rw [hI,hd3]; simp [countOver]⟩
    exact over_step hn0 (by omega) _
   ·show l.length - (i + 1) < l.length - i; omega
  have hn5:=nil_of_dec h1
  refine EX Z<|SQ<|RG<|MV Z Z<|AS Z Z<|ND<|RT Tryz.func44 Z Z<|?_
  rw [hI,hn5]; rfl
theorem spec_CountOver {w : World} {v : Value} {l : List Stream} (hv : RdS w 39 RdStream v l) (hb : l.length ≤ 1048576) (hall : ∀ y ∈ l, y.le 1048576) : CV Tryz.prog 45 [v] w (.int .i64 (countOver 0 l)) := by
 obtain ⟨A,c,rfl,hA⟩:=hv
 refine cv_of Tryz.func45 Z Z Z<|SQ<|RG<|AS Z Z<|ND<|SQ<|RG<|AS Z Z<|ND<|SQ<|SQ<|RG<|AS Z Z<|ND<|BK<|?_
 refine gw_loopC (α:=Nat × Int) (fun z_=>z_.1 ≤ l.length ∧ (0 ≤ z_.2 ∧ z_.2 ≤ (z_.1 : Int)) ∧ countOver 0 l = countOver z_.2 (l.drop z_.1)) (fun z_=>l.length - z_.1) (fun e z_=>(4,.int .i64 (z_.1 : Int)) :: (3,.int .i64 z_.2) :: e) (0,0) [(0,_),(2,_)] (Sub.consE Z Z (Sub.consE Z Z (Sub.cons (i:=0) Z (Sub.cons (i:=2) Z (Sub.nil _))))) ?_ ?_
 ·exact ⟨Nat.zero_le _,⟨Int.le_refl _,Int.le_refl _⟩,rfl⟩
 ·rintro ⟨i,n⟩ hI1 ih1
  dsimp only at hI1
  dsimp only
  obtain ⟨hle,hn0,hI⟩:=hI1
  refine SQ<|SQ<|RG<|MV Z Z<|MV Z Z<|rw_len Z tyE_S_impl_Stream Z<|rw_lss Z Z Z<|ND<|?_
  refine gw_cond Z (fun h1=>?_) (fun h1=>?_)
  ·have hi2:=lt_of_dec h1
   obtain ⟨x3,hx3⟩:=get_of_lt hi2
   have hd3:=drop_cons hx3
   refine SK<|SQ<|BK<|SQ<|RG<|MV Z Z<|MV Z Z<|?_
   obtain ⟨cse4_,hRe4_,hq4⟩:=hA.get hx3
   obtain ⟨ve4_0,ve4_1,ve4_2,ve4_3,ve4_4,rfl,ke4_0,ke4_1,ke4_2,ke4_3,ke4_4⟩:=hRe4_
   obtain ⟨Ae4_0,ce4_0,rfl,hAe4_0⟩:=ke4_0
   obtain ⟨Ae4_1,ce4_1,rfl,hAe4_1⟩:=ke4_1
   obtain ⟨Ae4_2,ce4_2,rfl,hAe4_2⟩:=ke4_2
   obtain ⟨Ae4_3,ce4_3,rfl,hAe4_3⟩:=ke4_3
   obtain ⟨Ae4_4,ce4_4,rfl,hAe4_4⟩:=ke4_4
   obtain ⟨hbe4_0,hbe4_1,hbe4_2,hbe4_3,hbe4_4,hbe4_5⟩:=hall x3 (List.mem_of_getElem? hx3)
   refine rw_indexAddr (i) Z tyE_S_impl_Stream Z Z Z (hA.some hi2) hi2<|rw_loadX_s [_,_,_,_,_,_,_,_,_,_,_,_,_,_,_,_,_,_,_,_,_,_,_,_,_,_,_,_,_,_,_,_,_,_,_,_,_,_,_] Z tyS_impl_Stream Z Z (fun w hs=>hq4.lds0 (n:=39) hs Z)<|CV1 Z fun_spec_IsOver Z (fun w hs=>spec_IsOver ⟨_,_,_,_,_,Z,(hAe4_0.s Pl.keeps hs),(hAe4_1.s Pl.keeps hs),(hAe4_2.s Pl.keeps hs),(hAe4_3.s Pl.keeps hs),(hAe4_4.s Pl.keeps hs)⟩ ⟨hbe4_0,hbe4_1,hbe4_2,hbe4_3,hbe4_4,hbe4_5⟩)<|ND<|?_
   refine gw_cond Z (fun h2=>?_) (fun h2=>?_)
   ·refine RG<|MV Z Z<|rw_add Z Z Z<|AS Z Z<|ND<|IB<|RG<|MV Z Z<|rw_add Z Z Z<|AS Z Z<|ND<|?_
    refine gw_sub (Sub.consE (i:=4) Z (int_succ (by omega)) (Sub.consE (i:=3) Z Z (Sub.cons (i:=0) Z (Sub.cons (i:=2) Z (Sub.nil _))))) (ih1 (i + 1,w64 (n + 1)) ?_ ?_)
    ·refine ⟨by omega,?_,by rw [hI,hd3]; simp [countOver,one,h2]⟩
     exact over_step1 hn0 (by omega)
    ·show l.length - (i + 1) < l.length - i; omega
   refine SK<|IB<|RG<|MV Z Z<|rw_add Z Z Z<|AS Z Z<|ND<|?_
   refine gw_sub (Sub.consE (i:=4) Z (int_succ (by omega)) (Sub.consE (i:=3) Z Z (Sub.cons (i:=0) Z (Sub.cons (i:=2) Z (Sub.nil _))))) (ih1 (i + 1,n) ?_ ?_)
   ·refine ⟨by omega,?_,by rw [hI,hd3]; simp [countOver,one,h2,w64_id (n:=n) (by omega) (by omega)]⟩
    omega
   ·show l.length - (i + 1) < l.length - i; omega
  have hn5:=nil_of_dec h1
  refine EX Z<|SQ<|RG<|MV Z Z<|AS Z Z<|ND<|RT Tryz.func45 Z Z<|?_
  rw [hI,hn5]; rfl
end Go.Proofs.YtbhnekiclbfmgaaGreat
namespace Go.Proofs.YtbhnekiclbfmgaaGreat
open SL Go.RowKit
set_option maxHeartbeats 4000000 in
set_option maxRecDepth 20000 in
theorem impl_AreStreams {w : World} {v : Value} {l : List Stream} (hv : RdS w 39 RdStream v l) (hb : l.length ≤ 1048576) (hall : ∀ y ∈ l, y.le 1048576) (hlen_ : l.length ≤ 24) : CV Tryz.prog 32 [v] w (.bool (areGo isStream none l)) := by
 obtain ⟨A,c,rfl,hA⟩:=hv
 refine cv_of Tryz.func32 Z Z Z<|SQ<|RG<|AS Z Z<|ND<|SQ<|SQ<|RG<|MV Z Z<|rw_len Z tyE_S_impl_Stream Z<|MV Z Z<|ND<|BK<|?_
 refine gw_loopC (α:=Nat) (fun z_=>z_ ≤ l.length ∧ areGo isStream none l = areGo isStream (pv l z_) (l.drop z_)) (fun z_=>l.length - z_) (fun e z_=>(7,.int .i64 (z_ : Int)) :: e) 0 [(0,_),(5,_),(6,_)] (Sub.consE Z Z (Sub.cons (i:=0) Z (Sub.cons (i:=5) Z (Sub.cons (i:=6) Z (Sub.nil _))))) ?_ ?_
 ·exact ⟨Nat.zero_le _,rfl⟩
 ·rintro i hI1 ih1
  try dsimp only
  obtain ⟨hle,hI⟩:=hI1
  refine SQ<|RG<|rw_lss Z Z Z<|ND<|SQ<|?_
  refine gw_cond Z (fun h1=>?_) (fun h1=>?_)
  ·have hi2:=lt_of_dec h1
   obtain ⟨x3,hx3⟩:=get_of_lt hi2
   have hd3:=drop_cons hx3
   refine SK<|SQ<|BK<|SQ<|RG<|MV Z Z<|?_
   obtain ⟨cse4_,hRe4_,hq4⟩:=hA.get hx3
   obtain ⟨ve4_0,ve4_1,ve4_2,ve4_3,ve4_4,rfl,ke4_0,ke4_1,ke4_2,ke4_3,ke4_4⟩:=hRe4_
   obtain ⟨Ae4_0,ce4_0,rfl,hAe4_0⟩:=ke4_0
   obtain ⟨Ae4_1,ce4_1,rfl,hAe4_1⟩:=ke4_1
   obtain ⟨Ae4_2,ce4_2,rfl,hAe4_2⟩:=ke4_2
   obtain ⟨Ae4_3,ce4_3,rfl,hAe4_3⟩:=ke4_3
   obtain ⟨Ae4_4,ce4_4,rfl,hAe4_4⟩:=ke4_4
   obtain ⟨hbe4_0,hbe4_1,hbe4_2,hbe4_3,hbe4_4,hbe4_5⟩:=hall x3 (List.mem_of_getElem? hx3)
   refine rw_indexAddr (i) Z tyE_S_impl_Stream Z Z Z (hA.some hi2) hi2<|rw_loadX_s [_,_,_,_,_,_,_,_,_,_,_,_,_,_,_,_,_,_,_,_,_,_,_,_,_,_,_,_,_,_,_,_,_,_,_,_,_,_,_] Z tyS_impl_Stream Z Z (fun w hs=>hq4.lds0 (n:=39) hs Z)<|AL Z tyZ_impl_Stream<|fun b1=>AS Z Z<|rw_storeN (i:=0) [_,_,_,_,_,_,_,_,_,_,_,_,_,_,_,_,_,_,_,_,_,_,_,_,_,_,_,_,_,_,_,_,_,_,_,_,_,_,_] [_,_,_,_,_,_,_,_,_,_,_,_,_,_,_,_,_,_,_,_,_,_,_,_,_,_,_,_,_,_,_,_,_,_,_,_,_,_,_] [_] tyS_impl_Stream.sz Z Z Z Z Z Z Z Z Z<|?_
   refine ND<|SQ<|gw_draw' [dd 0,dd 1,dd 2,dd 3,dd 4,dd 5,dd 6,dd 7,dd 8,dd 9,dd 10,dd 11,dd 12,dd 13,dd 14,dd 15,dd 16,dd 17,dd 18] [19,20,21] mixed Z (FD Z) (ts:=[_,_,_]) Z<|DM Z Z Z<|DT Z Z (fun _ q=>rw_geq Z Z Z q)<|DM Z Z Z<|dw_lit (j:=14) Z (by rw [decide_eq_false_iff_not]; omega)<|DT Z Z (fun _ q=>ON Z Z Z (LS (i:=0) [_,_,_,_,_,_,_,_,_,_,_,_,_,_,_,_,_,_,_,_,_,_,_,_,_,_,_,_,_,_,_,_,_,_,_,_,_,_,_] Z tyS_impl_Stream Z Z Z Z q))<|?_
   refine DT Z Z (fun _ q=>ON Z Z Z (CV1 Z fun_impl_IsStream Z (fun w hs=>impl_IsStream ⟨_,_,_,_,_,Z,(hAe4_0.s Pl.keeps hs),(hAe4_1.s Pl.keeps hs),(hAe4_2.s Pl.keeps hs),(hAe4_3.s Pl.keeps hs),(hAe4_4.s Pl.keeps hs)⟩ ⟨hbe4_0,hbe4_1,hbe4_2,hbe4_3,hbe4_4,hbe4_5⟩) q))<|DT Z Z (fun _ q=>ON Z Z Z (NT Z Z q))<|DT Z Z (fun _ q=>PF Z Z Z Z q)<|DM Z Z Z<|?_
   refine dw_caseN (j:=19) Z (fun h2=>?_) (fun h2=>?_)
   ·refine DSK Z<|dw_nil<|SKP Z<|PT Z Z Z Z<|ND<|CT Z Z<|SQ<|RG<|AS Z Z<|ND<|RT Tryz.func32 Z Z<|?_
    rw [hI,are_step hd3 hx3]; simp [h2]
   refine DT Z Z (fun _ q=>ON Z Z Z (MV Z Z q))<|DT Z Z (fun _ q=>ON Z Z Z (rw_gtr Z Z Z q))<|DT Z Z (fun _ q=>ON Z Z Z (MV Z Z q))<|?_
   refine dw_caseL (j:=22) Z (fun h3=>?_) (fun h3=>?_)
   ·have hp5:=pos_of h3
    refine DT Z Z (fun _ q=>ON Z Z Z (MV Z Z q))<|DT Z Z (fun _ q=>ON Z Z Z (MV Z Z q))<|DT Z Z (fun _ q=>ON Z Z Z (rw_sub Z Z Z q))<|?_
    have hi6 : i - 1 < l.length:=by omega
    obtain ⟨x7,hx7⟩:=get_of_lt hi6
    have hd7:=drop_cons hx7
    obtain ⟨cse8_,hRe8_,hq8⟩:=hA.get hx7
    obtain ⟨ve8_0,ve8_1,ve8_2,ve8_3,ve8_4,rfl,ke8_0,ke8_1,ke8_2,ke8_3,ke8_4⟩:=hRe8_
    obtain ⟨Ae8_0,ce8_0,rfl,hAe8_0⟩:=ke8_0
    obtain ⟨Ae8_1,ce8_1,rfl,hAe8_1⟩:=ke8_1
    obtain ⟨Ae8_2,ce8_2,rfl,hAe8_2⟩:=ke8_2
    obtain ⟨Ae8_3,ce8_3,rfl,hAe8_3⟩:=ke8_3
    obtain ⟨Ae8_4,ce8_4,rfl,hAe8_4⟩:=ke8_4
    obtain ⟨hbe8_0,hbe8_1,hbe8_2,hbe8_3,hbe8_4,hbe8_5⟩:=hall x7 (List.mem_of_getElem? hx7)
    refine DT Z Z (fun _ q=>ON Z Z Z (rw_indexAddr (i - 1) Z tyE_S_impl_Stream Z Z (pred_of h3 (by omega)) (hA.some hi6) hi6 q))<|DT Z Z (fun _ q=>ON Z Z Z (FX Z tyF_impl_Stream_0 Z q))<|DT Z Z (fun _ q=>ON Z Z Z (rw_loadX _ Z tyP_int Z (fun w hs=>hq8.ld hs Z) q))<|DT Z Z (fun _ q=>ON Z Z Z (FA Z tyF_impl_Stream_0 Z q))<|DT Z Z (fun _ q=>ON Z Z Z (LD (i:=0) Z tyP_int Z Z Z q))<|?_
    refine dw_nil<|ON Z Z Z<|rw_geq Z Z Z<|ON Z Z Z<|PT Z Z Z Z<|PF Z Z Z Z<|ND<|?_
    refine gw_cond Z (fun h4=>?_) (fun h4=>?_)
    ·refine SQ<|RG<|AS Z Z<|ND<|RT Tryz.func32 Z Z<|?_
     rw [hI,are_step hd3 hx3]; simp [h2,okP_pos hp5 hx7 h4]
    refine SK<|IB<|RG<|rw_add Z Z Z<|MV Z Z<|ND<|gw_dropN 1<|?_
    refine gw_sub (Sub.consE (i:=7) Z (int_succ (by omega)) (Sub.cons (i:=0) Z (Sub.cons (i:=5) Z (Sub.cons (i:=6) Z (Sub.nil _))))) (ih1 (i + 1) ?_ ?_)
    ·exact ⟨by omega,by rw [hI,are_step hd3 hx3]; simp [h2,okP_pos hp5 hx7 h4]⟩
    ·show l.length - (i + 1) < l.length - i; omega
   have hz9:=zero_of h3
   refine DSK Z<|dw_nil<|OF Z Z Z Z<|ON Z Z Z<|PF Z Z Z Z<|PF Z Z Z Z<|ND<|CF Z Z<|SK<|IB<|RG<|rw_add Z Z Z<|MV Z Z<|ND<|gw_dropN 1<|?_
   refine gw_sub (Sub.consE (i:=7) Z (int_succ (by omega)) (Sub.cons (i:=0) Z (Sub.cons (i:=5) Z (Sub.cons (i:=6) Z (Sub.nil _))))) (ih1 (i + 1) ?_ ?_)
   ·exact ⟨by omega,by rw [hI,are_step hd3 hx3]; simp [h2,okP_zero (l:=l) hz9]⟩
   ·show l.length - (i + 1) < l.length - i; omega
  have hn10:=nil_of_dec h1
  refine EX Z<|SQ<|RG<|AS Z Z<|ND<|RT Tryz.func32 Z Z<|?_
  rw [hI,hn10]; rfl
set_option maxHeartbeats 4000000 in
set_option maxRecDepth 20000 in
theorem spec_AreStreams {w : World} {v : Value} {l : List Stream} (hv : RdS w 39 RdStream v l) (hb : l.length ≤ 1048576) (hall : ∀ y ∈ l, y.le 1048576) (hlen_ : l.length ≤ 24) : CV Tryz.prog 33 [v] w (.bool (areGo isStreamS none l)) := by
 obtain ⟨A,c,rfl,hA⟩:=hv
 refine cv_of Tryz.func33 Z Z Z<|SQ<|RG<|AS Z Z<|ND<|SQ<|SQ<|RG<|AS Z Z<|ND<|BK<|?_
 refine gw_loopC (α:=Nat) (fun z_=>z_ ≤ l.length ∧ areGo isStreamS none l = areGo isStreamS (pv l z_) (l.drop z_)) (fun z_=>l.length - z_) (fun e z_=>(3,.int .i64 (z_ : Int)) :: e) 0 [(0,_)] (Sub.consE Z Z (Sub.cons (i:=0) Z (Sub.nil _))) ?_ ?_
 ·exact ⟨Nat.zero_le _,rfl⟩
 ·rintro i hI1 ih1
  try dsimp only
  obtain ⟨hle,hI⟩:=hI1
  refine SQ<|SQ<|RG<|MV Z Z<|MV Z Z<|rw_len Z tyE_S_impl_Stream Z<|rw_lss Z Z Z<|ND<|?_
  refine gw_cond Z (fun h1=>?_) (fun h1=>?_)
  ·have hi2:=lt_of_dec h1
   obtain ⟨x3,hx3⟩:=get_of_lt hi2
   have hd3:=drop_cons hx3
   refine SK<|SQ<|BK<|SQ<|gw_draw' [dd 0,dd 1,dd 2,dd 3,dd 4,dd 5,dd 6,dd 7,dd 8,dd 9,dd 10,dd 11,dd 12,dd 13,dd 14,dd 15,dd 16,dd 17,dd 18,dd 19,dd 20] [21,22,23] mixed Z (FD Z) (ts:=[_,_,_]) Z<|DM Z Z Z<|DM Z Z Z<|?_
   obtain ⟨cse4_,hRe4_,hq4⟩:=hA.get hx3
   obtain ⟨ve4_0,ve4_1,ve4_2,ve4_3,ve4_4,rfl,ke4_0,ke4_1,ke4_2,ke4_3,ke4_4⟩:=hRe4_
   obtain ⟨Ae4_0,ce4_0,rfl,hAe4_0⟩:=ke4_0
   obtain ⟨Ae4_1,ce4_1,rfl,hAe4_1⟩:=ke4_1
   obtain ⟨Ae4_2,ce4_2,rfl,hAe4_2⟩:=ke4_2
   obtain ⟨Ae4_3,ce4_3,rfl,hAe4_3⟩:=ke4_3
   obtain ⟨Ae4_4,ce4_4,rfl,hAe4_4⟩:=ke4_4
   obtain ⟨hbe4_0,hbe4_1,hbe4_2,hbe4_3,hbe4_4,hbe4_5⟩:=hall x3 (List.mem_of_getElem? hx3)
   refine DT Z Z (fun _ q=>rw_indexAddr (i) Z tyE_S_impl_Stream Z Z Z (hA.some hi2) hi2 q)<|DT Z Z (fun _ q=>rw_loadX_s [_,_,_,_,_,_,_,_,_,_,_,_,_,_,_,_,_,_,_,_,_,_,_,_,_,_,_,_,_,_,_,_,_,_,_,_,_,_,_] Z tyS_impl_Stream Z Z (fun w hs=>hq4.lds0 (n:=39) hs Z) q)<|DT Z Z (fun _ q=>CV1 Z fun_spec_IsStream Z (fun w hs=>spec_IsStream ⟨_,_,_,_,_,Z,(hAe4_0.s Pl.keeps hs),(hAe4_1.s Pl.keeps hs),(hAe4_2.s Pl.keeps hs),(hAe4_3.s Pl.keeps hs),(hAe4_4.s Pl.keeps hs)⟩ ⟨hbe4_0,hbe4_1,hbe4_2,hbe4_3,hbe4_4,hbe4_5⟩) q)<|?_
   refine DT Z Z (fun _ q=>NT Z Z q)<|DM Z Z Z<|?_
   refine dw_caseN (j:=16) Z (fun h2=>?_) (fun h2=>?_)
   ·refine DSK Z<|dw_nil<|SKP Z<|PT Z Z Z Z<|ND<|CT Z Z<|SQ<|RG<|AS Z Z<|ND<|RT Tryz.func33 Z Z<|?_
    rw [hI,are_step hd3 hx3]; simp [h2]
   refine DT Z Z (fun _ q=>ON Z Z Z (MV Z Z q))<|DT Z Z (fun _ q=>ON Z Z Z (rw_gtr Z Z Z q))<|DT Z Z (fun _ q=>ON Z Z Z (MV Z Z q))<|?_
   refine dw_caseL (j:=19) Z (fun h3=>?_) (fun h3=>?_)
   ·have hp5:=pos_of h3
    refine DT Z Z (fun _ q=>ON Z Z Z (MV Z Z q))<|DT Z Z (fun _ q=>ON Z Z Z (MV Z Z q))<|DT Z Z (fun _ q=>ON Z Z Z (rw_indexAddr (i) Z tyE_S_impl_Stream Z Z Z (hA.some hi2) hi2 q))<|DT Z Z (fun _ q=>ON Z Z Z (FX Z tyF_impl_Stream_0 Z q))<|DT Z Z (fun _ q=>ON Z Z Z (rw_loadX _ Z tyP_int Z (fun w hs=>hq4.ld hs Z) q))<|DT Z Z (fun _ q=>ON Z Z Z (MV Z Z q))<|?_
    refine DT Z Z (fun _ q=>ON Z Z Z (MV Z Z q))<|DT Z Z (fun _ q=>ON Z Z Z (rw_sub Z Z Z q))<|?_
    have hi6 : i - 1 < l.length:=by omega
    obtain ⟨x7,hx7⟩:=get_of_lt hi6
    have hd7:=drop_cons hx7
    obtain ⟨cse8_,hRe8_,hq8⟩:=hA.get hx7
    obtain ⟨ve8_0,ve8_1,ve8_2,ve8_3,ve8_4,rfl,ke8_0,ke8_1,ke8_2,ke8_3,ke8_4⟩:=hRe8_
    obtain ⟨Ae8_0,ce8_0,rfl,hAe8_0⟩:=ke8_0
    obtain ⟨Ae8_1,ce8_1,rfl,hAe8_1⟩:=ke8_1
    obtain ⟨Ae8_2,ce8_2,rfl,hAe8_2⟩:=ke8_2
    obtain ⟨Ae8_3,ce8_3,rfl,hAe8_3⟩:=ke8_3
    obtain ⟨Ae8_4,ce8_4,rfl,hAe8_4⟩:=ke8_4
    obtain ⟨hbe8_0,hbe8_1,hbe8_2,hbe8_3,hbe8_4,hbe8_5⟩:=hall x7 (List.mem_of_getElem? hx7)
    refine DT Z Z (fun _ q=>ON Z Z Z (rw_indexAddr (i - 1) Z tyE_S_impl_Stream Z Z (pred_of h3 (by omega)) (hA.some hi6) hi6 q))<|DT Z Z (fun _ q=>ON Z Z Z (FX Z tyF_impl_Stream_0 Z q))<|DT Z Z (fun _ q=>ON Z Z Z (rw_loadX _ Z tyP_int Z (fun w hs=>hq8.ld hs Z) q))<|dw_nil<|ON Z Z Z<|rw_leq Z Z Z<|ON Z Z Z<|PT Z Z Z Z<|PF Z Z Z Z<|ND<|?_
    refine gw_cond Z (fun h4=>?_) (fun h4=>?_)
    ·refine SQ<|RG<|AS Z Z<|ND<|RT Tryz.func33 Z Z<|?_
     rw [hI,are_step hd3 hx3]; simp [h2,okP_pos hp5 hx7 h4]
    refine SK<|IB<|RG<|MV Z Z<|rw_add Z Z Z<|AS Z Z<|ND<|?_
    refine gw_sub (Sub.consE (i:=3) Z (int_succ (by omega)) (Sub.cons (i:=0) Z (Sub.nil _))) (ih1 (i + 1) ?_ ?_)
    ·exact ⟨by omega,by rw [hI,are_step hd3 hx3]; simp [h2,okP_pos hp5 hx7 h4]⟩
    ·show l.length - (i + 1) < l.length - i; omega
   have hz9:=zero_of h3
   refine DSK Z<|dw_nil<|OF Z Z Z Z<|ON Z Z Z<|PF Z Z Z Z<|PF Z Z Z Z<|ND<|CF Z Z<|SK<|IB<|RG<|MV Z Z<|rw_add Z Z Z<|AS Z Z<|ND<|?_
   refine gw_sub (Sub.consE (i:=3) Z (int_succ (by omega)) (Sub.cons (i:=0) Z (Sub.nil _))) (ih1 (i + 1) ?_ ?_)
   ·exact ⟨by omega,by rw [hI,are_step hd3 hx3]; simp [h2,okP_zero (l:=l) hz9]⟩
   ·show l.length - (i + 1) < l.length - i; omega
  have hn10:=nil_of_dec h1
  refine EX Z<|SQ<|RG<|MV Z Z<|rw_len Z tyE_S_impl_Stream Z<|rw_leq Z Z Z<|AS Z Z<|ND<|RT Tryz.func33 Z Z<|?_
  rw [hI,hn10]; simp [areGo]; omega
end Go.Proofs.YtbhnekiclbfmgaaGreat
namespace Go.Proofs.YtbhnekiclbfmgaaGreat
open SL Go.RowKit
theorem impl_SentTotal_1 {w : World} {cs : List Value} {x : Stream} (hv : RdStream w cs x)  : CV Tryz.prog 102 [.agg cs.toArray] w (.int .i64 x.send.sent) := by
 obtain ⟨v0,v1,v2,v3,v4,rfl,k0,k1,k2,k3,k4⟩:=hv
 obtain ⟨A0,c0,rfl,hA0⟩:=k0
 obtain ⟨A1,c1,rfl,hA1⟩:=k1
 obtain ⟨A2,c2,rfl,hA2⟩:=k2
 obtain ⟨A3,c3,rfl,hA3⟩:=k3
 obtain ⟨A4,c4,rfl,hA4⟩:=k4
 refine cv_of Tryz.func102 Z Z Z<|SQ<|RG<|BX [_,_,_,_,_,_,_,_,_,_,_,_,_,_,_,_,_,_,_,_,_,_,_,_,_,_,_,_,_,_,_,_,_,_,_,_,_,_,_] Z Z Z<|fun b1=>AS Z Z<|ND<|SQ<|RG<|FA Z tyF_impl_Stream_1 Z<|FA Z tyF_impl_Sender_7 Z<|LD (i:=0) Z tyP_int Z Z Z<|AS Z Z<|ND<|RT Tryz.func102 Z Z<|?_
 rfl
theorem impl_SeenTotal_1 {w : World} {cs : List Value} {x : Stream} (hv : RdStream w cs x)  : CV Tryz.prog 103 [.agg cs.toArray] w (.int .i64 x.recv.highest) := by
 obtain ⟨v0,v1,v2,v3,v4,rfl,k0,k1,k2,k3,k4⟩:=hv
 obtain ⟨A0,c0,rfl,hA0⟩:=k0
 obtain ⟨A1,c1,rfl,hA1⟩:=k1
 obtain ⟨A2,c2,rfl,hA2⟩:=k2
 obtain ⟨A3,c3,rfl,hA3⟩:=k3
 obtain ⟨A4,c4,rfl,hA4⟩:=k4
 refine cv_of Tryz.func103 Z Z Z<|SQ<|RG<|BX [_,_,_,_,_,_,_,_,_,_,_,_,_,_,_,_,_,_,_,_,_,_,_,_,_,_,_,_,_,_,_,_,_,_,_,_,_,_,_] Z Z Z<|fun b1=>AS Z Z<|ND<|SQ<|RG<|FA Z tyF_impl_Stream_3 Z<|FA Z tyF_impl_Receiver_3 Z<|LD (i:=0) Z tyP_int Z Z Z<|AS Z Z<|ND<|RT Tryz.func103 Z Z<|?_
 rfl
set_option maxHeartbeats 4000000 in
set_option maxRecDepth 20000 in
theorem impl_total_Sent {w : World} {v : Value} {l : List Stream} (hv : RdS w 39 RdStream v l) (hb : l.length ≤ 1048576) (hall : ∀ y ∈ l, y.le 1048576) (hlen_ : l.length ≤ 24) : CV Tryz.prog 101 [v, (.func (.func 102) #[] #[])] w (.int .i64 (bif areGo isStream none l then totS (·.send.sent) 0 l else 0)) := by
 obtain ⟨A,c,rfl,hA⟩:=hv
 refine cv_of Tryz.func101 Z Z Z<|SQ<|RG<|AS Z Z<|ND<|SQ<|SQ<|RG<|MV Z Z<|CV1 Z fun_impl_AreStreams Z (fun w hs=>impl_AreStreams (hA.s RdStream.keeps hs) hb hall hlen_)<|NT Z Z<|ND<|?_
 refine gw_condN Z (fun h1=>?_) (fun h1=>?_)
 ·refine SQ<|RG<|AS Z Z<|ND<|RT Tryz.func101 Z Z<|?_
  rw [h1]; rfl
 refine SK<|SQ<|RG<|AS Z Z<|ND<|SQ<|SQ<|RG<|MV Z Z<|rw_len Z tyE_S_impl_Stream Z<|MV Z Z<|ND<|BK<|?_
 refine gw_loopC (α:=Nat × Int) (fun z_=>z_.1 ≤ l.length ∧ totS (·.send.sent) 0 l = totS (·.send.sent) z_.2 (l.drop z_.1)) (fun z_=>l.length - z_.1) (fun e z_=>(13,.int .i64 (z_.1 : Int)) :: (5,.int .i64 z_.2) :: e) (0,0) [(1,_),(4,_),(11,_),(12,_)] (Sub.consE Z Z (Sub.consE Z Z (Sub.cons (i:=1) Z (Sub.cons (i:=4) Z (Sub.cons (i:=11) Z (Sub.cons (i:=12) Z (Sub.nil _))))))) ?_ ?_
 ·exact ⟨Nat.zero_le _,rfl⟩
 ·rintro ⟨i,n⟩ hI1 ih1
  dsimp only at hI1
  dsimp only
  obtain ⟨hle,hI⟩:=hI1
  refine SQ<|RG<|rw_lss Z Z Z<|ND<|SQ<|?_
  refine gw_cond Z (fun h2=>?_) (fun h2=>?_)
  ·have hi2:=lt_of_dec h2
   obtain ⟨x3,hx3⟩:=get_of_lt hi2
   have hd3:=drop_cons hx3
   refine SK<|SQ<|BK<|SQ<|RG<|?_
   obtain ⟨cse4_,hRe4_,hq4⟩:=hA.get hx3
   obtain ⟨ve4_0,ve4_1,ve4_2,ve4_3,ve4_4,rfl,ke4_0,ke4_1,ke4_2,ke4_3,ke4_4⟩:=hRe4_
   obtain ⟨Ae4_0,ce4_0,rfl,hAe4_0⟩:=ke4_0
   obtain ⟨Ae4_1,ce4_1,rfl,hAe4_1⟩:=ke4_1
   obtain ⟨Ae4_2,ce4_2,rfl,hAe4_2⟩:=ke4_2
   obtain ⟨Ae4_3,ce4_3,rfl,hAe4_3⟩:=ke4_3
   obtain ⟨Ae4_4,ce4_4,rfl,hAe4_4⟩:=ke4_4
   obtain ⟨hbe4_0,hbe4_1,hbe4_2,hbe4_3,hbe4_4,hbe4_5⟩:=hall x3 (List.mem_of_getElem? hx3)
   refine rw_indexAddr (i) Z tyE_S_impl_Stream Z Z Z (hA.some hi2) hi2<|rw_loadX_s [_,_,_,_,_,_,_,_,_,_,_,_,_,_,_,_,_,_,_,_,_,_,_,_,_,_,_,_,_,_,_,_,_,_,_,_,_,_,_] Z tyS_impl_Stream Z Z (fun w hs=>hq4.lds0 (n:=39) hs Z)<|AL Z tyZ_impl_Stream<|fun b1=>rw_storeN (i:=0) [_,_,_,_,_,_,_,_,_,_,_,_,_,_,_,_,_,_,_,_,_,_,_,_,_,_,_,_,_,_,_,_,_,_,_,_,_,_,_] [_,_,_,_,_,_,_,_,_,_,_,_,_,_,_,_,_,_,_,_,_,_,_,_,_,_,_,_,_,_,_,_,_,_,_,_,_,_,_] [_] tyS_impl_Stream.sz Z Z Z Z Z Z Z Z Z<|?_
   refine ND<|RG<|MV Z Z<|MV Z Z<|LS (i:=0) [_,_,_,_,_,_,_,_,_,_,_,_,_,_,_,_,_,_,_,_,_,_,_,_,_,_,_,_,_,_,_,_,_,_,_,_,_,_,_] Z tyS_impl_Stream Z Z Z Z<|rw_cvF Z Z fun_impl_SentTotal_1 Z (fun w hs=>impl_SentTotal_1 ⟨_,_,_,_,_,Z,(hAe4_0.s Pl.keeps hs),(hAe4_1.s Pl.keeps hs),(hAe4_2.s Pl.keeps hs),(hAe4_3.s Pl.keeps hs),(hAe4_4.s Pl.keeps hs)⟩)<|rw_add Z Z Z<|rw_min Z Z Z<|AS Z Z<|ND<|IB<|RG<|rw_add Z Z Z<|MV Z Z<|?_
   refine ND<|gw_dropN 1<|?_
   refine gw_sub (Sub.consE (i:=13) Z (int_succ (by omega)) (Sub.consE (i:=5) Z Z (Sub.cons (i:=1) Z (Sub.cons (i:=4) Z (Sub.cons (i:=11) Z (Sub.cons (i:=12) Z (Sub.nil _))))))) (ih1 (i + 1,min (w64 (n + x3.send.sent)) 4611686018427387904) ?_ ?_)
   ·exact ⟨by omega,by rw [hI,hd3]; rfl⟩
   ·show l.length - (i + 1) < l.length - i; omega
  have hn5:=nil_of_dec h2
  refine EX Z<|SQ<|RG<|MV Z Z<|AS Z Z<|ND<|RT Tryz.func101 Z Z<|?_
  rw [h1,cond_true,hI,hn5]; rfl
set_option maxHeartbeats 4000000 in
set_option maxRecDepth 20000 in
theorem impl_total_Seen {w : World} {v : Value} {l : List Stream} (hv : RdS w 39 RdStream v l) (hb : l.length ≤ 1048576) (hall : ∀ y ∈ l, y.le 1048576) (hlen_ : l.length ≤ 24) : CV Tryz.prog 101 [v, (.func (.func 103) #[] #[])] w (.int .i64 (bif areGo isStream none l then totS (·.recv.highest) 0 l else 0)) := by
 obtain ⟨A,c,rfl,hA⟩:=hv
 refine cv_of Tryz.func101 Z Z Z<|SQ<|RG<|AS Z Z<|ND<|SQ<|SQ<|RG<|MV Z Z<|CV1 Z fun_impl_AreStreams Z (fun w hs=>impl_AreStreams (hA.s RdStream.keeps hs) hb hall hlen_)<|NT Z Z<|ND<|?_
 refine gw_condN Z (fun h1=>?_) (fun h1=>?_)
 ·refine SQ<|RG<|AS Z Z<|ND<|RT Tryz.func101 Z Z<|?_
  rw [h1]; rfl
 refine SK<|SQ<|RG<|AS Z Z<|ND<|SQ<|SQ<|RG<|MV Z Z<|rw_len Z tyE_S_impl_Stream Z<|MV Z Z<|ND<|BK<|?_
 refine gw_loopC (α:=Nat × Int) (fun z_=>z_.1 ≤ l.length ∧ totS (·.recv.highest) 0 l = totS (·.recv.highest) z_.2 (l.drop z_.1)) (fun z_=>l.length - z_.1) (fun e z_=>(13,.int .i64 (z_.1 : Int)) :: (5,.int .i64 z_.2) :: e) (0,0) [(1,_),(4,_),(11,_),(12,_)] (Sub.consE Z Z (Sub.consE Z Z (Sub.cons (i:=1) Z (Sub.cons (i:=4) Z (Sub.cons (i:=11) Z (Sub.cons (i:=12) Z (Sub.nil _))))))) ?_ ?_
 ·exact ⟨Nat.zero_le _,rfl⟩
 ·rintro ⟨i,n⟩ hI1 ih1
  dsimp only at hI1
  dsimp only
  obtain ⟨hle,hI⟩:=hI1
  refine SQ<|RG<|rw_lss Z Z Z<|ND<|SQ<|?_
  refine gw_cond Z (fun h2=>?_) (fun h2=>?_)
  ·have hi2:=lt_of_dec h2
   obtain ⟨x3,hx3⟩:=get_of_lt hi2
   have hd3:=drop_cons hx3
   refine SK<|SQ<|BK<|SQ<|RG<|?_
   obtain ⟨cse4_,hRe4_,hq4⟩:=hA.get hx3
   obtain ⟨ve4_0,ve4_1,ve4_2,ve4_3,ve4_4,rfl,ke4_0,ke4_1,ke4_2,ke4_3,ke4_4⟩:=hRe4_
   obtain ⟨Ae4_0,ce4_0,rfl,hAe4_0⟩:=ke4_0
   obtain ⟨Ae4_1,ce4_1,rfl,hAe4_1⟩:=ke4_1
   obtain ⟨Ae4_2,ce4_2,rfl,hAe4_2⟩:=ke4_2
   obtain ⟨Ae4_3,ce4_3,rfl,hAe4_3⟩:=ke4_3
   obtain ⟨Ae4_4,ce4_4,rfl,hAe4_4⟩:=ke4_4
   obtain ⟨hbe4_0,hbe4_1,hbe4_2,hbe4_3,hbe4_4,hbe4_5⟩:=hall x3 (List.mem_of_getElem? hx3)
   refine rw_indexAddr (i) Z tyE_S_impl_Stream Z Z Z (hA.some hi2) hi2<|rw_loadX_s [_,_,_,_,_,_,_,_,_,_,_,_,_,_,_,_,_,_,_,_,_,_,_,_,_,_,_,_,_,_,_,_,_,_,_,_,_,_,_] Z tyS_impl_Stream Z Z (fun w hs=>hq4.lds0 (n:=39) hs Z)<|AL Z tyZ_impl_Stream<|fun b1=>rw_storeN (i:=0) [_,_,_,_,_,_,_,_,_,_,_,_,_,_,_,_,_,_,_,_,_,_,_,_,_,_,_,_,_,_,_,_,_,_,_,_,_,_,_] [_,_,_,_,_,_,_,_,_,_,_,_,_,_,_,_,_,_,_,_,_,_,_,_,_,_,_,_,_,_,_,_,_,_,_,_,_,_,_] [_] tyS_impl_Stream.sz Z Z Z Z Z Z Z Z Z<|?_
   refine ND<|RG<|MV Z Z<|MV Z Z<|LS (i:=0) [_,_,_,_,_,_,_,_,_,_,_,_,_,_,_,_,_,_,_,_,_,_,_,_,_,_,_,_,_,_,_,_,_,_,_,_,_,_,_] Z tyS_impl_Stream Z Z Z Z<|rw_cvF Z Z fun_impl_SeenTotal_1 Z (fun w hs=>impl_SeenTotal_1 ⟨_,_,_,_,_,Z,(hAe4_0.s Pl.keeps hs),(hAe4_1.s Pl.keeps hs),(hAe4_2.s Pl.keeps hs),(hAe4_3.s Pl.keeps hs),(hAe4_4.s Pl.keeps hs)⟩)<|rw_add Z Z Z<|rw_min Z Z Z<|AS Z Z<|ND<|IB<|RG<|rw_add Z Z Z<|MV Z Z<|?_
   refine ND<|gw_dropN 1<|?_
   refine gw_sub (Sub.consE (i:=13) Z (int_succ (by omega)) (Sub.consE (i:=5) Z Z (Sub.cons (i:=1) Z (Sub.cons (i:=4) Z (Sub.cons (i:=11) Z (Sub.cons (i:=12) Z (Sub.nil _))))))) (ih1 (i + 1,min (w64 (n + x3.recv.highest)) 4611686018427387904) ?_ ?_)
   ·exact ⟨by omega,by rw [hI,hd3]; rfl⟩
   ·show l.length - (i + 1) < l.length - i; omega
  have hn5:=nil_of_dec h2
  refine EX Z<|SQ<|RG<|MV Z Z<|AS Z Z<|ND<|RT Tryz.func101 Z Z<|?_
  rw [h1,cond_true,hI,hn5]; rfl
theorem impl_SentTotal {w : World} {v : Value} {l : List Stream} (hv : RdS w 39 RdStream v l) (hb : l.length ≤ 1048576) (hall : ∀ y ∈ l, y.le 1048576) (hlen_ : l.length ≤ 24) : CV Tryz.prog 35 [v] w (.int .i64 (bif areGo isStream none l then totS (·.send.sent) 0 l else 0)) := by
 obtain ⟨A,c,rfl,hA⟩:=hv
 refine cv_of Tryz.func35 Z Z Z<|SQ<|RG<|AS Z Z<|ND<|SQ<|RG<|MV Z Z<|CV1 Z fun_impl_total Z (fun w hs=>impl_total_Sent (hA.s RdStream.keeps hs) hb hall hlen_)<|AS Z Z<|ND<|RT Tryz.func35 Z Z<|?_
 rfl
theorem impl_SeenTotal {w : World} {v : Value} {l : List Stream} (hv : RdS w 39 RdStream v l) (hb : l.length ≤ 1048576) (hall : ∀ y ∈ l, y.le 1048576) (hlen_ : l.length ≤ 24) : CV Tryz.prog 36 [v] w (.int .i64 (bif areGo isStream none l then totS (·.recv.highest) 0 l else 0)) := by
 obtain ⟨A,c,rfl,hA⟩:=hv
 refine cv_of Tryz.func36 Z Z Z<|SQ<|RG<|AS Z Z<|ND<|SQ<|RG<|MV Z Z<|CV1 Z fun_impl_total Z (fun w hs=>impl_total_Seen (hA.s RdStream.keeps hs) hb hall hlen_)<|AS Z Z<|ND<|RT Tryz.func36 Z Z<|?_
 rfl
set_option maxHeartbeats 4000000 in
set_option maxRecDepth 20000 in
theorem spec_SentTotal {w : World} {v : Value} {l : List Stream} (hv : RdS w 39 RdStream v l) (hb : l.length ≤ 1048576) (hall : ∀ y ∈ l, y.le 1048576) (hlen_ : l.length ≤ 24) : CV Tryz.prog 37 [v] w (.int .i64 (bif areGo isStreamS none l then totS (·.send.sent) 0 l else 0)) := by
 obtain ⟨A,c,rfl,hA⟩:=hv
 refine cv_of Tryz.func37 Z Z Z<|SQ<|RG<|AS Z Z<|ND<|SQ<|RG<|AS Z Z<|ND<|SQ<|SQ<|RG<|AS Z Z<|ND<|BK<|?_
 refine gw_loopC (α:=Nat × Int) (fun z_=>z_.1 ≤ l.length ∧ (bif areGo isStreamS none l then totS (·.send.sent) 0 l else 0) = bif areGo isStreamS none l then totS (·.send.sent) z_.2 (l.drop z_.1) else z_.2) (fun z_=>l.length - z_.1) (fun e z_=>(4,.int .i64 (z_.1 : Int)) :: (3,.int .i64 z_.2) :: e) (0,0) [(0,_),(2,_)] (Sub.consE Z Z (Sub.consE Z Z (Sub.cons (i:=0) Z (Sub.cons (i:=2) Z (Sub.nil _))))) ?_ ?_
 ·exact ⟨Nat.zero_le _,rfl⟩
 ·rintro ⟨i,n⟩ hI1 ih1
  dsimp only at hI1
  dsimp only
  obtain ⟨hle,hI⟩:=hI1
  refine SQ<|SQ<|RG<|MV Z Z<|MV Z Z<|rw_len Z tyE_S_impl_Stream Z<|rw_lss Z Z Z<|MV Z Z<|?_
  refine rw_caseL (j:=9) Z (fun h1=>?_) (fun h1=>?_)
  ·have hi2:=lt_of_dec h1
   obtain ⟨x3,hx3⟩:=get_of_lt hi2
   have hd3:=drop_cons hx3
   refine ON Z Z Z<|MV Z Z<|ON Z Z Z<|CV1 Z fun_spec_AreStreams Z (fun w hs=>spec_AreStreams (hA.s RdStream.keeps hs) hb hall hlen_)<|PT Z Z Z Z<|ND<|?_
   refine gw_cond Z (fun h2=>?_) (fun h2=>?_)
   ·refine SK<|SQ<|BK<|RG<|MV Z Z<|MV Z Z<|MV Z Z<|?_
    obtain ⟨cse4_,hRe4_,hq4⟩:=hA.get hx3
    obtain ⟨ve4_0,ve4_1,ve4_2,ve4_3,ve4_4,rfl,ke4_0,ke4_1,ke4_2,ke4_3,ke4_4⟩:=hRe4_
    obtain ⟨Ae4_0,ce4_0,rfl,hAe4_0⟩:=ke4_0
    obtain ⟨Ae4_1,ce4_1,rfl,hAe4_1⟩:=ke4_1
    obtain ⟨Ae4_2,ce4_2,rfl,hAe4_2⟩:=ke4_2
    obtain ⟨Ae4_3,ce4_3,rfl,hAe4_3⟩:=ke4_3
    obtain ⟨Ae4_4,ce4_4,rfl,hAe4_4⟩:=ke4_4
    obtain ⟨hbe4_0,hbe4_1,hbe4_2,hbe4_3,hbe4_4,hbe4_5⟩:=hall x3 (List.mem_of_getElem? hx3)
    refine rw_indexAddr (i) Z tyE_S_impl_Stream Z Z Z (hA.some hi2) hi2<|FX Z tyF_impl_Stream_1 Z<|FX Z tyF_impl_Sender_7 Z<|rw_loadX _ Z tyP_int Z (fun w hs=>hq4.ld2 hs Z)<|rw_add Z Z Z<|rw_min Z Z Z<|AS Z Z<|ND<|IB<|RG<|MV Z Z<|rw_add Z Z Z<|AS Z Z<|ND<|?_
    refine gw_sub (Sub.consE (i:=4) Z (int_succ (by omega)) (Sub.consE (i:=3) Z Z (Sub.cons (i:=0) Z (Sub.cons (i:=2) Z (Sub.nil _))))) (ih1 (i + 1,min (w64 (n + x3.send.sent)) 4611686018427387904) ?_ ?_)
    ·exact ⟨by omega,by rw [hI,hd3]; simp [totS,h2]⟩
    ·show l.length - (i + 1) < l.length - i; omega
   refine EX Z<|SQ<|RG<|MV Z Z<|AS Z Z<|ND<|RT Tryz.func37 Z Z<|?_
   rw [hI,h2]; rfl
  have hn5:=nil_of_dec h1
  refine SKP Z<|PF Z Z Z Z<|ND<|CF Z Z<|EX Z<|SQ<|RG<|MV Z Z<|AS Z Z<|ND<|RT Tryz.func37 Z Z<|?_
  rw [hI,tot_if hn5]
set_option maxHeartbeats 4000000 in
set_option maxRecDepth 20000 in
theorem spec_SeenTotal {w : World} {v : Value} {l : List Stream} (hv : RdS w 39 RdStream v l) (hb : l.length ≤ 1048576) (hall : ∀ y ∈ l, y.le 1048576) (hlen_ : l.length ≤ 24) : CV Tryz.prog 38 [v] w (.int .i64 (bif areGo isStreamS none l then totS (·.recv.highest) 0 l else 0)) := by
 obtain ⟨A,c,rfl,hA⟩:=hv
 refine cv_of Tryz.func38 Z Z Z<|SQ<|RG<|AS Z Z<|ND<|SQ<|RG<|AS Z Z<|ND<|SQ<|SQ<|RG<|AS Z Z<|ND<|BK<|?_
 refine gw_loopC (α:=Nat × Int) (fun z_=>z_.1 ≤ l.length ∧ (bif areGo isStreamS none l then totS (·.recv.highest) 0 l else 0) = bif areGo isStreamS none l then totS (·.recv.highest) z_.2 (l.drop z_.1) else z_.2) (fun z_=>l.length - z_.1) (fun e z_=>(4,.int .i64 (z_.1 : Int)) :: (3,.int .i64 z_.2) :: e) (0,0) [(0,_),(2,_)] (Sub.consE Z Z (Sub.consE Z Z (Sub.cons (i:=0) Z (Sub.cons (i:=2) Z (Sub.nil _))))) ?_ ?_
 ·exact ⟨Nat.zero_le _,rfl⟩
 ·rintro ⟨i,n⟩ hI1 ih1
  dsimp only at hI1
  dsimp only
  obtain ⟨hle,hI⟩:=hI1
  refine SQ<|SQ<|RG<|MV Z Z<|MV Z Z<|rw_len Z tyE_S_impl_Stream Z<|rw_lss Z Z Z<|MV Z Z<|?_
  refine rw_caseL (j:=9) Z (fun h1=>?_) (fun h1=>?_)
  ·have hi2:=lt_of_dec h1
   obtain ⟨x3,hx3⟩:=get_of_lt hi2
   have hd3:=drop_cons hx3
   refine ON Z Z Z<|MV Z Z<|ON Z Z Z<|CV1 Z fun_spec_AreStreams Z (fun w hs=>spec_AreStreams (hA.s RdStream.keeps hs) hb hall hlen_)<|PT Z Z Z Z<|ND<|?_
   refine gw_cond Z (fun h2=>?_) (fun h2=>?_)
   ·refine SK<|SQ<|BK<|RG<|MV Z Z<|MV Z Z<|MV Z Z<|?_
    obtain ⟨cse4_,hRe4_,hq4⟩:=hA.get hx3
    obtain ⟨ve4_0,ve4_1,ve4_2,ve4_3,ve4_4,rfl,ke4_0,ke4_1,ke4_2,ke4_3,ke4_4⟩:=hRe4_
    obtain ⟨Ae4_0,ce4_0,rfl,hAe4_0⟩:=ke4_0
    obtain ⟨Ae4_1,ce4_1,rfl,hAe4_1⟩:=ke4_1
    obtain ⟨Ae4_2,ce4_2,rfl,hAe4_2⟩:=ke4_2
    obtain ⟨Ae4_3,ce4_3,rfl,hAe4_3⟩:=ke4_3
    obtain ⟨Ae4_4,ce4_4,rfl,hAe4_4⟩:=ke4_4
    obtain ⟨hbe4_0,hbe4_1,hbe4_2,hbe4_3,hbe4_4,hbe4_5⟩:=hall x3 (List.mem_of_getElem? hx3)
    refine rw_indexAddr (i) Z tyE_S_impl_Stream Z Z Z (hA.some hi2) hi2<|FX Z tyF_impl_Stream_3 Z<|FX Z tyF_impl_Receiver_3 Z<|rw_loadX _ Z tyP_int Z (fun w hs=>hq4.ld2 hs Z)<|rw_add Z Z Z<|rw_min Z Z Z<|AS Z Z<|ND<|IB<|RG<|MV Z Z<|rw_add Z Z Z<|AS Z Z<|ND<|?_
    refine gw_sub (Sub.consE (i:=4) Z (int_succ (by omega)) (Sub.consE (i:=3) Z Z (Sub.cons (i:=0) Z (Sub.cons (i:=2) Z (Sub.nil _))))) (ih1 (i + 1,min (w64 (n + x3.recv.highest)) 4611686018427387904) ?_ ?_)
    ·exact ⟨by omega,by rw [hI,hd3]; simp [totS,h2]⟩
    ·show l.length - (i + 1) < l.length - i; omega
   refine EX Z<|SQ<|RG<|MV Z Z<|AS Z Z<|ND<|RT Tryz.func38 Z Z<|?_
   rw [hI,h2]; rfl
  have hn5:=nil_of_dec h1
  refine SKP Z<|PF Z Z Z Z<|ND<|CF Z Z<|EX Z<|SQ<|RG<|MV Z Z<|AS Z Z<|ND<|RT Tryz.func38 Z Z<|?_
  rw [hI,tot_if hn5]
end Go.Proofs.YtbhnekiclbfmgaaGreat
namespace Go.Proofs.YtbhnekiclbfmgaaGreat
open SL Go.RowKit
set_option maxHeartbeats 4000000 in
set_option maxRecDepth 20000 in
theorem impl_CandidatesOf {w : World} {v : Value} {l : List Stream} (hv : RdS w 39 RdStream v l) (hb : l.length ≤ 1048576) (hall : ∀ y ∈ l, y.le 1048576) (hlen_ : l.length ≤ 24) : CN Tryz.prog 42 [v] w (fun v ch => OwS 112 3 (PlO Candidate.cells) v (bif areGo isStream none l then candGo wantsI l else []) ch) := by
 obtain ⟨A,c,rfl,hA⟩:=hv
 refine cn_of Tryz.func42 Z Z Z<|SQ<|RG<|AS Z Z<|ND<|SQ<|RG<|rw_slice0 Z tyM_S_impl_Candidate (PlO Candidate.cells)<|fun v1 how1=>AS Z Z<|ND<|SQ<|SQ<|RG<|MV Z Z<|CV1 Z fun_impl_AreStreams Z (fun w hs=>impl_AreStreams (hA.s RdStream.keeps hs) hb hall hlen_)<|NT Z Z<|ND<|?_
 refine gw_condN Z (fun h1=>?_) (fun h1=>?_)
 ·refine SQ<|RG<|MV Z Z<|AS Z Z<|ND<|?_
  refine ret_cn [] Tryz.func42 (res1 Tryz.func42 Z (rv_tmp Z)) ?_ ?_
  ·refine OwA.s ?_
   rw [h1]; exact how1
  ·exact List.nil_sublist _
 refine SK<|SQ<|SQ<|RG<|MV Z Z<|rw_len Z tyE_S_impl_Stream Z<|MV Z Z<|ND<|BK<|?_
 refine gw_loopX (α:=Nat × Value × List Ck × List Candidate) (fun z_=>z_.1 ≤ l.length ∧ OwA 112 3 (PlO Candidate.cells) z_.2.1 z_.2.2.2 z_.2.2.1 ∧ candGo wantsI l = z_.2.2.2 ++ candGo wantsI (l.drop z_.1) ∧ z_.2.2.2.length ≤ z_.1) (fun z_=>l.length - z_.1) (fun e z_=>(13,.int .i64 (z_.1 : Int)) :: (3,z_.2.1) :: e) (fun B _=>B) (fun F z_=>z_.2.2.1 ++ ([])) (0,v1,[],[]) [(2,_),(11,_),(12,_)] (Sub.consE Z Z (Sub.consE Z Z (Sub.cons (i:=2) Z (Sub.cons (i:=11) Z (Sub.cons (i:=12) Z (Sub.nil _)))))) Z Z ?_ ?_
 ·exact ⟨Nat.zero_le _,how1,rfl,Nat.zero_le _⟩
 ·rintro ⟨i,v,ch,o⟩ hI2 ih2
  dsimp only at hI2
  dsimp only
  obtain ⟨hle,hO,hI,hlo⟩:=hI2
  refine SQ<|RG<|rw_lss Z Z Z<|ND<|SQ<|?_
  refine gw_cond Z (fun h2=>?_) (fun h2=>?_)
  ·have hi3:=lt_of_dec h2
   obtain ⟨x4,hx4⟩:=get_of_lt hi3
   have hd4:=drop_cons hx4
   refine SK<|SQ<|BK<|SQ<|RG<|?_
   obtain ⟨cse5_,hRe5_,hq5⟩:=hA.get hx4
   obtain ⟨ve5_0,ve5_1,ve5_2,ve5_3,ve5_4,rfl,ke5_0,ke5_1,ke5_2,ke5_3,ke5_4⟩:=hRe5_
   obtain ⟨Ae5_0,ce5_0,rfl,hAe5_0⟩:=ke5_0
   obtain ⟨Ae5_1,ce5_1,rfl,hAe5_1⟩:=ke5_1
   obtain ⟨Ae5_2,ce5_2,rfl,hAe5_2⟩:=ke5_2
   obtain ⟨Ae5_3,ce5_3,rfl,hAe5_3⟩:=ke5_3
   obtain ⟨Ae5_4,ce5_4,rfl,hAe5_4⟩:=ke5_4
   obtain ⟨hbe5_0,hbe5_1,hbe5_2,hbe5_3,hbe5_4,hbe5_5⟩:=hall x4 (List.mem_of_getElem? hx4)
   refine rw_indexAddr (i) Z tyE_S_impl_Stream Z Z Z (hA.some hi3) hi3<|rw_loadX_s [_,_,_,_,_,_,_,_,_,_,_,_,_,_,_,_,_,_,_,_,_,_,_,_,_,_,_,_,_,_,_,_,_,_,_,_,_,_,_] Z tyS_impl_Stream Z Z (fun w hs=>hq5.lds0 (n:=39) hs Z)<|AL Z tyZ_impl_Stream<|fun b1=>rw_storeN (i:=0) [_,_,_,_,_,_,_,_,_,_,_,_,_,_,_,_,_,_,_,_,_,_,_,_,_,_,_,_,_,_,_,_,_,_,_,_,_,_,_] [_,_,_,_,_,_,_,_,_,_,_,_,_,_,_,_,_,_,_,_,_,_,_,_,_,_,_,_,_,_,_,_,_,_,_,_,_,_,_] [_] tyS_impl_Stream.sz Z Z Z Z Z Z Z Z Z<|?_
   refine ND<|SQ<|RG<|LS (i:=0) [_,_,_,_,_,_,_,_,_,_,_,_,_,_,_,_,_,_,_,_,_,_,_,_,_,_,_,_,_,_,_,_,_,_,_,_,_,_,_] Z tyS_impl_Stream Z Z Z Z<|CV1 Z fun_impl_WantsToSend Z (fun w hs=>impl_WantsToSend ⟨_,_,_,_,_,Z,(hAe5_0.s Pl.keeps hs),(hAe5_1.s Pl.keeps hs),(hAe5_2.s Pl.keeps hs),(hAe5_3.s Pl.keeps hs),(hAe5_4.s Pl.keeps hs)⟩ ⟨hbe5_0,hbe5_1,hbe5_2,hbe5_3,hbe5_4,hbe5_5⟩)<|ND<|?_
   refine gw_cond Z (fun h3=>?_) (fun h3=>?_)
   ·refine RG<|MV Z Z<|FA Z tyF_impl_Stream_0 Z<|LD (i:=0) Z tyP_int Z Z Z<|FA Z tyF_impl_Stream_5 Z<|LS (i:=0) [_,_] Z tyS_impl_Priority Z Z Z Z<|rw_build [_,_,_] Z tyB_impl_Candidate tyZ_impl_Candidate Z Z<|rw_slice (xs:=[(0,_)]) [_,_,_] Z tyM_S_impl_Candidate Z Z Z Z<|fun b2=>rw_append1 (i:=0) (a:=(⟨x4.id,x4.priority⟩ : Candidate)) Z tyM_S_impl_Candidate eCandidate Z Z Z hO ⟨Z,Z⟩ (.refl _) (by omega)<|fun v6 ch6 how6=>AS Z Z<|ND<|IB<|?_
    refine RG<|rw_add Z Z Z<|MV Z Z<|ND<|gw_dropN 2<|?_
    refine gw_sub (Sub.consE (i:=13) Z (int_succ (by omega)) (Sub.consE (i:=3) Z Z (Sub.cons (i:=2) Z (Sub.cons (i:=11) Z (Sub.cons (i:=12) Z (Sub.nil _)))))) (ih2 (i + 1,v6,ch6,(o ++ [(⟨x4.id,x4.priority⟩ : Candidate)])) ?_ ?_)
    ·exact ⟨by omega,how6,by rw [hI,hd4,candGo,show wantsI x4 = true from h3]; simp,by simp only [List.length_append,List.length_cons,List.length_nil]; omega⟩
    ·show l.length - (i + 1) < l.length - i; omega
   refine SK<|IB<|RG<|rw_add Z Z Z<|MV Z Z<|ND<|gw_dropN 1<|?_
   refine gw_sub (Sub.consE (i:=13) Z (int_succ (by omega)) (Sub.consE (i:=3) Z Z (Sub.cons (i:=2) Z (Sub.cons (i:=11) Z (Sub.cons (i:=12) Z (Sub.nil _)))))) (ih2 (i + 1,v,ch,o) ?_ ?_)
   ·exact ⟨by omega,hO,by rw [hI,hd4,candGo,show wantsI x4 = false from h3]; simp,Nat.le_succ_of_le hlo⟩
   ·show l.length - (i + 1) < l.length - i; omega
  have hn7:=nil_of_dec h2
  refine EX Z<|SQ<|RG<|MV Z Z<|AS Z Z<|ND<|?_
  refine ret_cn ch Tryz.func42 (res1 Tryz.func42 Z (rv_tmp Z)) ?_ ?_
  ·refine OwA.s ?_
   rw [h1,cond_true,hI,hn7]; simpa [candGo] using hO
  ·exact (List.sublist_append_left _ _).trans (List.sublist_append_right _ _)
set_option maxHeartbeats 4000000 in
set_option maxRecDepth 20000 in
theorem spec_CandidatesOf {w : World} {v : Value} {l : List Stream} (hv : RdS w 39 RdStream v l) (hb : l.length ≤ 1048576) (hall : ∀ y ∈ l, y.le 1048576) (hlen_ : l.length ≤ 24) : CN Tryz.prog 43 [v] w (fun v ch => OwS 112 3 (PlO Candidate.cells) v (bif areGo isStreamS none l then candGo wantsS l else []) ch) := by
 obtain ⟨A,c,rfl,hA⟩:=hv
 refine cn_of Tryz.func43 Z Z Z<|SQ<|RG<|AS Z Z<|ND<|SQ<|RG<|rw_slice0 Z tyM_S_impl_Candidate (PlO Candidate.cells)<|fun v1 how1=>AS Z Z<|ND<|SQ<|SQ<|RG<|AS Z Z<|ND<|BK<|?_
 refine gw_loopX (α:=Nat × Value × List Ck × List Candidate) (fun z_=>z_.1 ≤ l.length ∧ OwA 112 3 (PlO Candidate.cells) z_.2.1 z_.2.2.2 z_.2.2.1 ∧ (bif areGo isStreamS none l then candGo wantsS l else []) = z_.2.2.2 ++ (bif areGo isStreamS none l then candGo wantsS (l.drop z_.1) else []) ∧ z_.2.2.2.length ≤ z_.1) (fun z_=>l.length - z_.1) (fun e z_=>(4,.int .i64 (z_.1 : Int)) :: (3,z_.2.1) :: e) (fun B _=>B) (fun F z_=>z_.2.2.1 ++ ([])) (0,v1,[],[]) [(0,_),(2,_)] (Sub.consE Z Z (Sub.consE Z Z (Sub.cons (i:=0) Z (Sub.cons (i:=2) Z (Sub.nil _))))) Z Z ?_ ?_
 ·exact ⟨Nat.zero_le _,how1,rfl,Nat.zero_le _⟩
 ·rintro ⟨i,v,ch,o⟩ hI2 ih2
  dsimp only at hI2
  dsimp only
  obtain ⟨hle,hO,hI,hlo⟩:=hI2
  refine SQ<|SQ<|RG<|MV Z Z<|MV Z Z<|rw_len Z tyE_S_impl_Stream Z<|rw_lss Z Z Z<|MV Z Z<|?_
  refine rw_caseL (j:=10) Z (fun h1=>?_) (fun h1=>?_)
  ·have hi3:=lt_of_dec h1
   obtain ⟨x4,hx4⟩:=get_of_lt hi3
   have hd4:=drop_cons hx4
   refine ON Z Z Z<|MV Z Z<|ON Z Z Z<|CV1 Z fun_spec_AreStreams Z (fun w hs=>spec_AreStreams (hA.s RdStream.keeps hs) hb hall hlen_)<|PT Z Z Z Z<|ND<|?_
   refine gw_cond Z (fun h2=>?_) (fun h2=>?_)
   ·refine SK<|SQ<|BK<|SQ<|RG<|MV Z Z<|MV Z Z<|?_
    obtain ⟨cse5_,hRe5_,hq5⟩:=hA.get hx4
    obtain ⟨ve5_0,ve5_1,ve5_2,ve5_3,ve5_4,rfl,ke5_0,ke5_1,ke5_2,ke5_3,ke5_4⟩:=hRe5_
    obtain ⟨Ae5_0,ce5_0,rfl,hAe5_0⟩:=ke5_0
    obtain ⟨Ae5_1,ce5_1,rfl,hAe5_1⟩:=ke5_1
    obtain ⟨Ae5_2,ce5_2,rfl,hAe5_2⟩:=ke5_2
    obtain ⟨Ae5_3,ce5_3,rfl,hAe5_3⟩:=ke5_3
    obtain ⟨Ae5_4,ce5_4,rfl,hAe5_4⟩:=ke5_4
    obtain ⟨hbe5_0,hbe5_1,hbe5_2,hbe5_3,hbe5_4,hbe5_5⟩:=hall x4 (List.mem_of_getElem? hx4)
    refine rw_indexAddr (i) Z tyE_S_impl_Stream Z Z Z (hA.some hi3) hi3<|rw_loadX_s [_,_,_,_,_,_,_,_,_,_,_,_,_,_,_,_,_,_,_,_,_,_,_,_,_,_,_,_,_,_,_,_,_,_,_,_,_,_,_] Z tyS_impl_Stream Z Z (fun w hs=>hq5.lds0 (n:=39) hs Z)<|CV1 Z fun_spec_WantsToSend Z (fun w hs=>spec_WantsToSend ⟨_,_,_,_,_,Z,(hAe5_0.s Pl.keeps hs),(hAe5_1.s Pl.keeps hs),(hAe5_2.s Pl.keeps hs),(hAe5_3.s Pl.keeps hs),(hAe5_4.s Pl.keeps hs)⟩ ⟨hbe5_0,hbe5_1,hbe5_2,hbe5_3,hbe5_4,hbe5_5⟩)<|ND<|?_
    refine gw_cond Z (fun h3=>?_) (fun h3=>?_)
    ·refine gw_draw' [dd 0,dd 1,dd 2,dd 3,dd 4,dd 5,dd 6,dd 7,dd 8,dd 9,dd 10,dd 11,(12,.add)] [13,14] mixed Z (FD Z) (ts:=[_,_]) Z<|DM Z Z Z<|DM Z Z Z<|DM Z Z Z<|DT Z Z (fun _ q=>rw_indexAddr (i) Z tyE_S_impl_Stream Z Z Z (hA.some hi3) hi3 q)<|DT Z Z (fun _ q=>FX Z tyF_impl_Stream_0 Z q)<|DT Z Z (fun _ q=>rw_loadX _ Z tyP_int Z (fun w hs=>hq5.ld hs Z) q)<|?_
     refine DM Z Z Z<|DM Z Z Z<|DT Z Z (fun _ q=>rw_indexAddr (i) Z tyE_S_impl_Stream Z Z Z (hA.some hi3) hi3 q)<|DT Z Z (fun _ q=>FX Z tyF_impl_Stream_5 Z q)<|DT Z Z (fun _ q=>rw_loadX_s [_,_] Z tyS_impl_Priority Z Z (fun w hs=>hq5.lds (n:=2) hs Z) q)<|DT Z Z (fun _ q=>rw_build [_,_,_] Z tyB_impl_Candidate tyZ_impl_Candidate Z Z q)<|DA Z Z (fun _ q=>rw_slice1F (xs:=[(0,_)]) [_,_,_] Z tyM_S_impl_Candidate Z Z Z q)<|fun v6 ch6 how6=>?_
     obtain ⟨bl6,rfl,hch6⟩:=how6
     refine dw_nil<|?_
     have hpm8 : (ch6 ++ (ch ++ ([]))).Perm (ch ++ ([] ++ (ch6 ++ ([])))):=by
      refine List.Perm.trans ((pg (pp PR) PR) : (ch6 ++ (ch ++ ([]))).Perm (ch ++ (ch6 ++ ([])))) (List.Perm.of_eq ?_)
      simp only [List.nil_append]
     refine rw_append1F (a:=(⟨x4.id,x4.priority⟩ : Candidate)) (ch2:=[]) (F2:=ch6 ++ ([])) Z tyM_S_impl_Candidate eCandidate Z Z (mem_ch hch6 (fun c hc=>ML hc)) hO ⟨Z,Z⟩ hpm8 (by omega)<|fun v7 ch7 how7=>AS Z Z<|ND<|IB<|RG<|MV Z Z<|rw_add Z Z Z<|AS Z Z<|ND<|?_
     refine gw_dropF (F':=ch7 ++ ([])) (List.Sublist.append_left (List.nil_sublist _) _)<|?_
     refine gw_sub (Sub.consE (i:=4) Z (int_succ (by omega)) (Sub.consE (i:=3) Z Z (Sub.cons (i:=0) Z (Sub.cons (i:=2) Z (Sub.nil _))))) (ih2 (i + 1,v7,ch7,(o ++ [(⟨x4.id,x4.priority⟩ : Candidate)])) ?_ ?_)
     ·exact ⟨by omega,how7,by rw [hI,hd4,candGo,show wantsS x4 = true from h3]; simp [h2],by simp only [List.length_append,List.length_cons,List.length_nil]; omega⟩
     ·show l.length - (i + 1) < l.length - i; omega
    refine SK<|IB<|RG<|MV Z Z<|rw_add Z Z Z<|AS Z Z<|ND<|?_
    refine gw_sub (Sub.consE (i:=4) Z (int_succ (by omega)) (Sub.consE (i:=3) Z Z (Sub.cons (i:=0) Z (Sub.cons (i:=2) Z (Sub.nil _))))) (ih2 (i + 1,v,ch,o) ?_ ?_)
    ·exact ⟨by omega,hO,by rw [hI,hd4,candGo,show wantsS x4 = false from h3]; simp [h2],Nat.le_succ_of_le hlo⟩
    ·show l.length - (i + 1) < l.length - i; omega
   refine EX Z<|SQ<|RG<|MV Z Z<|AS Z Z<|ND<|?_
   refine ret_cn ch Tryz.func43 (res1 Tryz.func43 Z (rv_tmp Z)) ?_ ?_
   ·refine OwA.s ?_
    rw [hI,h2]; simpa using hO
   ·exact (List.sublist_append_left _ _).trans (List.sublist_append_right _ _)
  have hn9:=nil_of_dec h1
  refine SKP Z<|PF Z Z Z Z<|ND<|CF Z Z<|EX Z<|SQ<|RG<|MV Z Z<|AS Z Z<|ND<|?_
  refine ret_cn ch Tryz.func43 (res1 Tryz.func43 Z (rv_tmp Z)) ?_ ?_
  ·refine OwA.s ?_
   rw [hI,hn9]; simpa [candGo] using hO
  ·exact (List.sublist_append_left _ _).trans (List.sublist_append_right _ _)
end Go.Proofs.YtbhnekiclbfmgaaGreat
namespace Go.Proofs.YtbhnekiclbfmgaaGreat
open SL Go.RowKit
set_option maxHeartbeats 8000000 in
set_option maxRecDepth 20000 in
theorem spec_l16List {w : World} {b cp i : Nat} {A : Option Addr} {l : List UInt8} {h : Int} (hr : Rdb byC w A l b) (hi : i ≤ l.length) (hin : ∀ c ∈ [cur b A l.length cp i h], c.In w) (hnd : ([cur b A l.length cp i h].map Ck.b).Nodup) : CH Tryz.prog 94 [.pointer (some ⟨b, 0, none⟩)] w [cur b A l.length cp i h] (DrewL b A l.length cp) := by
 refine ch_of hin hnd Tryz.func94 Z Z Z<|SQ<|RG<|AS Z Z<|ND<|SQ<|RG<|rw_slice0 Z tyM_S_impl_Stream OwStream<|fun v1 how1=>AS Z Z<|ND<|SQ<|SQ<|RG<|MV Z Z<|rw_ch (G:=[cur b A l.length cp i h]) (R:=[]) Z fun_spec_l1Below Z ((pg PR PR)) (fun w hs hin hnd=>spec_l1Below (hr.sat hs) hi (n:=4) (by first | decide | omega) (by first | decide | omega) hin hnd)<|fun v2 ch2 how2=>?_
 obtain ⟨x2,i2,k2,rfl,hx2,hi2,rfl⟩:=how2
 refine AS Z Z<|ND<|BK<|?_
 refine gw_loopX (α:=Nat × List Stream × Value × List Ck × Nat × Int) (fun z_=>z_.2.1.length + z_.1 ≤ 20 ∧ OwA 46 39 OwStream z_.2.2.1 z_.2.1 z_.2.2.2.1 ∧ FineL z_.2.1 ∧ z_.2.2.2.2.1 ≤ l.length) (fun z_=>z_.1) (fun e z_=>(4,.int .i64 (z_.1 : Int)) :: (3,z_.2.2.1) :: e) (fun B _=>B) (fun F z_=>[cur b A l.length cp z_.2.2.2.2.1 z_.2.2.2.2.2] ++ (z_.2.2.2.1 ++ ([]))) (x2,[],v1,[],i2,k2) [(0,_),(2,_)] (Sub.consE Z Z (Sub.consE Z Z (Sub.cons (i:=0) Z (Sub.cons (i:=2) Z (Sub.nil _))))) Z Z ?_ ?_
 ·refine ⟨by show 0 + _ ≤ 20; omega,how1,(fun _ h=>by cases h),hi2⟩
 ·rintro ⟨n,o,v,chq,i_,k⟩ hI3 ih3
  dsimp only at hI3
  dsimp only
  obtain ⟨hlo_,hO,hF_,hi_⟩:=hI3
  refine SQ<|SQ<|RG<|MV Z Z<|rw_gtr Z Z Z<|ND<|?_
  refine gw_cond Z (fun h1=>?_) (fun h1=>?_)
  ·have hp4:=pos_of h1
   refine SK<|SQ<|BK<|RG<|MV Z Z<|MV Z Z<|?_
   have hpm6 : ([cur b A l.length cp i_ k] ++ (chq ++ ([]))).Perm ([cur b A l.length cp i_ k] ++ (chq ++ ([]))):=by
    refine List.Perm.trans ((pg PR PR) : ([cur b A l.length cp i_ k] ++ (chq ++ ([]))).Perm ([cur b A l.length cp i_ k] ++ (chq ++ ([])))) (List.Perm.of_eq ?_)
    simp only [List.cons_append,List.nil_append,List.append_nil]
   refine rw_ch (G:=[cur b A l.length cp i_ k]) (R:=chq ++ ([])) Z fun_spec_l15Stream Z hpm6 (fun w hs hin hnd=>spec_l15Stream (RdbX.own hr.X hs hpm6).b hi_ hin hnd)<|fun v5 ch5 how5=>?_
   obtain ⟨cs5,s5,ch5,i5,k5,rfl,how5,hF5,hi5,rfl⟩:=how5
   obtain ⟨v5_0,v5_1,v5_2,v5_3,v5_4,c5_0,c5_1,c5_2,c5_3,c5_4,rfl,h5_0,h5_1,h5_2,h5_3,h5_4,rfl⟩:=how5
   obtain ⟨R5_0,b5_0,rfl,hR5_0,hrd5_0⟩:=h5_0.shape eInt
   obtain ⟨R5_1,b5_1,rfl,hR5_1,hrd5_1⟩:=h5_1.shape eRange
   obtain ⟨R5_2,b5_2,rfl,hR5_2,hrd5_2⟩:=h5_2.shape eRange
   obtain ⟨R5_3,b5_3,rfl,hR5_3,hrd5_3⟩:=h5_3.shape eRange
   obtain ⟨R5_4,b5_4,rfl,hR5_4,hrd5_4⟩:=h5_4.shape eChunk
   refine rw_F (F':=[cur b A l.length cp i5 k5] ++ (c5_0 ++ (c5_1 ++ (c5_2 ++ (c5_3 ++ (c5_4 ++ (chq ++ ([])))))))) (by simp only [aA,nA,aN,cA])<|?_
   obtain ⟨hbt7_0,hbt7_1,hbt7_2,hbt7_3,hbt7_4,hbt7_5⟩:=FineSt.le hF5
   refine CN1 Z fun_spec_PutStream Z (fun w hs=>spec_PutStream ((OwA.s hO).rdH eStream hs (fun c hc=>MR (MR (MR (MR (MR (MR (MR (ML hc))))))))) (by omega) hF_.le ⟨_,_,_,_,_,Z,⟨_,_,Z,hrd5_0 _ (fun c hc=>hs.at_ c (MR (MR (ML hc))))⟩,⟨_,_,Z,hrd5_1 _ (fun c hc=>hs.at_ c (MR (MR (MR (ML hc)))))⟩,⟨_,_,Z,hrd5_2 _ (fun c hc=>hs.at_ c (MR (MR (MR (MR (ML hc))))))⟩,⟨_,_,Z,hrd5_3 _ (fun c hc=>hs.at_ c (MR (MR (MR (MR (MR (ML hc)))))))⟩,⟨_,_,Z,hrd5_4 _ (fun c hc=>hs.at_ c (MR (MR (MR (MR (MR (MR (ML hc))))))))⟩⟩ ⟨hbt7_0,hbt7_1,hbt7_2,hbt7_3,hbt7_4,hbt7_5⟩)<|fun v8 ch8 how8=>?_
   refine AS Z Z<|ND<|IB<|RG<|MV Z Z<|rw_sub Z Z Z<|AS Z Z<|ND<|?_
   refine gw_FP (F':=[cur b A l.length cp i5 k5] ++ (ch8 ++ (c5_0 ++ (c5_1 ++ (c5_2 ++ (c5_3 ++ (c5_4 ++ (chq ++ ([]))))))))) (pg (pp PR) (pg PR (pg PR (pg PR (pg PR (pg PR (pg PR (pg PR PR))))))))<|gw_dropF (F':=[cur b A l.length cp i5 k5] ++ (ch8 ++ ([]))) (List.Sublist.append_left (List.Sublist.append_left (List.nil_sublist _) _) _)<|?_
   refine gw_sub (Sub.consE (i:=4) Z (int_pred hp4 (by omega)) (Sub.consE (i:=3) Z Z (Sub.cons (i:=0) Z (Sub.cons (i:=2) Z (Sub.nil _))))) (ih3 (n - 1,(putS o s5),v8,ch8,i5,k5) ?_ ?_)
   ·refine ⟨by have:=hp4; have:=put_len o s5; show ((putS o s5)).length + (n - 1) ≤ 20; omega,how8,(FineL.put hF_ hF5),hi5⟩
   ·show n - 1 < n; omega
  have hz9:=zero_of h1
  refine EX Z<|SQ<|SQ<|RG<|MV Z Z<|rw_ch (G:=[cur b A l.length cp i_ k]) (R:=chq ++ ([])) Z fun_spec_l1Once Z ((pg PR PR)) (fun w hs hin hnd=>spec_l1Once (hr.sat hs) hi_ (n:=12) (by first | decide | omega) (by first | decide | omega) hin hnd)<|fun v10 ch10 how10=>?_
  obtain ⟨x10,i10,k10,rfl,hx10,hi10,rfl⟩:=how10
  refine ND<|?_
  refine gw_cond Z (fun h2=>?_) (fun h2=>?_)
  ·refine RG<|MV Z Z<|MV Z Z<|?_
   have hpm12 : ([cur b A l.length cp i10 k10] ++ (chq ++ ([]))).Perm ([cur b A l.length cp i10 k10] ++ (chq ++ ([]))):=by
    refine List.Perm.trans ((pg PR PR) : ([cur b A l.length cp i10 k10] ++ (chq ++ ([]))).Perm ([cur b A l.length cp i10 k10] ++ (chq ++ ([])))) (List.Perm.of_eq ?_)
    simp only [List.cons_append,List.nil_append,List.append_nil]
   refine rw_ch (G:=[cur b A l.length cp i10 k10]) (R:=chq ++ ([])) Z fun_spec_l15Any Z hpm12 (fun w hs hin hnd=>spec_l15Any (RdbX.own hr.X hs hpm12).b hi10 hin hnd)<|fun v11 ch11 how11=>?_
   obtain ⟨cs11,s11,ch11,i11,k11,rfl,how11,hF11,hi11,rfl⟩:=how11
   obtain ⟨v11_0,v11_1,v11_2,v11_3,v11_4,c11_0,c11_1,c11_2,c11_3,c11_4,rfl,h11_0,h11_1,h11_2,h11_3,h11_4,rfl⟩:=how11
   obtain ⟨R11_0,b11_0,rfl,hR11_0,hrd11_0⟩:=h11_0.shape eInt
   obtain ⟨R11_1,b11_1,rfl,hR11_1,hrd11_1⟩:=h11_1.shape eRange
   obtain ⟨R11_2,b11_2,rfl,hR11_2,hrd11_2⟩:=h11_2.shape eRange
   obtain ⟨R11_3,b11_3,rfl,hR11_3,hrd11_3⟩:=h11_3.shape eRange
   obtain ⟨R11_4,b11_4,rfl,hR11_4,hrd11_4⟩:=h11_4.shape eChunk
   refine rw_F (F':=[cur b A l.length cp i11 k11] ++ (c11_0 ++ (c11_1 ++ (c11_2 ++ (c11_3 ++ (c11_4 ++ (chq ++ ([])))))))) (by simp only [aA,nA,aN,cA])<|?_
   obtain ⟨hbt13_0,hbt13_1,hbt13_2,hbt13_3,hbt13_4,hbt13_5⟩:=FineSt.le hF11
   refine rw_slice (xs:=[(0,_)]) [_,_,_,_,_,_,_,_,_,_,_,_,_,_,_,_,_,_,_,_,_,_,_,_,_,_,_,_,_,_,_,_,_,_,_,_,_,_,_] Z tyM_S_impl_Stream Z Z Z Z<|fun b1=>?_
   have hpm15 : ([cur b A l.length cp i11 k11] ++ (c11_0 ++ (c11_1 ++ (c11_2 ++ (c11_3 ++ (c11_4 ++ (chq ++ ([])))))))).Perm (chq ++ ((c11_0 ++ (c11_1 ++ (c11_2 ++ (c11_3 ++ (c11_4))))) ++ ([cur b A l.length cp i11 k11] ++ ([])))):=by
    refine List.Perm.trans ((pg (pp (pp (pp (pp (pp (pp PR)))))) (pg (pp PR) (pg (pp PR) (pg (pp PR) (pg (pp PR) (pg (pp PR) PR)))))) : ([cur b A l.length cp i11 k11] ++ (c11_0 ++ (c11_1 ++ (c11_2 ++ (c11_3 ++ (c11_4 ++ (chq ++ ([])))))))).Perm (chq ++ (c11_0 ++ (c11_1 ++ (c11_2 ++ (c11_3 ++ (c11_4 ++ ([cur b A l.length cp i11 k11] ++ ([]))))))))) (List.Perm.of_eq ?_)
    simp only [List.append_assoc]
   refine rw_append1 (i:=0) (a:=s11) (ch2:=c11_0 ++ (c11_1 ++ (c11_2 ++ (c11_3 ++ (c11_4))))) (F2:=[cur b A l.length cp i11 k11] ++ ([])) Z tyM_S_impl_Stream eStream Z Z Z hO ⟨_,_,_,_,_,_,_,_,_,_,Z,h11_0,h11_1,h11_2,h11_3,h11_4,Z⟩ hpm15 (by omega)<|fun v14 ch14 how14=>AS Z Z<|ND<|SQ<|RG<|MV Z Z<|AS Z Z<|ND<|?_
   refine gw_FP (pg (pp PR) (pg PR PR)) (gw_F (F':=(cur b A l.length cp i11 k11 :: ch14) ++ ([])) (by simp only [nA,aN,cA]) ?_)
   refine ret_ch (cur b A l.length cp i11 k11 :: ch14) Tryz.func94 (res1 Tryz.func94 Z (rv_tmp Z)) ?_ ?_
   ·exact ⟨_,_,_,_,how14,(FineL.snoc hF_ hF11),by have:=snoc_len o s11; show ((o ++ [s11])).length ≤ 24; omega,hi11,rfl⟩
   ·exact (List.sublist_append_left _ _).trans (List.sublist_append_right _ _)
  refine SK<|SQ<|RG<|MV Z Z<|AS Z Z<|ND<|?_
  refine gw_FP (pg PR (pg PR PR)) (gw_F (F':=(cur b A l.length cp i10 k10 :: chq) ++ ([])) (by simp only [nA,aN,cA]) ?_)
  refine ret_ch (cur b A l.length cp i10 k10 :: chq) Tryz.func94 (res1 Tryz.func94 Z (rv_tmp Z)) ?_ ?_
  ·exact ⟨_,_,_,_,hO,hF_,by show (o).length ≤ 24; omega,hi10,rfl⟩
  ·exact (List.sublist_append_left _ _).trans (List.sublist_append_right _ _)
end Go.Proofs.YtbhnekiclbfmgaaGreat
namespace Go.Proofs.YtbhnekiclbfmgaaGreat
open SL Go.RowKit
set_option maxHeartbeats 4000000 in
set_option maxRecDepth 20000 in
theorem spec_DrawCandidatesOf {w : World} {v : Value} {l : List UInt8} (hv : RdS w 1 (Pl byC) v l) (hl : l.length ≤ 1048576) : CN Tryz.prog 34 [v] w (fun v ch => ∃ L, OwS 46 39 OwStream v L ch ∧ FineL L ∧ L.length ≤ 24) := by
 obtain ⟨A,cp,rfl,hA⟩:=hv
 refine cn_of Tryz.func34 Z Z Z<|SQ<|RG<|AS Z Z<|ND<|SQ<|RG<|MV Z Z<|CN1 Z fun_spec_l1New Z (fun w hs=>spec_l1New (cp:=cp) (hA.sat Pl.keeps hs) (by omega))<|fun v1 ch1 how1=>?_
 obtain ⟨b1_,k1,rfl,rfl⟩:=how1
 have hpm3 : ([cur b1_ A l.length cp 0 k1] ++ ([])).Perm ([cur b1_ A l.length cp 0 k1] ++ ([])):=by
  refine List.Perm.trans ((pg PR PR) : ([cur b1_ A l.length cp 0 k1] ++ ([])).Perm ([cur b1_ A l.length cp 0 k1] ++ ([]))) (List.Perm.of_eq ?_)
  simp only [List.append_nil]
 refine rw_ch (G:=[cur b1_ A l.length cp 0 k1]) (R:=[]) Z fun_spec_l16List Z hpm3 (fun w hs hin hnd=>spec_l16List (RdbX.own (RdbX.ext hA (by omega)) hs hpm3).b (Nat.zero_le _) hin hnd)<|fun v2 ch2 how2=>?_
 obtain ⟨o2,ch2,i2,k2,how2,hF2,hlo2,hi2,rfl⟩:=how2
 refine rw_F (F':=[cur b1_ A l.length cp i2 k2] ++ (ch2 ++ ([]))) (by simp only [nA,aN,cA])<|AS Z Z<|ND<|?_
 refine gw_FP (pg (pp PR) PR) (gw_F (F':=(ch2) ++ ([cur b1_ A l.length cp i2 k2] ++ ([]))) (by simp only [aN]) ?_)
 refine ret_cn (ch2) Tryz.func34 (res1 Tryz.func34 Z (rv_tmp Z)) ?_ ?_
 ·exact ⟨_,OwA.s how2,hF2,by omega⟩
 ·exact (List.sublist_append_left _ _).trans (List.sublist_append_right _ _)
set_option maxHeartbeats 8000000 in
set_option maxRecDepth 20000 in
theorem spec_DrawPutStream {w : World} {v : Value} {l : List UInt8} (hv : RdS w 1 (Pl byC) v l) (hl : l.length ≤ 1048576) : CN Tryz.prog 27 [v] w (fun v ch => ∃ v1 L ch1 cs s ch2, v = .tuple #[v1, .agg cs.toArray] ∧ OwS 46 39 OwStream v1 L ch1 ∧ FineL L ∧ L.length ≤ 24 ∧ OwStream cs s ch2 ∧ FineSt s ∧ ch = ch1 ++ ch2) := by
 obtain ⟨A,cp,rfl,hA⟩:=hv
 refine cn_of Tryz.func27 Z Z Z<|SQ<|RG<|AS Z Z<|AL Z tyZ_impl_Stream<|fun b1=>ND<|SQ<|RG<|MV Z Z<|CN1 Z fun_spec_l1New Z (fun w hs=>spec_l1New (cp:=cp) (hA.sat Pl.keeps hs) (by omega))<|fun v1 ch1 how1=>?_
 obtain ⟨b1_,k1,rfl,rfl⟩:=how1
 refine AS Z Z<|ND<|SQ<|RG<|MV Z Z<|?_
 have hpm3 : ([cur b1_ A l.length cp 0 k1] ++ ([])).Perm ([cur b1_ A l.length cp 0 k1] ++ ([])):=by
  refine List.Perm.trans ((pg PR PR) : ([cur b1_ A l.length cp 0 k1] ++ ([])).Perm ([cur b1_ A l.length cp 0 k1] ++ ([]))) (List.Perm.of_eq ?_)
  simp only [List.append_nil]
 refine rw_ch (G:=[cur b1_ A l.length cp 0 k1]) (R:=[]) Z fun_spec_l16List Z hpm3 (fun w hs hin hnd=>spec_l16List (RdbX.own (RdbX.ext hA (by omega)) hs hpm3).b (Nat.zero_le _) hin hnd)<|fun v2 ch2 how2=>?_
 obtain ⟨o2,ch2,i2,k2,how2,hF2,hlo2,hi2,rfl⟩:=how2
 refine rw_F (F':=[cur b1_ A l.length cp i2 k2] ++ (ch2 ++ ([]))) (by simp only [nA,aN,cA])<|AS Z Z<|ND<|SQ<|RG<|MV Z Z<|MV Z Z<|?_
 have hpm5 : ([cur b1_ A l.length cp i2 k2] ++ (ch2 ++ ([]))).Perm ([cur b1_ A l.length cp i2 k2] ++ (ch2 ++ ([]))):=by
  refine List.Perm.trans ((pg PR PR) : ([cur b1_ A l.length cp i2 k2] ++ (ch2 ++ ([]))).Perm ([cur b1_ A l.length cp i2 k2] ++ (ch2 ++ ([])))) (List.Perm.of_eq ?_)
  simp only [List.cons_append,List.nil_append,List.append_nil]
 refine rw_ch (G:=[cur b1_ A l.length cp i2 k2]) (R:=ch2 ++ ([])) Z fun_spec_l15Any Z hpm5 (fun w hs hin hnd=>spec_l15Any (RdbX.own (RdbX.ext hA (by omega)) hs hpm5).b hi2 hin hnd)<|fun v4 ch4 how4=>?_
 obtain ⟨cs4,s4,ch4,i4,k4,rfl,how4,hF4,hi4,rfl⟩:=how4
 obtain ⟨v4_0,v4_1,v4_2,v4_3,v4_4,c4_0,c4_1,c4_2,c4_3,c4_4,rfl,h4_0,h4_1,h4_2,h4_3,h4_4,rfl⟩:=how4
 obtain ⟨R4_0,b4_0,rfl,hR4_0,hrd4_0⟩:=h4_0.shape eInt
 obtain ⟨R4_1,b4_1,rfl,hR4_1,hrd4_1⟩:=h4_1.shape eRange
 obtain ⟨R4_2,b4_2,rfl,hR4_2,hrd4_2⟩:=h4_2.shape eRange
 obtain ⟨R4_3,b4_3,rfl,hR4_3,hrd4_3⟩:=h4_3.shape eRange
 obtain ⟨R4_4,b4_4,rfl,hR4_4,hrd4_4⟩:=h4_4.shape eChunk
 refine rw_F (F':=[cur b1_ A l.length cp i4 k4] ++ (c4_0 ++ (c4_1 ++ (c4_2 ++ (c4_3 ++ (c4_4 ++ (ch2 ++ ([])))))))) (by simp only [aA,nA,aN,cA])<|?_
 obtain ⟨hbt6_0,hbt6_1,hbt6_2,hbt6_3,hbt6_4,hbt6_5⟩:=FineSt.le hF4
 refine AS Z Z<|rw_storeN (i:=0) [_,_,_,_,_,_,_,_,_,_,_,_,_,_,_,_,_,_,_,_,_,_,_,_,_,_,_,_,_,_,_,_,_,_,_,_,_,_,_] [_,_,_,_,_,_,_,_,_,_,_,_,_,_,_,_,_,_,_,_,_,_,_,_,_,_,_,_,_,_,_,_,_,_,_,_,_,_,_] [_] tyS_impl_Stream.sz Z Z Z Z Z Z Z Z Z<|ND<|?_
 refine gw_FP (pg (pp (pp (pp (pp (pp (pp PR)))))) (pg (pp PR) (pg (pp PR) (pg (pp PR) (pg (pp PR) (pg (pp PR) PR)))))) (gw_F (F':=(ch2 ++ (c4_0 ++ (c4_1 ++ (c4_2 ++ (c4_3 ++ (c4_4)))))) ++ ([cur b1_ A l.length cp i4 k4] ++ ([]))) (by simp only [aA,aN]) ?_)
 refine ret_cn (ch2 ++ (c4_0 ++ (c4_1 ++ (c4_2 ++ (c4_3 ++ (c4_4)))))) Tryz.func27 (res2 Tryz.func27 Z (rv_tmp Z) (rv_s (i:=0) [_,_,_,_,_,_,_,_,_,_,_,_,_,_,_,_,_,_,_,_,_,_,_,_,_,_,_,_,_,_,_,_,_,_,_,_,_,_,_] tyS_impl_Stream Z Z Z Z)) ?_ ?_
 ·refine ⟨_,_,_,_,_,_,Z,OwA.s how2,hF2,by omega,owStream_mk h4_0 h4_1 h4_2 h4_3 h4_4,?_,Z⟩
  exact hF4
 ·exact (List.sublist_append_left _ _).trans (List.sublist_append_right _ _)
set_option maxHeartbeats 4000000 in
set_option maxRecDepth 20000 in
theorem spec_DrawFindStream {w : World} {v : Value} {l : List UInt8} (hv : RdS w 1 (Pl byC) v l) (hl : l.length ≤ 1048576) : CN Tryz.prog 39 [v] w (fun v ch => ∃ v1 L id, v = .tuple #[v1, .int .i64 id] ∧ OwS 46 39 OwStream v1 L ch ∧ FineL L ∧ L.length ≤ 24) := by
 obtain ⟨A,cp,rfl,hA⟩:=hv
 refine cn_of Tryz.func39 Z Z Z<|SQ<|RG<|AS Z Z<|AS Z Z<|ND<|SQ<|RG<|MV Z Z<|CN1 Z fun_spec_l1New Z (fun w hs=>spec_l1New (cp:=cp) (hA.sat Pl.keeps hs) (by omega))<|fun v1 ch1 how1=>?_
 obtain ⟨b1_,k1,rfl,rfl⟩:=how1
 refine AS Z Z<|ND<|SQ<|RG<|MV Z Z<|?_
 have hpm3 : ([cur b1_ A l.length cp 0 k1] ++ ([])).Perm ([cur b1_ A l.length cp 0 k1] ++ ([])):=by
  refine List.Perm.trans ((pg PR PR) : ([cur b1_ A l.length cp 0 k1] ++ ([])).Perm ([cur b1_ A l.length cp 0 k1] ++ ([]))) (List.Perm.of_eq ?_)
  simp only [List.append_nil]
 refine rw_ch (G:=[cur b1_ A l.length cp 0 k1]) (R:=[]) Z fun_spec_l16List Z hpm3 (fun w hs hin hnd=>spec_l16List (RdbX.own (RdbX.ext hA (by omega)) hs hpm3).b (Nat.zero_le _) hin hnd)<|fun v2 ch2 how2=>?_
 obtain ⟨o2,ch2,i2,k2,how2,hF2,hlo2,hi2,rfl⟩:=how2
 refine rw_F (F':=[cur b1_ A l.length cp i2 k2] ++ (ch2 ++ ([]))) (by simp only [nA,aN,cA])<|AS Z Z<|ND<|SQ<|RG<|MV Z Z<|MV Z Z<|rw_ch (G:=[cur b1_ A l.length cp i2 k2]) (R:=ch2 ++ ([])) Z fun_spec_l1Below Z ((pg PR PR)) (fun w hs hin hnd=>spec_l1Below (Rdb.own (c:=cur b1_ A l.length cp i2 k2) hA (by omega) hs (MR (ML List.mem_cons_self))) hi2 (n:=10) (by first | decide | omega) (by first | decide | omega) hin hnd)<|fun v4 ch4 how4=>?_
 obtain ⟨x4,i4,k4,rfl,hx4,hi4,rfl⟩:=how4
 refine rw_sub Z Z Z<|AS Z Z<|AS Z Z<|ND<|?_
 refine gw_FP (pg (pp PR) PR) (gw_F (F':=(ch2) ++ ([cur b1_ A l.length cp i4 k4] ++ ([]))) (by simp only [aN]) ?_)
 refine ret_cn (ch2) Tryz.func39 (res2 Tryz.func39 Z (rv_tmp Z) (rv_tmp Z)) ?_ ?_
 ·exact ⟨_,_,_,rfl,OwA.s how2,hF2,by omega⟩
 ·exact (List.sublist_append_left _ _).trans (List.sublist_append_right _ _)
set_option maxHeartbeats 8000000 in
set_option maxRecDepth 20000 in
theorem spec_DrawEqualTables {w : World} {v : Value} {l : List UInt8} (hv : RdS w 1 (Pl byC) v l) (hl : l.length ≤ 1048576) : CN Tryz.prog 40 [v] w (fun v ch => ∃ v1 L1 v2 L2, v = .tuple #[v1, v2] ∧ (∀ w : World, (∀ c ∈ ch, c.In w) → RdS w 39 RdStream v1 L1 ∧ RdS w 39 RdStream v2 L2) ∧ FineL L1 ∧ L1.length ≤ 24 ∧ FineL L2 ∧ L2.length ≤ 24) := by
 obtain ⟨A,cp,rfl,hA⟩:=hv
 refine cn_of Tryz.func40 Z Z Z<|SQ<|RG<|AS Z Z<|AS Z Z<|ND<|SQ<|RG<|MV Z Z<|CN1 Z fun_spec_l1New Z (fun w hs=>spec_l1New (cp:=cp) (hA.sat Pl.keeps hs) (by omega))<|fun v1 ch1 how1=>?_
 obtain ⟨b1_,k1,rfl,rfl⟩:=how1
 refine AS Z Z<|ND<|SQ<|RG<|MV Z Z<|?_
 have hpm3 : ([cur b1_ A l.length cp 0 k1] ++ ([])).Perm ([cur b1_ A l.length cp 0 k1] ++ ([])):=by
  refine List.Perm.trans ((pg PR PR) : ([cur b1_ A l.length cp 0 k1] ++ ([])).Perm ([cur b1_ A l.length cp 0 k1] ++ ([]))) (List.Perm.of_eq ?_)
  simp only [List.append_nil]
 refine rw_ch (G:=[cur b1_ A l.length cp 0 k1]) (R:=[]) Z fun_spec_l16List Z hpm3 (fun w hs hin hnd=>spec_l16List (RdbX.own (RdbX.ext hA (by omega)) hs hpm3).b (Nat.zero_le _) hin hnd)<|fun v2 ch2 how2=>?_
 obtain ⟨o2,ch2,i2,k2,how2,hF2,hlo2,hi2,rfl⟩:=how2
 refine rw_F (F':=[cur b1_ A l.length cp i2 k2] ++ (ch2 ++ ([]))) (by simp only [nA,aN,cA])<|AS Z Z<|ND<|SQ<|SQ<|RG<|MV Z Z<|rw_ch (G:=[cur b1_ A l.length cp i2 k2]) (R:=ch2 ++ ([])) Z fun_spec_l1Once Z ((pg PR PR)) (fun w hs hin hnd=>spec_l1Once (Rdb.own (c:=cur b1_ A l.length cp i2 k2) hA (by omega) hs (MR (ML List.mem_cons_self))) hi2 (n:=2) (by first | decide | omega) (by first | decide | omega) hin hnd)<|fun v4 ch4 how4=>?_
 obtain ⟨x4,i4,k4,rfl,hx4,hi4,rfl⟩:=how4
 refine ND<|?_
 refine gw_cond Z (fun h1=>?_) (fun h1=>?_)
 ·refine SQ<|RG<|MV Z Z<|rw_slice0 Z tyM_S_impl_Stream (PlO Row.c)<|fun v5 how5=>MV Z Z<|?_
  obtain ⟨rows_,Ar_,cr_,hre_,hRo_,hrr_⟩:=rows_of how2
  subst hre_
  refine rw_appendP (F2:=[cur b1_ A l.length cp i4 k4] ++ (ch2 ++ ([]))) Z tyM_S_impl_Stream eRow (fun x=>x.n) Z Z how5 (fun w hs=>hrr_ w (fun c hc=>hs.at_ c (MR (MR (ML hc))))) (.refl _) (by have:=hRo_.1; simp only [List.length_nil]; omega)<|fun v6 ch6 how6=>AS Z Z<|AS Z Z<|ND<|?_
  refine gw_FP (pg (pp (pp PR)) (pg PR PR)) (gw_F (F':=(ch2 ++ (ch6)) ++ ([cur b1_ A l.length cp i4 k4] ++ ([]))) (by simp only [aA,aN]) ?_)
  refine ret_cn (ch2 ++ (ch6)) Tryz.func40 (res2 Tryz.func40 Z (rv_tmp Z) (rv_tmp Z)) ?_ ?_
  ·exact ⟨_,o2,_,o2,rfl,(fun w hin=>⟨(OwA.s how2).rd eStream (fun c hc=>hin c (ML hc)),rows_rd hRo_ (OwA.s how6) (fun c hc=>hin c (ML hc)) (fun c hc=>hin c (MR hc))⟩),hF2,by omega,hF2,by omega⟩
  ·exact (List.sublist_append_left _ _).trans (List.sublist_append_right _ _)
 refine SK<|SQ<|RG<|MV Z Z<|MV Z Z<|?_
 have hpm8 : ([cur b1_ A l.length cp i4 k4] ++ (ch2 ++ ([]))).Perm ([cur b1_ A l.length cp i4 k4] ++ (ch2 ++ ([]))):=by
  refine List.Perm.trans ((pg PR PR) : ([cur b1_ A l.length cp i4 k4] ++ (ch2 ++ ([]))).Perm ([cur b1_ A l.length cp i4 k4] ++ (ch2 ++ ([])))) (List.Perm.of_eq ?_)
  simp only [List.cons_append,List.nil_append,List.append_nil]
 refine rw_ch (G:=[cur b1_ A l.length cp i4 k4]) (R:=ch2 ++ ([])) Z fun_spec_l16List Z hpm8 (fun w hs hin hnd=>spec_l16List (RdbX.own (RdbX.ext hA (by omega)) hs hpm8).b hi4 hin hnd)<|fun v7 ch7 how7=>?_
 obtain ⟨o7,ch7,i7,k7,how7,hF7,hlo7,hi7,rfl⟩:=how7
 refine rw_F (F':=[cur b1_ A l.length cp i7 k7] ++ (ch7 ++ (ch2 ++ ([])))) (by simp only [nA,aN,cA])<|AS Z Z<|AS Z Z<|ND<|?_
 refine gw_FP (pg (pp (pp PR)) (pg (pp PR) PR)) (gw_F (F':=(ch2 ++ (ch7)) ++ ([cur b1_ A l.length cp i7 k7] ++ ([]))) (by simp only [aA,aN]) ?_)
 refine ret_cn (ch2 ++ (ch7)) Tryz.func40 (res2 Tryz.func40 Z (rv_tmp Z) (rv_tmp Z)) ?_ ?_
 ·exact ⟨_,o2,_,o7,rfl,(fun w hin=>⟨(OwA.s how2).rd eStream (fun c hc=>hin c (ML hc)),(OwA.s how7).rd eStream (fun c hc=>hin c (MR hc))⟩),hF2,by omega,hF7,by omega⟩
 ·exact (List.sublist_append_left _ _).trans (List.sublist_append_right _ _)
end Go.Proofs.YtbhnekiclbfmgaaGreat
namespace Go.Proofs.YtbhnekiclbfmgaaGreat
open SL Go.RowKit
theorem laws_sameIds {w : World} {v v1 : Value} {l l1 : List Candidate} (hv : RdS w 3 (Pl Candidate.cells) v l) (hb : l.length ≤ 1048576) (hv1 : RdS w 3 (Pl Candidate.cells) v1 l1) (he : l1 = l) : CV Tryz.prog 41 [v, v1] w (.bool true) := by
 subst he
 obtain ⟨A,c,rfl,hA⟩:=hv
 obtain ⟨A1,c1,rfl,hA1⟩:=hv1
 refine cv_of Tryz.func41 Z Z Z<|SQ<|RG<|AS Z Z<|ND<|SQ<|SQ<|RG<|MV Z Z<|rw_len Z tyE_S_impl_Candidate Z<|MV Z Z<|rw_len Z tyE_S_impl_Candidate Z<|NS Z Z Z<|ND<|CF Z Z<|SK<|SQ<|SQ<|RG<|AS Z Z<|ND<|BK<|?_
 refine gw_loopC (α:=Nat) (fun z_=>z_ ≤ l1.length) (fun z_=>l1.length - z_) (fun e z_=>(5,.int .i64 (z_ : Int)) :: e) 0 [(0,_),(1,_)] (Sub.consE Z Z (Sub.cons (i:=0) Z (Sub.cons (i:=1) Z (Sub.nil _)))) ?_ ?_
 ·exact Nat.zero_le _
 ·rintro i hI1 ih1
  try dsimp only
  have hle:=hI1
  refine SQ<|SQ<|RG<|MV Z Z<|MV Z Z<|rw_len Z tyE_S_impl_Candidate Z<|rw_lss Z Z Z<|ND<|?_
  refine gw_cond Z (fun h1=>?_) (fun h1=>?_)
  ·have hi2:=lt_of_dec h1
   obtain ⟨x3,hx3⟩:=get_of_lt hi2
   have hd3:=drop_cons hx3
   refine SK<|SQ<|BK<|SQ<|gw_draw' [dd 0,dd 1,dd 2,dd 3,dd 4,dd 5,dd 6,dd 7] [8] mixed Z (FD Z) (ts:=[_]) Z<|DM Z Z Z<|DM Z Z Z<|?_
   have hq4:=hA.plain hx3
   refine DT Z Z (fun _ q=>rw_indexAddr (i) Z tyE_S_impl_Candidate Z Z Z (hA.some hi2) hi2 q)<|DT Z Z (fun _ q=>rw_loadX_s [_,_,_] Z tyS_impl_Candidate Z Z (fun w hs=>hq4.lds0 (n:=3) hs Z) q)<|DM Z Z Z<|DM Z Z Z<|?_
   have hq5:=hA1.plain hx3
   refine DT Z Z (fun _ q=>rw_indexAddr (i) Z tyE_S_impl_Candidate Z Z Z (hA1.some hi2) hi2 q)<|DT Z Z (fun _ q=>rw_loadX_s [_,_,_] Z tyS_impl_Candidate Z Z (fun w hs=>hq5.lds0 (n:=3) hs Z) q)<|dw_nil<|rw_neqNF Z ⟨by kernel_rfl,by kernel_rfl,by kernel_rfl,by kernel_rfl⟩ tyQ_impl_Priority tyS_impl_Priority Z Z<|ND<|CF Z Z<|SK<|IB<|RG<|MV Z Z<|rw_add Z Z Z<|AS Z Z<|ND<|?_
   refine gw_sub (Sub.consE (i:=5) Z (int_succ (by omega)) (Sub.cons (i:=0) Z (Sub.cons (i:=1) Z (Sub.nil _)))) (ih1 (i + 1) ?_ ?_)
   ·omega
   ·show l1.length - (i + 1) < l1.length - i; omega
  have hn6:=nil_of_dec h1
  refine EX Z<|SQ<|RG<|AS Z Z<|ND<|RT Tryz.func41 Z Z<|?_
  rfl
set_option maxHeartbeats 16000000 in
set_option maxRecDepth 20000 in
theorem law_FnTables {w : World} {v : Value} {l : List UInt8} (hv : RdS w 1 (Pl byC) v l) : CV Tryz.prog 4 [v] w (.bool true) := by
 obtain ⟨A,cp,rfl,hA⟩:=hv
 refine cv_of Tryz.func4 Z Z Z<|SQ<|RG<|AS Z Z<|ND<|SQ<|SQ<|RG<|MV Z Z<|CV1 Z fun_laws_big Z (fun w hs=>laws_big (hA.s Pl.keeps hs))<|ND<|?_
 refine gw_cond Z (fun h1=>?_) (fun h1=>?_)
 ·refine SQ<|RG<|AS Z Z<|ND<|RT Tryz.func4 Z Z<|?_
  rfl
 have hl:=le_of_dec h1
 refine SK<|SQ<|RG<|MV Z Z<|CN1 Z fun_spec_DrawPutStream Z (fun w hs=>spec_DrawPutStream (hA.s Pl.keeps hs) hl)<|fun v2 ch2 how2=>?_
 obtain ⟨v2,o2,ch2,cs2,s2,chs2,rfl,how2,hF2,hlo2,hows2,hFs2,rfl⟩:=how2
 obtain ⟨R2,rc2,rfl,hR2,hrd2⟩:=how2.shape eStream
 obtain ⟨v2_0,v2_1,v2_2,v2_3,v2_4,c2_0,c2_1,c2_2,c2_3,c2_4,rfl,h2_0,h2_1,h2_2,h2_3,h2_4,rfl⟩:=hows2
 obtain ⟨R2_0,b2_0,rfl,hR2_0,hrd2_0⟩:=h2_0.shape eInt
 obtain ⟨R2_1,b2_1,rfl,hR2_1,hrd2_1⟩:=h2_1.shape eRange
 obtain ⟨R2_2,b2_2,rfl,hR2_2,hrd2_2⟩:=h2_2.shape eRange
 obtain ⟨R2_3,b2_3,rfl,hR2_3,hrd2_3⟩:=h2_3.shape eRange
 obtain ⟨R2_4,b2_4,rfl,hR2_4,hrd2_4⟩:=h2_4.shape eChunk
 refine rw_F (F':=ch2 ++ (c2_0 ++ (c2_1 ++ (c2_2 ++ (c2_3 ++ (c2_4 ++ ([]))))))) (by simp only [aN])<|?_
 obtain ⟨hbt3_0,hbt3_1,hbt3_2,hbt3_3,hbt3_4,hbt3_5⟩:=FineSt.le hFs2
 refine MV Z Z<|XT Z Z Z<|XT Z Z Z<|AL Z tyZ_impl_Stream<|fun b1=>AS Z Z<|rw_storeN (i:=0) [_,_,_,_,_,_,_,_,_,_,_,_,_,_,_,_,_,_,_,_,_,_,_,_,_,_,_,_,_,_,_,_,_,_,_,_,_,_,_] [_,_,_,_,_,_,_,_,_,_,_,_,_,_,_,_,_,_,_,_,_,_,_,_,_,_,_,_,_,_,_,_,_,_,_,_,_,_,_] [_] tyS_impl_Stream.sz Z Z Z Z Z Z Z Z Z<|ND<|SQ<|RG<|MV Z Z<|LS (i:=0) [_,_,_,_,_,_,_,_,_,_,_,_,_,_,_,_,_,_,_,_,_,_,_,_,_,_,_,_,_,_,_,_,_,_,_,_,_,_,_] Z tyS_impl_Stream Z Z Z Z<|?_
 refine CN1 Z fun_impl_PutStream Z (fun w hs=>impl_PutStream ⟨_,_,Z,hrd2 _ (fun c hc=>hs.at_ c (MR (ML hc)))⟩ (by omega) hF2.le ⟨_,_,_,_,_,Z,⟨_,_,Z,hrd2_0 _ (fun c hc=>hs.at_ c (MR (MR (ML hc))))⟩,⟨_,_,Z,hrd2_1 _ (fun c hc=>hs.at_ c (MR (MR (MR (ML hc)))))⟩,⟨_,_,Z,hrd2_2 _ (fun c hc=>hs.at_ c (MR (MR (MR (MR (ML hc))))))⟩,⟨_,_,Z,hrd2_3 _ (fun c hc=>hs.at_ c (MR (MR (MR (MR (MR (ML hc)))))))⟩,⟨_,_,Z,hrd2_4 _ (fun c hc=>hs.at_ c (MR (MR (MR (MR (MR (MR (ML hc))))))))⟩⟩ ⟨hbt3_0,hbt3_1,hbt3_2,hbt3_3,hbt3_4,hbt3_5⟩)<|fun v4 ch4 how4=>?_
 have hpl_ : (putS o2 s2).length ≤ 1048576:=Nat.le_trans (put_len _ _) (by omega)
 have hpf_:=((FineL.put hF2 hFs2)).le
 refine AS Z Z<|ND<|SQ<|RG<|MV Z Z<|LS (i:=0) [_,_,_,_,_,_,_,_,_,_,_,_,_,_,_,_,_,_,_,_,_,_,_,_,_,_,_,_,_,_,_,_,_,_,_,_,_,_,_] Z tyS_impl_Stream Z Z Z Z<|CN1 Z fun_spec_PutStream Z (fun w hs=>spec_PutStream ⟨_,_,Z,hrd2 _ (fun c hc=>hs.at_ c (MR (MR (ML hc))))⟩ (by omega) hF2.le ⟨_,_,_,_,_,Z,⟨_,_,Z,hrd2_0 _ (fun c hc=>hs.at_ c (MR (MR (MR (ML hc)))))⟩,⟨_,_,Z,hrd2_1 _ (fun c hc=>hs.at_ c (MR (MR (MR (MR (ML hc))))))⟩,⟨_,_,Z,hrd2_2 _ (fun c hc=>hs.at_ c (MR (MR (MR (MR (MR (ML hc)))))))⟩,⟨_,_,Z,hrd2_3 _ (fun c hc=>hs.at_ c (MR (MR (MR (MR (MR (MR (ML hc))))))))⟩,⟨_,_,Z,hrd2_4 _ (fun c hc=>hs.at_ c (MR (MR (MR (MR (MR (MR (MR (ML hc)))))))))⟩⟩ ⟨hbt3_0,hbt3_1,hbt3_2,hbt3_3,hbt3_4,hbt3_5⟩)<|fun v5 ch5 how5=>?_
 refine AS Z Z<|ND<|gw_sub (Sub.cons (i:=0) Z (Sub.cons (i:=2) Z (Sub.cons (i:=3) Z (Sub.cons (i:=4) Z (Sub.cons (i:=5) Z (Sub.cons (i:=6) Z (Sub.nil _)))))))<|SQ<|SQ<|RG<|MV Z Z<|MV Z Z<|CV1 Z fun_spec_EqualTables Z (fun w hs=>spec_EqualTables (how4.rdH eStream hs (fun c hc=>MR (MR (ML hc)))) hpl_ hpf_ ((OwA.s how5).rdH eStream hs (fun c hc=>MR (ML hc))) )<|NT Z Z<|MV Z Z<|?_
 refine rw_lit (j:=32) Z (not_T (tables_refl _))<|ON Z Z Z<|MV Z Z<|ON Z Z Z<|FA Z tyF_impl_Stream_0 Z<|ON Z Z Z<|LD (i:=0) Z tyP_int Z Z Z<|ON Z Z Z<|CV1 Z fun_impl_FindStream Z (fun w hs=>impl_FindStream ((OwA.s how5).rdH eStream hs (fun c hc=>MR (ML hc))) hpl_ _)<|ON Z Z Z<|rw_lss Z Z Z<|PF Z Z Z Z<|MV Z Z<|rw_lit (j:=39) Z (put_found _ _)<|ON Z Z Z<|?_
 refine MV Z Z<|ON Z Z Z<|CV1 Z fun_impl_AreStreams Z (fun w hs=>impl_AreStreams ⟨_,_,Z,hrd2 _ (fun c hc=>hs.at_ c (MR (MR (MR (ML hc)))))⟩ (by omega) hF2.le hlo2)<|ON Z Z Z<|MV Z Z<|ON Z Z Z<|CV1 Z fun_spec_AreStreams Z (fun w hs=>spec_AreStreams ⟨_,_,Z,hrd2 _ (fun c hc=>hs.at_ c (MR (MR (MR (ML hc)))))⟩ (by omega) hF2.le hlo2)<|?_
 refine ON Z Z Z<|rw_neqBF (by kernel_rfl) Z Z Z (are_same hF2)<|PF Z Z Z Z<|ND<|gw_sub (Sub.cons (i:=0) Z (Sub.cons (i:=2) Z (Sub.cons (i:=45) Z (Sub.nil _))))<|CF Z Z<|SK<|SQ<|RG<|MV Z Z<|CN1 Z fun_spec_DrawCandidatesOf Z (fun w hs=>spec_DrawCandidatesOf (hA.s Pl.keeps hs) hl)<|fun v6 ch6 how6=>?_
 obtain ⟨o6,how6,hF6,hlo6⟩:=how6
 obtain ⟨R6,rc6,rfl,hR6,hrd6⟩:=how6.shape eStream
 refine AS Z Z<|ND<|SQ<|RG<|AS Z Z<|ND<|SQ<|RG<|AS Z Z<|ND<|SQ<|SQ<|RG<|AS Z Z<|ND<|BK<|?_
 refine gw_loopC (α:=Nat × Int × Int) (fun z_=>z_.1 ≤ o6.length ∧ sumS (·.send.sent) 0 o6 = sumS (·.send.sent) z_.2.1 (o6.drop z_.1) ∧ sumS (·.recv.highest) 0 o6 = sumS (·.recv.highest) z_.2.2 (o6.drop z_.1)) (fun z_=>o6.length - z_.1) (fun e z_=>(10,.int .i64 (z_.1 : Int)) :: (8,.int .i64 z_.2.1) :: (9,.int .i64 z_.2.2) :: e) (0,0,0) [(0,_),(2,_),(7,_)] (Sub.consE Z Z (Sub.consE Z Z (Sub.consE Z Z (Sub.cons (i:=0) Z (Sub.cons (i:=2) Z (Sub.cons (i:=7) Z (Sub.nil _))))))) ?_ ?_
 ·exact ⟨Nat.zero_le _,rfl,rfl⟩
 ·rintro ⟨i,n,m⟩ hI7 ih7
  dsimp only at hI7
  dsimp only
  obtain ⟨hle,hI1,hI2⟩:=hI7
  refine SQ<|SQ<|RG<|MV Z Z<|MV Z Z<|rw_len Z tyE_S_impl_Stream Z<|rw_lss Z Z Z<|ND<|?_
  refine gw_cond Z (fun h2=>?_) (fun h2=>?_)
  ·have hi8:=lt_of_dec h2
   obtain ⟨x9,hx9⟩:=get_of_lt hi8
   have hd9:=drop_cons hx9
   refine SK<|SQ<|BK<|SQ<|RG<|MV Z Z<|MV Z Z<|MV Z Z<|rw_indexAddr (i) Z tyE_S_impl_Stream Z Z Z (hR6 (Nat.zero_lt_of_lt hi8)) hi8<|FX Z tyF_impl_Stream_1 Z<|FX Z tyF_impl_Sender_7 Z<|rw_loadX _ Z tyP_int Z (fun w hs=>st_sent (hrd6 _ (fun c hc=>hs.at_ c (MR (ML hc)))) hx9)<|rw_add Z Z Z<|AS Z Z<|ND<|gw_sub (Sub.cons (i:=0) Z (Sub.cons (i:=2) Z (Sub.cons (i:=7) Z (Sub.cons (i:=8) Z (Sub.cons (i:=9) Z (Sub.cons (i:=10) Z (Sub.nil _)))))))<|?_
   refine RG<|MV Z Z<|MV Z Z<|MV Z Z<|rw_indexAddr (i) Z tyE_S_impl_Stream Z Z Z (hR6 (Nat.zero_lt_of_lt hi8)) hi8<|FX Z tyF_impl_Stream_3 Z<|FX Z tyF_impl_Receiver_3 Z<|rw_loadX _ Z tyP_int Z (fun w hs=>st_high (hrd6 _ (fun c hc=>hs.at_ c (MR (ML hc)))) hx9)<|rw_add Z Z Z<|AS Z Z<|ND<|IB<|RG<|MV Z Z<|rw_add Z Z Z<|AS Z Z<|ND<|?_
   refine gw_sub (Sub.consE (i:=10) Z (int_succ (by omega)) (Sub.consE (i:=8) Z Z (Sub.consE (i:=9) Z Z (Sub.cons (i:=0) Z (Sub.cons (i:=2) Z (Sub.cons (i:=7) Z (Sub.nil _))))))) (ih7 (i + 1,w64 (n + x9.send.sent),w64 (m + x9.recv.highest)) ?_ ?_)
   ·exact ⟨by omega,by rw [hI1,hd9]; rfl,by rw [hI2,hd9]; rfl⟩
   ·show o6.length - (i + 1) < o6.length - i; omega
  have hn10:=nil_of_dec h2
  refine EX Z<|SQ<|SQ<|RG<|MV Z Z<|?_
  have hs1_ : n = sumS (·.send.sent) 0 o6:=by rw [hI1,hn10]; rfl
  have hs2_ : m = sumS (·.recv.highest) 0 o6:=by rw [hI2,hn10]; rfl
  refine CV1 Z fun_spec_AreStreams Z (fun w hs=>spec_AreStreams ⟨_,_,Z,hrd6 _ (fun c hc=>hs.at_ c (MR (ML hc)))⟩ (by omega) hF6.le hlo6)<|MV Z Z<|?_
  refine rw_caseL (j:=72) Z (fun h3=>?_) (fun h3=>?_)
  ·refine ON Z Z Z<|MV Z Z<|ON Z Z Z<|CV1 Z fun_impl_SentTotal Z (fun w hs=>impl_SentTotal ⟨_,_,Z,hrd6 _ (fun c hc=>hs.at_ c (MR (ML hc)))⟩ (by omega) hF6.le hlo6)<|ON Z Z Z<|MV Z Z<|ON Z Z Z<|rw_neqIF Z Z Z (sent_tot hF6 hlo6 h3 hs1_)<|ON Z Z Z<|MV Z Z<|ON Z Z Z<|MV Z Z<|ON Z Z Z<|CV1 Z fun_impl_SeenTotal Z (fun w hs=>impl_SeenTotal ⟨_,_,Z,hrd6 _ (fun c hc=>hs.at_ c (MR (ML hc)))⟩ (by omega) hF6.le hlo6)<|?_
   refine ON Z Z Z<|MV Z Z<|ON Z Z Z<|rw_neqIF Z Z Z (high_tot hF6 hlo6 h3 hs2_)<|ON Z Z Z<|PF Z Z Z Z<|PT Z Z Z Z<|MV Z Z<|ON Z Z Z<|MV Z Z<|ON Z Z Z<|CV1 Z fun_impl_SentTotal Z (fun w hs=>impl_SentTotal ⟨_,_,Z,hrd6 _ (fun c hc=>hs.at_ c (MR (ML hc)))⟩ (by omega) hF6.le hlo6)<|ON Z Z Z<|MV Z Z<|ON Z Z Z<|CV1 Z fun_spec_SentTotal Z (fun w hs=>spec_SentTotal ⟨_,_,Z,hrd6 _ (fun c hc=>hs.at_ c (MR (ML hc)))⟩ (by omega) hF6.le hlo6)<|?_
   refine ON Z Z Z<|rw_neqIF Z Z Z (tot_same hF6)<|PF Z Z Z Z<|MV Z Z<|ON Z Z Z<|MV Z Z<|ON Z Z Z<|CV1 Z fun_impl_SeenTotal Z (fun w hs=>impl_SeenTotal ⟨_,_,Z,hrd6 _ (fun c hc=>hs.at_ c (MR (ML hc)))⟩ (by omega) hF6.le hlo6)<|ON Z Z Z<|MV Z Z<|ON Z Z Z<|CV1 Z fun_spec_SeenTotal Z (fun w hs=>spec_SeenTotal ⟨_,_,Z,hrd6 _ (fun c hc=>hs.at_ c (MR (ML hc)))⟩ (by omega) hF6.le hlo6)<|?_
   refine ON Z Z Z<|rw_neqIF Z Z Z (tot_same hF6)<|PF Z Z Z Z<|ND<|gw_sub (Sub.cons (i:=0) Z (Sub.cons (i:=2) Z (Sub.cons (i:=7) Z (Sub.cons (i:=97) Z (Sub.nil _)))))<|CF Z Z<|SK<|SQ<|RG<|MV Z Z<|CN1 Z fun_spec_DrawFindStream Z (fun w hs=>spec_DrawFindStream (hA.s Pl.keeps hs) hl)<|fun v11 ch11 how11=>?_
   obtain ⟨v11,o11,id11,rfl,how11,hF11,hlo11⟩:=how11
   obtain ⟨R11,rc11,rfl,hR11,hrd11⟩:=how11.shape eStream
   refine MV Z Z<|XT Z Z Z<|XT Z Z Z<|AS Z Z<|AS Z Z<|ND<|SQ<|RG<|MV Z Z<|CN1 Z fun_spec_DrawEqualTables Z (fun w hs=>spec_DrawEqualTables (hA.s Pl.keeps hs) hl)<|fun v12 ch12 how12=>?_
   obtain ⟨v12,oa12,vb12,ob12,rfl,hrp12,hFa12,hla12,hFb12,hlb12⟩:=how12
   refine MV Z Z<|XT Z Z Z<|XT Z Z Z<|AS Z Z<|AS Z Z<|ND<|gw_sub (Sub.cons (i:=2) Z (Sub.cons (i:=7) Z (Sub.cons (i:=11) Z (Sub.cons (i:=12) Z (Sub.cons (i:=13) Z (Sub.cons (i:=14) Z (Sub.nil _)))))))<|SQ<|RG<|MV Z Z<|CN1 Z fun_impl_CandidatesOf Z (fun w hs=>impl_CandidatesOf ⟨_,_,Z,hrd6 _ (fun c hc=>hs.at_ c (MR (MR (MR (ML hc)))))⟩ (by omega) hF6.le hlo6)<|fun v13 ch13 how13=>?_
   obtain ⟨R13,rc13,rfl,hR13,hrd13⟩:=how13.shape eCandidate
   refine MV Z Z<|CN1 Z fun_spec_CandidatesOf Z (fun w hs=>spec_CandidatesOf ⟨_,_,Z,hrd6 _ (fun c hc=>hs.at_ c (MR (MR (MR (MR (ML hc))))))⟩ (by omega) hF6.le hlo6)<|fun v14 ch14 how14=>?_
   obtain ⟨R14,rc14,rfl,hR14,hrd14⟩:=how14.shape eCandidate
   refine CV1 Z fun_laws_sameIds Z (fun w hs=>laws_sameIds ⟨_,_,Z,hrd13 _ (fun c hc=>hs.at_ c (MR (MR (ML hc))))⟩ (Nat.le_trans (cand_if_len hlo6) (by decide)) ⟨_,_,Z,hrd14 _ (fun c hc=>hs.at_ c (MR (ML hc)))⟩ (cand_eq hF6))<|MV Z Z<|ON Z Z Z<|MV Z Z<|ON Z Z Z<|CV1 Z fun_impl_CountOver Z (fun w hs=>impl_CountOver ⟨_,_,Z,hrd6 _ (fun c hc=>hs.at_ c (MR (MR (MR (MR (MR (ML hc)))))))⟩ (by omega) hF6.le)<|?_
   refine ON Z Z Z<|MV Z Z<|ON Z Z Z<|CV1 Z fun_spec_CountOver Z (fun w hs=>spec_CountOver ⟨_,_,Z,hrd6 _ (fun c hc=>hs.at_ c (MR (MR (MR (MR (MR (ML hc)))))))⟩ (by omega) hF6.le)<|ON Z Z Z<|rw_eqlIT Z Z Z Z<|PT Z Z Z Z<|MV Z Z<|ON Z Z Z<|MV Z Z<|ON Z Z Z<|MV Z Z<|ON Z Z Z<|?_
   refine CV1 Z fun_impl_FindStream Z (fun w hs=>impl_FindStream ⟨_,_,Z,hrd11 _ (fun c hc=>hs.at_ c (MR (MR (MR (MR (ML hc))))))⟩ (by omega) _)<|ON Z Z Z<|MV Z Z<|ON Z Z Z<|MV Z Z<|ON Z Z Z<|CV1 Z fun_spec_FindStream Z (fun w hs=>spec_FindStream ⟨_,_,Z,hrd11 _ (fun c hc=>hs.at_ c (MR (MR (MR (MR (ML hc))))))⟩ (by omega) _)<|?_
   refine ON Z Z Z<|rw_eqlIT Z Z Z Z<|PT Z Z Z Z<|MV Z Z<|ON Z Z Z<|MV Z Z<|ON Z Z Z<|MV Z Z<|ON Z Z Z<|CV1 Z fun_impl_EqualTables Z (fun w hs=>impl_EqualTables (hrp12 _ (fun c hc=>hs.at_ c (MR (MR (MR (ML hc)))))).1 (by omega) hFa12.le (hrp12 _ (fun c hc=>hs.at_ c (MR (MR (MR (ML hc)))))).2 )<|?_
   refine ON Z Z Z<|MV Z Z<|ON Z Z Z<|MV Z Z<|ON Z Z Z<|CV1 Z fun_spec_EqualTables Z (fun w hs=>spec_EqualTables (hrp12 _ (fun c hc=>hs.at_ c (MR (MR (MR (ML hc)))))).1 (by omega) hFa12.le (hrp12 _ (fun c hc=>hs.at_ c (MR (MR (MR (ML hc)))))).2 )<|ON Z Z Z<|rw_eqlBT (by kernel_rfl) Z Z Z Z<|PT Z Z Z Z<|?_
   refine AS Z Z<|ND<|gw_sub (Sub.cons (i:=2) Z (Sub.nil _))<|RT Tryz.func4 Z Z<|?_
   rfl
  refine SKP Z<|PF Z Z Z Z<|MV Z Z<|ON Z Z Z<|MV Z Z<|ON Z Z Z<|CV1 Z fun_impl_SentTotal Z (fun w hs=>impl_SentTotal ⟨_,_,Z,hrd6 _ (fun c hc=>hs.at_ c (MR (ML hc)))⟩ (by omega) hF6.le hlo6)<|ON Z Z Z<|MV Z Z<|ON Z Z Z<|CV1 Z fun_spec_SentTotal Z (fun w hs=>spec_SentTotal ⟨_,_,Z,hrd6 _ (fun c hc=>hs.at_ c (MR (ML hc)))⟩ (by omega) hF6.le hlo6)<|ON Z Z Z<|?_
  refine rw_neqIF Z Z Z (tot_same hF6)<|PF Z Z Z Z<|MV Z Z<|ON Z Z Z<|MV Z Z<|ON Z Z Z<|CV1 Z fun_impl_SeenTotal Z (fun w hs=>impl_SeenTotal ⟨_,_,Z,hrd6 _ (fun c hc=>hs.at_ c (MR (ML hc)))⟩ (by omega) hF6.le hlo6)<|ON Z Z Z<|MV Z Z<|ON Z Z Z<|CV1 Z fun_spec_SeenTotal Z (fun w hs=>spec_SeenTotal ⟨_,_,Z,hrd6 _ (fun c hc=>hs.at_ c (MR (ML hc)))⟩ (by omega) hF6.le hlo6)<|?_
  refine ON Z Z Z<|rw_neqIF Z Z Z (tot_same hF6)<|PF Z Z Z Z<|ND<|gw_sub (Sub.cons (i:=0) Z (Sub.cons (i:=2) Z (Sub.cons (i:=7) Z (Sub.cons (i:=97) Z (Sub.nil _)))))<|CF Z Z<|SK<|SQ<|RG<|MV Z Z<|CN1 Z fun_spec_DrawFindStream Z (fun w hs=>spec_DrawFindStream (hA.s Pl.keeps hs) hl)<|fun v15 ch15 how15=>?_
  obtain ⟨v15,o15,id15,rfl,how15,hF15,hlo15⟩:=how15
  obtain ⟨R15,rc15,rfl,hR15,hrd15⟩:=how15.shape eStream
  refine MV Z Z<|XT Z Z Z<|XT Z Z Z<|AS Z Z<|AS Z Z<|ND<|SQ<|RG<|MV Z Z<|CN1 Z fun_spec_DrawEqualTables Z (fun w hs=>spec_DrawEqualTables (hA.s Pl.keeps hs) hl)<|fun v16 ch16 how16=>?_
  obtain ⟨v16,oa16,vb16,ob16,rfl,hrp16,hFa16,hla16,hFb16,hlb16⟩:=how16
  refine MV Z Z<|XT Z Z Z<|XT Z Z Z<|AS Z Z<|AS Z Z<|ND<|gw_sub (Sub.cons (i:=2) Z (Sub.cons (i:=7) Z (Sub.cons (i:=11) Z (Sub.cons (i:=12) Z (Sub.cons (i:=13) Z (Sub.cons (i:=14) Z (Sub.nil _)))))))<|SQ<|RG<|MV Z Z<|CN1 Z fun_impl_CandidatesOf Z (fun w hs=>impl_CandidatesOf ⟨_,_,Z,hrd6 _ (fun c hc=>hs.at_ c (MR (MR (MR (ML hc)))))⟩ (by omega) hF6.le hlo6)<|fun v17 ch17 how17=>?_
  obtain ⟨R17,rc17,rfl,hR17,hrd17⟩:=how17.shape eCandidate
  refine MV Z Z<|CN1 Z fun_spec_CandidatesOf Z (fun w hs=>spec_CandidatesOf ⟨_,_,Z,hrd6 _ (fun c hc=>hs.at_ c (MR (MR (MR (MR (ML hc))))))⟩ (by omega) hF6.le hlo6)<|fun v18 ch18 how18=>?_
  obtain ⟨R18,rc18,rfl,hR18,hrd18⟩:=how18.shape eCandidate
  refine CV1 Z fun_laws_sameIds Z (fun w hs=>laws_sameIds ⟨_,_,Z,hrd17 _ (fun c hc=>hs.at_ c (MR (MR (ML hc))))⟩ (Nat.le_trans (cand_if_len hlo6) (by decide)) ⟨_,_,Z,hrd18 _ (fun c hc=>hs.at_ c (MR (ML hc)))⟩ (cand_eq hF6))<|MV Z Z<|ON Z Z Z<|MV Z Z<|ON Z Z Z<|CV1 Z fun_impl_CountOver Z (fun w hs=>impl_CountOver ⟨_,_,Z,hrd6 _ (fun c hc=>hs.at_ c (MR (MR (MR (MR (MR (ML hc)))))))⟩ (by omega) hF6.le)<|?_
  refine ON Z Z Z<|MV Z Z<|ON Z Z Z<|CV1 Z fun_spec_CountOver Z (fun w hs=>spec_CountOver ⟨_,_,Z,hrd6 _ (fun c hc=>hs.at_ c (MR (MR (MR (MR (MR (ML hc)))))))⟩ (by omega) hF6.le)<|ON Z Z Z<|rw_eqlIT Z Z Z Z<|PT Z Z Z Z<|MV Z Z<|ON Z Z Z<|MV Z Z<|ON Z Z Z<|MV Z Z<|ON Z Z Z<|?_
  refine CV1 Z fun_impl_FindStream Z (fun w hs=>impl_FindStream ⟨_,_,Z,hrd15 _ (fun c hc=>hs.at_ c (MR (MR (MR (MR (ML hc))))))⟩ (by omega) _)<|ON Z Z Z<|MV Z Z<|ON Z Z Z<|MV Z Z<|ON Z Z Z<|CV1 Z fun_spec_FindStream Z (fun w hs=>spec_FindStream ⟨_,_,Z,hrd15 _ (fun c hc=>hs.at_ c (MR (MR (MR (MR (ML hc))))))⟩ (by omega) _)<|?_
  refine ON Z Z Z<|rw_eqlIT Z Z Z Z<|PT Z Z Z Z<|MV Z Z<|ON Z Z Z<|MV Z Z<|ON Z Z Z<|MV Z Z<|ON Z Z Z<|CV1 Z fun_impl_EqualTables Z (fun w hs=>impl_EqualTables (hrp16 _ (fun c hc=>hs.at_ c (MR (MR (MR (ML hc)))))).1 (by omega) hFa16.le (hrp16 _ (fun c hc=>hs.at_ c (MR (MR (MR (ML hc)))))).2 )<|?_
  refine ON Z Z Z<|MV Z Z<|ON Z Z Z<|MV Z Z<|ON Z Z Z<|CV1 Z fun_spec_EqualTables Z (fun w hs=>spec_EqualTables (hrp16 _ (fun c hc=>hs.at_ c (MR (MR (MR (ML hc)))))).1 (by omega) hFa16.le (hrp16 _ (fun c hc=>hs.at_ c (MR (MR (MR (ML hc)))))).2 )<|ON Z Z Z<|rw_eqlBT (by kernel_rfl) Z Z Z Z<|PT Z Z Z Z<|?_
  refine AS Z Z<|ND<|gw_sub (Sub.cons (i:=2) Z (Sub.nil _))<|RT Tryz.func4 Z Z<|?_
  rfl
end Go.Proofs.YtbhnekiclbfmgaaGreat
