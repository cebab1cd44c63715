/- Walks: draws. -/
import Derived.Test.YtbhnekiclbfmgaaGreatFactsX
import Derived.Test.YtbhnekiclbfmgaaGreatOver
import Derived.Test.YtbhnekiclbfmgaaGreatDraw
import Derived.Test.YtbhnekiclbfmgaaGreatSh
import Derived.Test.YtbhnekiclbfmgaaGreatSlq
import Derived.Test.YtbhnekiclbfmgaaGreatSlh
import Derived.Test.YtbhnekiclbfmgaaGreatElems
import Derived.Test.YtbhnekiclbfmgaaGreatSlw
import Derived.Test.YtbhnekiclbfmgaaGreatNewSS
import Derived.Test.YtbhnekiclbfmgaaGreatPut
import Derived.Test.YtbhnekiclbfmgaaGreatSlx
import Derived.Test.YtbhnekiclbfmgaaGreatSls
import Derived.Test.YtbhnekiclbfmgaaGreatMerge
import Derived.Test.YtbhnekiclbfmgaaGreatSlt
import Derived.Test.YtbhnekiclbfmgaaGreatSly
import Derived.Test.YtbhnekiclbfmgaaGreatCur
namespace Go.Proofs.YtbhnekiclbfmgaaGreat
open SL Go.RowKit
theorem spec_l3Fine (r : Range) (w : World) : CV Tryz.prog 166 [.agg r.cells.toArray] w (.bool (isRange r)) := by
 refine cv_of Tryz.func166 Z Z Z<|SQ<|RG<|BX [_,_] Z Z Z<|fun b1=>AS Z Z<|ND<|SQ<|RG<|FA Z tyF_impl_Range_0 Z<|LD (i:=0) Z tyP_int Z Z Z<|rw_geq Z Z Z<|MV Z Z<|?_
 refine rw_caseL (j:=6) Z (fun h1=>?_) (fun h1=>?_)
 ·refine ON Z Z Z<|FA Z tyF_impl_Range_0 Z<|ON Z Z Z<|LD (i:=0) Z tyP_int Z Z Z<|ON Z Z Z<|FA Z tyF_impl_Range_1 Z<|ON Z Z Z<|LD (i:=0) Z tyP_int Z Z Z<|ON Z Z Z<|rw_lss Z Z Z<|PT Z Z Z Z<|MV Z Z<|?_
  refine rw_caseL (j:=13) Z (fun h2=>?_) (fun h2=>?_)
  ·refine ON Z Z Z<|FA Z tyF_impl_Range_1 Z<|ON Z Z Z<|LD (i:=0) Z tyP_int Z Z Z<|ON Z Z Z<|rw_leq Z Z Z<|PT Z Z Z Z<|AS Z Z<|ND<|RT Tryz.func166 Z Z<|?_
   simp only [isRange,h1,h2] <;> rfl
  refine SKP Z<|PF Z Z Z Z<|AS Z Z<|ND<|RT Tryz.func166 Z Z<|?_
  simp only [isRange,h1,h2] <;> rfl
 refine SKP Z<|PF Z Z Z Z<|MV Z Z<|SKP Z<|PF Z Z Z Z<|AS Z Z<|ND<|RT Tryz.func166 Z Z<|?_
 simp only [isRange,h1] <;> rfl
theorem spec_IsRanges {w : World} {v : Value} {l : List Range} (hv : RdS w 2 (Pl Range.cells) v l) (hb : l.length ≤ 4194304) : CV Tryz.prog 134 [v] w (.bool (isRanges l)) := by
 obtain ⟨A,c,rfl,hA⟩:=hv
 refine cv_of Tryz.func134 Z Z Z<|SQ<|RG<|AS Z Z<|ND<|SQ<|SQ<|RG<|AS Z Z<|ND<|BK<|?_
 refine gw_loopC (α:=Nat) (fun z_=>z_ ≤ l.length ∧ isRanges l = rangesFrom (prevOf l z_) (l.drop z_)) (fun z_=>l.length - z_) (fun e z_=>(3,.int .i64 (z_ : Int)) :: e) 0 [(0,_)] (Sub.consE Z Z (Sub.cons (i:=0) Z (Sub.nil _))) ?_ ?_
 ·exact ⟨Nat.zero_le _,rfl⟩
 ·rintro i hI1 ih1
  try dsimp only
  obtain ⟨hle,hI⟩:=hI1
  refine SQ<|SQ<|RG<|MV Z Z<|MV Z Z<|rw_len Z tyE_S_impl_Range Z<|rw_lss Z Z Z<|ND<|?_
  refine gw_cond Z (fun h1=>?_) (fun h1=>?_)
  ·have hi2:=lt_of_dec h1
   obtain ⟨x3,hx3⟩:=get_of_lt hi2
   have hd3:=drop_cons hx3
   refine SK<|SQ<|BK<|SQ<|gw_draw' [dd 0,dd 1,dd 2,dd 3,dd 4,dd 5,dd 6,dd 7,dd 8,dd 9,dd 10,dd 11,dd 12,dd 13,dd 14,dd 15,dd 16,dd 17,dd 18,dd 19,dd 20] [21,22,23] mixed Z (FD Z) (ts:=[_,_,_]) Z<|DM Z Z Z<|DM Z Z Z<|?_
   have hq4:=hA.plain hx3
   refine DT Z Z (fun _ q=>rw_indexAddr (i) Z tyE_S_impl_Range Z Z Z (hA.some hi2) hi2 q)<|DT Z Z (fun _ q=>rw_loadX_s [_,_] Z tyS_impl_Range Z Z (fun w hs=>hq4.lds0 (n:=2) hs Z) q)<|DT Z Z (fun _ q=>CV1 Z fun_spec_l3Fine Z (fun w hs=>spec_l3Fine _ w) q)<|DT Z Z (fun _ q=>NT Z Z q)<|DM Z Z Z<|?_
   refine dw_caseN (j:=16) Z (fun h2=>?_) (fun h2=>?_)
   ·refine DSK Z<|dw_nil<|SKP Z<|PT Z Z Z Z<|ND<|CT Z Z<|SQ<|RG<|AS Z Z<|ND<|RT Tryz.func134 Z Z<|?_
    rw [hI,hd3]; simp [rangesFrom,h2]
   refine DT Z Z (fun _ q=>ON Z Z Z (MV Z Z q))<|DT Z Z (fun _ q=>ON Z Z Z (rw_gtr Z Z Z q))<|DT Z Z (fun _ q=>ON Z Z Z (MV Z Z q))<|?_
   refine dw_caseL (j:=19) Z (fun h3=>?_) (fun h3=>?_)
   ·have hp5:=pos_of h3
    refine DT Z Z (fun _ q=>ON Z Z Z (MV Z Z q))<|DT Z Z (fun _ q=>ON Z Z Z (MV Z Z q))<|DT Z Z (fun _ q=>ON Z Z Z (rw_sub Z Z Z q))<|?_
    have hi6 : i - 1 < l.length:=by omega
    obtain ⟨x7,hx7⟩:=get_of_lt hi6
    have hd7:=drop_cons hx7
    have hq8:=hA.plain hx7
    refine DT Z Z (fun _ q=>ON Z Z Z (rw_indexAddr (i - 1) Z tyE_S_impl_Range Z Z (pred_of h3 (by omega)) (hA.some hi6) hi6 q))<|DT Z Z (fun _ q=>ON Z Z Z (FX Z tyF_impl_Range_1 Z q))<|DT Z Z (fun _ q=>ON Z Z Z (rw_loadX _ Z tyP_int Z (fun w hs=>hq8.ld hs Z) q))<|DT Z Z (fun _ q=>ON Z Z Z (MV Z Z q))<|DT Z Z (fun _ q=>ON Z Z Z (MV Z Z q))<|DT Z Z (fun _ q=>ON Z Z Z (rw_indexAddr (i) Z tyE_S_impl_Range Z Z Z (hA.some hi2) hi2 q))<|?_
    refine DT Z Z (fun _ q=>ON Z Z Z (FX Z tyF_impl_Range_0 Z q))<|DT Z Z (fun _ q=>ON Z Z Z (rw_loadX _ Z tyP_int Z (fun w hs=>hq4.ld hs Z) q))<|dw_nil<|ON Z Z Z<|rw_geq Z Z Z<|ON Z Z Z<|PT Z Z Z Z<|PF Z Z Z Z<|ND<|?_
    refine gw_cond Z (fun h4=>?_) (fun h4=>?_)
    ·refine SQ<|RG<|AS Z Z<|ND<|RT Tryz.func134 Z Z<|?_
     rw [hI,hd3]; simp [rangesFrom,h2,h4,prevOf_pos hp5 hx7]
    refine SK<|IB<|RG<|MV Z Z<|rw_add Z Z Z<|AS Z Z<|ND<|?_
    refine gw_sub (Sub.consE (i:=3) Z (int_succ (by omega)) (Sub.cons (i:=0) Z (Sub.nil _))) (ih1 (i + 1) ?_ ?_)
    ·exact ⟨by omega,by rw [hI,hd3,prevOf_succ,hx3]; simp [rangesFrom,h2,h4,prevOf_pos hp5 hx7]⟩
    ·show l.length - (i + 1) < l.length - i; omega
   have hz9:=zero_of h3
   refine DSK Z<|dw_nil<|OF Z Z Z Z<|ON Z Z Z<|PF Z Z Z Z<|PF Z Z Z Z<|ND<|CF Z Z<|SK<|IB<|RG<|MV Z Z<|rw_add Z Z Z<|AS Z Z<|ND<|?_
   refine gw_sub (Sub.consE (i:=3) Z (int_succ (by omega)) (Sub.cons (i:=0) Z (Sub.nil _))) (ih1 (i + 1) ?_ ?_)
   ·exact ⟨by omega,by rw [hI,hd3,prevOf_succ,hx3]; simp [rangesFrom,h2,prevOf_z (l:=l) hz9]⟩
   ·show l.length - (i + 1) < l.length - i; omega
  have hn10:=nil_of_dec h1
  refine EX Z<|SQ<|RG<|AS Z Z<|ND<|RT Tryz.func134 Z Z<|?_
  rw [hI,hn10]; rfl
theorem spec_l3Copy {w : World} {v : Value} {l : List Range} (hv : RdS w 2 (Pl Range.cells) v l) (hb : l.length ≤ 4194304) : CN Tryz.prog 164 [v] w (fun v ch => OwA 132 2 (PlO Range.cells) v l ch) := by
 obtain ⟨A,c,rfl,hA⟩:=hv
 refine cn_of Tryz.func164 Z Z Z<|SQ<|RG<|AS Z Z<|ND<|SQ<|RG<|rw_slice0 Z tyM_S_impl_Range (PlO Range.cells)<|fun v1 how1=>MV Z Z<|rw_appendP Z tyM_S_impl_Range eRange (fun _=>Z) Z Z how1 (fun w hs=>hA.sat Pl.keeps hs) (.refl _) (by first | omega | (simp; omega))<|fun v2 ch2 how2=>AS Z Z<|ND<|?_
 refine ret_cn ch2 Tryz.func164 (res1 Tryz.func164 Z (rv_tmp Z)) ?_ ?_
 ·exact how2
 ·simp
theorem spec_RemoveRange {w : World} {v : Value} {l : List Range} (hv : RdS w 2 (Pl Range.cells) v l) (hb : l.length ≤ 4194304) (r : Range) : CN Tryz.prog 197 [v, .agg r.cells.toArray] w (fun v ch => OwS 132 2 (PlO Range.cells) v (removeRange l r) ch) := by
 obtain ⟨A,c,rfl,hA⟩:=hv
 refine cn_of Tryz.func197 Z Z Z<|SQ<|RG<|BX [_,_] Z Z Z<|fun b1=>AS Z Z<|ND<|SQ<|SQ<|RG<|MV Z Z<|CV1 Z fun_spec_IsRanges Z (fun w hs=>spec_IsRanges (hA.s Pl.keeps hs) (by omega))<|NT Z Z<|MV Z Z<|?_
 refine rw_caseN (j:=10) Z (fun h1=>?_) (fun h1=>?_)
 ·refine SKP Z<|PT Z Z Z Z<|ND<|CT Z Z<|SQ<|RG<|MV Z Z<|CN1 Z fun_spec_l3Copy Z (fun w hs=>spec_l3Copy (hA.s Pl.keeps hs) (by omega))<|fun v1 ch1 how1=>AS Z Z<|ND<|?_
  refine ret_cn ch1 Tryz.func197 (res1 Tryz.func197 Z (rv_tmp Z)) ?_ ?_
  ·have hm : removeRange l r = l:=by simp [removeRange,h1]
   rw [hm]; exact OwA.s how1
  ·simp
 refine ON Z Z Z<|LS (i:=0) [_,_] Z tyS_impl_Range Z Z Z Z<|ON Z Z Z<|CV1 Z fun_spec_l3Fine Z (fun w hs=>spec_l3Fine _ w)<|ON Z Z Z<|NT Z Z<|PF Z Z Z Z<|ND<|?_
 refine gw_condN Z (fun h2=>?_) (fun h2=>?_)
 ·refine SQ<|RG<|MV Z Z<|CN1 Z fun_spec_l3Copy Z (fun w hs=>spec_l3Copy (hA.s Pl.keeps hs) (by omega))<|fun v2 ch2 how2=>AS Z Z<|ND<|?_
  refine ret_cn ch2 Tryz.func197 (res1 Tryz.func197 Z (rv_tmp Z)) ?_ ?_
  ·have hm : removeRange l r = l:=by simp [removeRange,h1,h2]
   rw [hm]; exact OwA.s how2
  ·simp
 refine SK<|SQ<|RG<|rw_slice0 Z tyM_S_impl_Range (PlO Range.cells)<|fun v3 how3=>AS Z Z<|ND<|SQ<|SQ<|RG<|AS Z Z<|ND<|BK<|?_
 refine gw_loopX (α:=Nat × List Range × Value × List Ck) (fun z_=>z_.1 ≤ l.length ∧ z_.2.1.length ≤ 2 * z_.1 ∧ OwA 132 2 (PlO Range.cells) z_.2.2.1 z_.2.1 z_.2.2.2 ∧ removeRange l r = z_.2.1 ++ rmGo r (l.drop z_.1)) (fun z_=>l.length - z_.1) (fun e z_=>(6,.int .i64 (z_.1 : Int)) :: (5,z_.2.2.1) :: e) (fun B _=>B) (fun F z_=>z_.2.2.2 ++ F) (0,[],v3,[]) [(0,_),(3,_),(4,_)] (Sub.consE Z Z (Sub.consE Z Z (Sub.cons (i:=0) Z (Sub.cons (i:=3) Z (Sub.cons (i:=4) Z (Sub.nil _)))))) Z Z ?_ ?_
 ·exact ⟨Nat.zero_le _,Nat.le_refl _,how3,by simp [removeRange,h1,h2]⟩
 ·rintro ⟨i,o,v,ch⟩ hI4 ih4
  dsimp only at hI4
  dsimp only
  obtain ⟨hle,ho,hO,hI⟩:=hI4
  refine SQ<|SQ<|RG<|MV Z Z<|MV Z Z<|rw_len Z tyE_S_impl_Range Z<|rw_lss Z Z Z<|ND<|?_
  refine gw_cond Z (fun h3=>?_) (fun h3=>?_)
  ·have hi5:=lt_of_dec h3
   obtain ⟨x6,hx6⟩:=get_of_lt hi5
   have hd6:=drop_cons hx6
   refine SK<|SQ<|BK<|SQ<|SQ<|gw_draw' [dd 0,dd 1,dd 2,dd 3,dd 4,dd 5,dd 6,dd 7,dd 8,dd 9,dd 10,dd 11,dd 12] [13] mixed Z (FD Z) (ts:=[_]) Z<|DM Z Z Z<|DM Z Z Z<|?_
   have hq7:=hA.plain hx6
   refine DT Z Z (fun _ q=>rw_indexAddr (i) Z tyE_S_impl_Range Z Z Z (hA.some hi5) hi5 q)<|DT Z Z (fun _ q=>FX Z tyF_impl_Range_0 Z q)<|DT Z Z (fun _ q=>rw_loadX _ Z tyP_int Z (fun w hs=>hq7.ld hs Z) q)<|DM Z Z Z<|DM Z Z Z<|DT Z Z (fun _ q=>rw_indexAddr (i) Z tyE_S_impl_Range Z Z Z (hA.some hi5) hi5 q)<|DT Z Z (fun _ q=>FX Z tyF_impl_Range_1 Z q)<|DT Z Z (fun _ q=>rw_loadX _ Z tyP_int Z (fun w hs=>hq7.ld hs Z) q)<|?_
   refine DT Z Z (fun _ q=>FA Z tyF_impl_Range_0 Z q)<|DT Z Z (fun _ q=>LD (i:=0) Z tyP_int Z Z Z q)<|DT Z Z (fun _ q=>rw_min Z Z Z q)<|dw_nil<|rw_lss Z Z Z<|ND<|?_
   refine gw_cond Z (fun h4=>?_) (fun h4=>?_)
   ·refine gw_draw' [dd 0,dd 1,dd 2,dd 3,dd 4,dd 5,dd 6,dd 7,dd 8,dd 9,dd 10,dd 11,dd 12,dd 13,dd 14,(15,.add)] [16,17] mixed Z (FD Z) (ts:=[_,_]) Z<|DM Z Z Z<|DM Z Z Z<|DM Z Z Z<|DT Z Z (fun _ q=>rw_indexAddr (i) Z tyE_S_impl_Range Z Z Z (hA.some hi5) hi5 q)<|DT Z Z (fun _ q=>FX Z tyF_impl_Range_0 Z q)<|DT Z Z (fun _ q=>rw_loadX _ Z tyP_int Z (fun w hs=>hq7.ld hs Z) q)<|?_
    refine DM Z Z Z<|DM Z Z Z<|DT Z Z (fun _ q=>rw_indexAddr (i) Z tyE_S_impl_Range Z Z Z (hA.some hi5) hi5 q)<|DT Z Z (fun _ q=>FX Z tyF_impl_Range_1 Z q)<|DT Z Z (fun _ q=>rw_loadX _ Z tyP_int Z (fun w hs=>hq7.ld hs Z) q)<|DT Z Z (fun _ q=>FA Z tyF_impl_Range_0 Z q)<|DT Z Z (fun _ q=>LD (i:=0) Z tyP_int Z Z Z q)<|DT Z Z (fun _ q=>rw_min Z Z Z q)<|?_
    refine DT Z Z (fun _ q=>rw_build [_,_] Z tyB_impl_Range tyZ_impl_Range Z Z q)<|DA Z Z (fun _ q=>rw_slice1F (xs:=[(0,_)]) [_,_] Z tyM_S_impl_Range Z Z Z q)<|fun v8 ch8 how8=>?_
    obtain ⟨bl8,rfl,hch8⟩:=how8
    refine dw_nil<|?_
    have hpm10 : (ch8 ++ (ch ++ ([]))).Perm (ch ++ ([] ++ (ch8 ++ ([])))):=by
     refine List.Perm.trans ((pg (pp PR) PR) : (ch8 ++ (ch ++ ([]))).Perm (ch ++ (ch8 ++ ([])))) (List.Perm.of_eq ?_)
     simp only [List.nil_append]
    refine rw_append1F (a:=⟨x6.low,min x6.high r.low⟩) (ch2:=[]) (F2:=ch8 ++ ([])) Z tyM_S_impl_Range eRange Z Z (mem_ch hch8 (fun c hc=>ML hc)) hO ⟨Z,Z⟩ hpm10 (by first | omega | (simp only [List.length_append,List.length_cons,List.length_nil]; omega))<|fun v9 ch9 how9=>AS Z Z<|ND<|SQ<|gw_draw' [dd 0,dd 1,dd 2,dd 3,dd 4,dd 5,dd 6,dd 7,dd 8,dd 9,dd 10,dd 11,dd 12] [13] mixed Z (FD Z) (ts:=[_]) Z<|DM Z Z Z<|DM Z Z Z<|?_
    refine DT Z Z (fun _ q=>rw_indexAddr (i) Z tyE_S_impl_Range Z Z Z (hA.some hi5) hi5 q)<|DT Z Z (fun _ q=>FX Z tyF_impl_Range_0 Z q)<|DT Z Z (fun _ q=>rw_loadX _ Z tyP_int Z (fun w hs=>hq7.ld hs Z) q)<|DT Z Z (fun _ q=>FA Z tyF_impl_Range_1 Z q)<|DT Z Z (fun _ q=>LD (i:=0) Z tyP_int Z Z Z q)<|DT Z Z (fun _ q=>rw_max Z Z Z q)<|DM Z Z Z<|DM Z Z Z<|?_
    refine DT Z Z (fun _ q=>rw_indexAddr (i) Z tyE_S_impl_Range Z Z Z (hA.some hi5) hi5 q)<|DT Z Z (fun _ q=>FX Z tyF_impl_Range_1 Z q)<|DT Z Z (fun _ q=>rw_loadX _ Z tyP_int Z (fun w hs=>hq7.ld hs Z) q)<|dw_nil<|rw_lss Z Z Z<|ND<|?_
    refine gw_cond Z (fun h5=>?_) (fun h5=>?_)
    ·refine gw_draw' [dd 0,dd 1,dd 2,dd 3,dd 4,dd 5,dd 6,dd 7,dd 8,dd 9,dd 10,dd 11,dd 12,dd 13,dd 14,(15,.add)] [16,17] mixed Z (FD Z) (ts:=[_,_]) Z<|DM Z Z Z<|DM Z Z Z<|DM Z Z Z<|DT Z Z (fun _ q=>rw_indexAddr (i) Z tyE_S_impl_Range Z Z Z (hA.some hi5) hi5 q)<|DT Z Z (fun _ q=>FX Z tyF_impl_Range_0 Z q)<|DT Z Z (fun _ q=>rw_loadX _ Z tyP_int Z (fun w hs=>hq7.ld hs Z) q)<|?_
     refine DT Z Z (fun _ q=>FA Z tyF_impl_Range_1 Z q)<|DT Z Z (fun _ q=>LD (i:=0) Z tyP_int Z Z Z q)<|DT Z Z (fun _ q=>rw_max Z Z Z q)<|DM Z Z Z<|DM Z Z Z<|DT Z Z (fun _ q=>rw_indexAddr (i) Z tyE_S_impl_Range Z Z Z (hA.some hi5) hi5 q)<|DT Z Z (fun _ q=>FX Z tyF_impl_Range_1 Z q)<|DT Z Z (fun _ q=>rw_loadX _ Z tyP_int Z (fun w hs=>hq7.ld hs Z) q)<|?_
     refine DT Z Z (fun _ q=>rw_build [_,_] Z tyB_impl_Range tyZ_impl_Range Z Z q)<|DA Z Z (fun _ q=>rw_slice1F (xs:=[(0,_)]) [_,_] Z tyM_S_impl_Range Z Z Z q)<|fun v11 ch11 how11=>?_
     obtain ⟨bl11,rfl,hch11⟩:=how11
     refine dw_nil<|?_
     have hpm13 : (ch11 ++ (ch9 ++ (ch8 ++ ([])))).Perm (ch9 ++ ([] ++ (ch11 ++ (ch8 ++ ([]))))):=by
      refine List.Perm.trans ((pg (pp PR) PR) : (ch11 ++ (ch9 ++ (ch8 ++ ([])))).Perm (ch9 ++ (ch11 ++ (ch8 ++ ([]))))) (List.Perm.of_eq ?_)
      simp only [List.nil_append]
     refine rw_append1F (a:=⟨max x6.low r.high,x6.high⟩) (ch2:=[]) (F2:=ch11 ++ (ch8 ++ ([]))) Z tyM_S_impl_Range eRange Z Z (mem_ch hch11 (fun c hc=>ML hc)) how9 ⟨Z,Z⟩ hpm13 (by first | omega | (simp only [List.length_append,List.length_cons,List.length_nil]; omega))<|fun v12 ch12 how12=>AS Z Z<|ND<|IB<|RG<|MV Z Z<|rw_add Z Z Z<|AS Z Z<|ND<|?_
     refine gw_dropF (F':=ch12 ++ ([])) (List.Sublist.append_left (List.nil_sublist _) _)<|?_
     refine gw_sub (Sub.consE (i:=6) Z (int_succ (by omega)) (Sub.consE (i:=5) Z Z (Sub.cons (i:=0) Z (Sub.cons (i:=3) Z (Sub.cons (i:=4) Z (Sub.nil _)))))) (ih4 (i + 1,((o ++ [⟨x6.low,min x6.high r.low⟩]) ++ [⟨max x6.low r.high,x6.high⟩]),v12,ch12) ?_ ?_)
     ·refine ⟨by omega,by simp only [List.length_append,List.length_cons,List.length_nil]; omega,how12,?_⟩
      rw [hI,hd6]; simp [rmGo,h4,h5]
     ·show l.length - (i + 1) < l.length - i; omega
    refine SK<|IB<|RG<|MV Z Z<|rw_add Z Z Z<|AS Z Z<|ND<|?_
    refine gw_dropF (F':=ch9 ++ ([])) (List.Sublist.append_left (List.nil_sublist _) _)<|?_
    refine gw_sub (Sub.consE (i:=6) Z (int_succ (by omega)) (Sub.consE (i:=5) Z Z (Sub.cons (i:=0) Z (Sub.cons (i:=3) Z (Sub.cons (i:=4) Z (Sub.nil _)))))) (ih4 (i + 1,(o ++ [⟨x6.low,min x6.high r.low⟩]),v9,ch9) ?_ ?_)
    ·refine ⟨by omega,by simp only [List.length_append,List.length_cons,List.length_nil]; omega,how9,?_⟩
     rw [hI,hd6]; simp [rmGo,h4,h5]
    ·show l.length - (i + 1) < l.length - i; omega
   refine SK<|SQ<|gw_draw' [dd 0,dd 1,dd 2,dd 3,dd 4,dd 5,dd 6,dd 7,dd 8,dd 9,dd 10,dd 11,dd 12] [13] mixed Z (FD Z) (ts:=[_]) Z<|DM Z Z Z<|DM Z Z Z<|DT Z Z (fun _ q=>rw_indexAddr (i) Z tyE_S_impl_Range Z Z Z (hA.some hi5) hi5 q)<|DT Z Z (fun _ q=>FX Z tyF_impl_Range_0 Z q)<|DT Z Z (fun _ q=>rw_loadX _ Z tyP_int Z (fun w hs=>hq7.ld hs Z) q)<|?_
   refine DT Z Z (fun _ q=>FA Z tyF_impl_Range_1 Z q)<|DT Z Z (fun _ q=>LD (i:=0) Z tyP_int Z Z Z q)<|DT Z Z (fun _ q=>rw_max Z Z Z q)<|DM Z Z Z<|DM Z Z Z<|DT Z Z (fun _ q=>rw_indexAddr (i) Z tyE_S_impl_Range Z Z Z (hA.some hi5) hi5 q)<|DT Z Z (fun _ q=>FX Z tyF_impl_Range_1 Z q)<|DT Z Z (fun _ q=>rw_loadX _ Z tyP_int Z (fun w hs=>hq7.ld hs Z) q)<|?_
   refine dw_nil<|rw_lss Z Z Z<|ND<|?_
   refine gw_cond Z (fun h6=>?_) (fun h6=>?_)
   ·refine gw_draw' [dd 0,dd 1,dd 2,dd 3,dd 4,dd 5,dd 6,dd 7,dd 8,dd 9,dd 10,dd 11,dd 12,dd 13,dd 14,(15,.add)] [16,17] mixed Z (FD Z) (ts:=[_,_]) Z<|DM Z Z Z<|DM Z Z Z<|DM Z Z Z<|DT Z Z (fun _ q=>rw_indexAddr (i) Z tyE_S_impl_Range Z Z Z (hA.some hi5) hi5 q)<|DT Z Z (fun _ q=>FX Z tyF_impl_Range_0 Z q)<|DT Z Z (fun _ q=>rw_loadX _ Z tyP_int Z (fun w hs=>hq7.ld hs Z) q)<|?_
    refine DT Z Z (fun _ q=>FA Z tyF_impl_Range_1 Z q)<|DT Z Z (fun _ q=>LD (i:=0) Z tyP_int Z Z Z q)<|DT Z Z (fun _ q=>rw_max Z Z Z q)<|DM Z Z Z<|DM Z Z Z<|DT Z Z (fun _ q=>rw_indexAddr (i) Z tyE_S_impl_Range Z Z Z (hA.some hi5) hi5 q)<|DT Z Z (fun _ q=>FX Z tyF_impl_Range_1 Z q)<|DT Z Z (fun _ q=>rw_loadX _ Z tyP_int Z (fun w hs=>hq7.ld hs Z) q)<|?_
    refine DT Z Z (fun _ q=>rw_build [_,_] Z tyB_impl_Range tyZ_impl_Range Z Z q)<|DA Z Z (fun _ q=>rw_slice1F (xs:=[(0,_)]) [_,_] Z tyM_S_impl_Range Z Z Z q)<|fun v14 ch14 how14=>?_
    obtain ⟨bl14,rfl,hch14⟩:=how14
    refine dw_nil<|?_
    have hpm16 : (ch14 ++ (ch ++ ([]))).Perm (ch ++ ([] ++ (ch14 ++ ([])))):=by
     refine List.Perm.trans ((pg (pp PR) PR) : (ch14 ++ (ch ++ ([]))).Perm (ch ++ (ch14 ++ ([])))) (List.Perm.of_eq ?_)
     simp only [List.nil_append]
    refine rw_append1F (a:=⟨max x6.low r.high,x6.high⟩) (ch2:=[]) (F2:=ch14 ++ ([])) Z tyM_S_impl_Range eRange Z Z (mem_ch hch14 (fun c hc=>ML hc)) hO ⟨Z,Z⟩ hpm16 (by first | omega | (simp only [List.length_append,List.length_cons,List.length_nil]; omega))<|fun v15 ch15 how15=>AS Z Z<|ND<|IB<|RG<|MV Z Z<|rw_add Z Z Z<|AS Z Z<|ND<|?_
    refine gw_dropF (F':=ch15 ++ ([])) (List.Sublist.append_left (List.nil_sublist _) _)<|?_
    refine gw_sub (Sub.consE (i:=6) Z (int_succ (by omega)) (Sub.consE (i:=5) Z Z (Sub.cons (i:=0) Z (Sub.cons (i:=3) Z (Sub.cons (i:=4) Z (Sub.nil _)))))) (ih4 (i + 1,(o ++ [⟨max x6.low r.high,x6.high⟩]),v15,ch15) ?_ ?_)
    ·refine ⟨by omega,by simp only [List.length_append,List.length_cons,List.length_nil]; omega,how15,?_⟩
     rw [hI,hd6]; simp [rmGo,h4,h6]
    ·show l.length - (i + 1) < l.length - i; omega
   refine SK<|IB<|RG<|MV Z Z<|rw_add Z Z Z<|AS Z Z<|ND<|?_
   refine gw_sub (Sub.consE (i:=6) Z (int_succ (by omega)) (Sub.consE (i:=5) Z Z (Sub.cons (i:=0) Z (Sub.cons (i:=3) Z (Sub.cons (i:=4) Z (Sub.nil _)))))) (ih4 (i + 1,o,v,ch) ?_ ?_)
   ·refine ⟨by omega,by show o.length ≤ 2 * (i + 1); omega,hO,?_⟩
    rw [hI,hd6]; simp [rmGo,h4,h6]
   ·show l.length - (i + 1) < l.length - i; omega
  have hn17:=nil_of_dec h3
  refine EX Z<|SQ<|RG<|MV Z Z<|AS Z Z<|ND<|?_
  refine ret_cn ch Tryz.func197 (res1 Tryz.func197 Z (rv_tmp Z)) ?_ ?_
  ·rw [hI,hn17]; simp only [rmGo,List.append_nil]; exact OwA.s hO
  ·exact (List.sublist_append_left _ _).trans (List.sublist_append_right _ _)
theorem spec_CommonRanges {w : World} {v : Value} {l : List Range} (hv : RdS w 2 (Pl Range.cells) v l) (hb : l.length ≤ 4194304) {v1 : Value} {r : Range} (hv1 : RdS w 2 (Pl Range.cells) v1 [r]) : CN Tryz.prog 196 [v, v1] w (fun v ch => ∃ m, OwS 132 2 (PlO Range.cells) v m ch ∧ m.length ≤ l.length ∧ ∀ e, Hb e l → Hb e m) := by
 obtain ⟨A,c,rfl,hA⟩:=hv
 obtain ⟨A1,c1,rfl,hA1⟩:=hv1
 have hr1 : [r].length = 1:=rfl
 refine cn_of Tryz.func196 Z Z Z<|SQ<|RG<|AS Z Z<|ND<|SQ<|RG<|rw_slice0 Z tyM_S_impl_Range (PlO Range.cells)<|fun v1 how1=>AS Z Z<|ND<|SQ<|SQ<|RG<|AS Z Z<|ND<|BK<|?_
 refine gw_loopX (α:=Nat × List Range × Value × List Ck) (fun z_=>z_.1 ≤ l.length ∧ z_.2.1.length ≤ z_.1 ∧ OwA 132 2 (PlO Range.cells) z_.2.2.1 z_.2.1 z_.2.2.2 ∧ ∀ e,Hb e l → Hb e z_.2.1) (fun z_=>l.length - z_.1) (fun e z_=>(6,.int .i64 (z_.1 : Int)) :: (5,z_.2.2.1) :: e) (fun B _=>B) (fun F z_=>z_.2.2.2 ++ F) (0,[],v1,[]) [(0,_),(1,_),(4,_)] (Sub.consE Z Z (Sub.consE Z Z (Sub.cons (i:=0) Z (Sub.cons (i:=1) Z (Sub.cons (i:=4) Z (Sub.nil _)))))) Z Z ?_ ?_
 ·exact ⟨Nat.zero_le _,Nat.le_refl _,how1,fun _ _ _ hx=>by cases hx⟩
 ·rintro ⟨i,o,v,ch⟩ hI2 ih2
  dsimp only at hI2
  dsimp only
  obtain ⟨hle,ho,hO,hH⟩:=hI2
  refine SQ<|SQ<|RG<|MV Z Z<|MV Z Z<|rw_len Z tyE_S_impl_Range Z<|rw_lss Z Z Z<|MV Z Z<|?_
  refine rw_caseL (j:=14) Z (fun h1=>?_) (fun h1=>?_)
  ·have hi3:=lt_of_dec h1
   obtain ⟨x4,hx4⟩:=get_of_lt hi3
   have hd4:=drop_cons hx4
   refine ON Z Z Z<|MV Z Z<|ON Z Z Z<|CV1 Z fun_spec_IsRanges Z (fun w hs=>spec_IsRanges (hA.s Pl.keeps hs) (by omega))<|PT Z Z Z Z<|MV Z Z<|?_
   refine rw_caseL (j:=18) Z (fun h2=>?_) (fun h2=>?_)
   ·refine ON Z Z Z<|MV Z Z<|ON Z Z Z<|CV1 Z fun_spec_IsRanges Z (fun w hs=>spec_IsRanges (hA1.s Pl.keeps hs) (by omega))<|PT Z Z Z Z<|ND<|?_
    refine gw_cond Z (fun h3=>?_) (fun h3=>?_)
    ·refine SK<|SQ<|BK<|SQ<|RG<|AS Z Z<|ND<|BK<|gw_loop1<|SQ<|SQ<|RG<|MV Z Z<|MV Z Z<|rw_len Z tyE_S_impl_Range Z<|rw_lss Z Z Z<|ND<|CT Z Z<|SK<|SQ<|BK<|SQ<|gw_draw' [dd 0,dd 1,dd 2,dd 3,dd 4,dd 5,dd 6,dd 7,dd 8,dd 9,dd 10,dd 11,dd 12,dd 13,dd 14,dd 15,dd 16,dd 17,dd 18,dd 19,dd 20,dd 21,dd 22,(23,(.free 132 [.int .i64 0,.int .i64 0]))] [24] mixed Z (free_det (free_det (free_det (free_det (free_det (free_det (free_det (free_det (free_det (free_det (free_det (free_det (free_det (free_det (free_det (free_det (free_det (free_det (free_det (free_det (free_det (free_det (free_det (free_new Z Z tyZ_impl_Range free_nil)))))))))))))))))))))))) (ts:=[_]) Z<|?_
     refine DM Z Z Z<|DM Z Z Z<|?_
     have hq5:=hA.plain hx4
     refine DT Z Z (fun _ q=>rw_indexAddr (i) Z tyE_S_impl_Range Z Z Z (hA.some hi3) hi3 q)<|DT Z Z (fun _ q=>FX Z tyF_impl_Range_0 Z q)<|DT Z Z (fun _ q=>rw_loadX _ Z tyP_int Z (fun w hs=>hq5.ld hs Z) q)<|DM Z Z Z<|DM Z Z Z<|?_
     have hi6 : 0 < [r].length:=by omega
     obtain ⟨x7,hx7⟩:=get_of_lt hi6
     have hd7:=drop_cons hx7
     have hq8:=hA1.plain hx7
     refine DT Z Z (fun _ q=>rw_indexAddr (0) Z tyE_S_impl_Range Z Z Z (hA1.some hi6) hi6 q)<|DT Z Z (fun _ q=>FX Z tyF_impl_Range_0 Z q)<|DT Z Z (fun _ q=>rw_loadX _ Z tyP_int Z (fun w hs=>hq8.ld hs Z) q)<|DT Z Z (fun _ q=>rw_max Z Z Z q)<|DM Z Z Z<|DM Z Z Z<|DT Z Z (fun _ q=>rw_indexAddr (i) Z tyE_S_impl_Range Z Z Z (hA.some hi3) hi3 q)<|DT Z Z (fun _ q=>FX Z tyF_impl_Range_1 Z q)<|?_
     refine DT Z Z (fun _ q=>rw_loadX _ Z tyP_int Z (fun w hs=>hq5.ld hs Z) q)<|DM Z Z Z<|DM Z Z Z<|DT Z Z (fun _ q=>rw_indexAddr (0) Z tyE_S_impl_Range Z Z Z (hA1.some hi6) hi6 q)<|DT Z Z (fun _ q=>FX Z tyF_impl_Range_1 Z q)<|DT Z Z (fun _ q=>rw_loadX _ Z tyP_int Z (fun w hs=>hq8.ld hs Z) q)<|DT Z Z (fun _ q=>rw_min Z Z Z q)<|DT Z Z (fun _ q=>rw_build [_,_] Z tyB_impl_Range tyZ_impl_Range Z Z q)<|?_
     refine dw_free Z Z<|fun b1=>dw_nil<|rw_take<|ST (i:=0) [_,_] [_,_] tyS_impl_Range.sz Z Z Z Z Z Z Z Z<|ND<|SQ<|RG<|FA Z tyF_impl_Range_0 Z<|LD (i:=0) Z tyP_int Z Z Z<|FA Z tyF_impl_Range_1 Z<|LD (i:=0) Z tyP_int Z Z Z<|rw_lss Z Z Z<|ND<|?_
     refine gw_cond Z (fun h4=>?_) (fun h4=>?_)
     ·refine RG<|MV Z Z<|LS (i:=0) [_,_] Z tyS_impl_Range Z Z Z Z<|rw_slice (xs:=[(0,_)]) [_,_] Z tyM_S_impl_Range Z Z Z Z<|fun b2=>rw_append1 (i:=0) (a:=⟨max x4.low x7.low,min x4.high x7.high⟩) Z tyM_S_impl_Range eRange Z Z Z hO ⟨Z,Z⟩ (.refl _) (by omega)<|fun v9 ch9 how9=>AS Z Z<|ND<|IB<|RG<|MV Z Z<|rw_add Z Z Z<|AS Z Z<|ND<|gw_again<|SQ<|SQ<|RG<|MV Z Z<|MV Z Z<|rw_len Z tyE_S_impl_Range Z<|rw_lss Z Z Z<|?_
      refine ND<|CF Z Z<|EX Z<|IB<|RG<|MV Z Z<|rw_add Z Z Z<|AS Z Z<|ND<|?_
      refine gw_dropN 2<|?_
      refine gw_sub (Sub.consE (i:=6) Z (int_succ (by omega)) (Sub.consE (i:=5) Z Z (Sub.cons (i:=0) Z (Sub.cons (i:=1) Z (Sub.cons (i:=4) Z (Sub.nil _)))))) (ih2 (i + 1,o ++ [⟨max x4.low x7.low,min x4.high x7.high⟩],v9,ch9) ?_ ?_)
      ·exact ⟨by omega,by show (o ++ [_]).length ≤ i + 1; simp only [List.length_append,List.length_cons,List.length_nil]; omega,how9,fun e_ he=>hb_snoc (hH e_ he) (by have:=he _ (List.mem_of_getElem? hx4); show min _ _ ≤ e_; omega)⟩
      ·show l.length - (i + 1) < l.length - i; omega
     refine SK<|IB<|RG<|MV Z Z<|rw_add Z Z Z<|AS Z Z<|ND<|gw_again<|SQ<|SQ<|RG<|MV Z Z<|MV Z Z<|rw_len Z tyE_S_impl_Range Z<|rw_lss Z Z Z<|ND<|CF Z Z<|EX Z<|IB<|RG<|MV Z Z<|rw_add Z Z Z<|AS Z Z<|ND<|?_
     refine gw_dropN 1<|?_
     refine gw_sub (Sub.consE (i:=6) Z (int_succ (by omega)) (Sub.consE (i:=5) Z Z (Sub.cons (i:=0) Z (Sub.cons (i:=1) Z (Sub.cons (i:=4) Z (Sub.nil _)))))) (ih2 (i + 1,o,v,ch) ?_ ?_)
     ·exact ⟨by omega,by show o.length ≤ i + 1; omega,hO,hH⟩
     ·show l.length - (i + 1) < l.length - i; omega
    refine EX Z<|SQ<|RG<|MV Z Z<|AS Z Z<|ND<|?_
    refine ret_cn ch Tryz.func196 (res1 Tryz.func196 Z (rv_tmp Z)) ?_ ?_
    ·exact ⟨o,OwA.s hO,Nat.le_trans ho hle,hH⟩
    ·exact (List.sublist_append_left _ _).trans (List.sublist_append_right _ _)
   refine SKP Z<|PF Z Z Z Z<|ND<|CF Z Z<|EX Z<|SQ<|RG<|MV Z Z<|AS Z Z<|ND<|?_
   refine ret_cn ch Tryz.func196 (res1 Tryz.func196 Z (rv_tmp Z)) ?_ ?_
   ·exact ⟨o,OwA.s hO,Nat.le_trans ho hle,hH⟩
   ·exact (List.sublist_append_left _ _).trans (List.sublist_append_right _ _)
  have hn10:=nil_of_dec h1
  refine SKP Z<|PF Z Z Z Z<|MV Z Z<|SKP Z<|PF Z Z Z Z<|ND<|CF Z Z<|EX Z<|SQ<|RG<|MV Z Z<|AS Z Z<|ND<|?_
  refine ret_cn ch Tryz.func196 (res1 Tryz.func196 Z (rv_tmp Z)) ?_ ?_
  ·exact ⟨o,OwA.s hO,Nat.le_trans ho hle,hH⟩
  ·exact (List.sublist_append_left _ _).trans (List.sublist_append_right _ _)
theorem spec_l8Copy {w : World} {cs : List Value} {x : Ring} (hv : RdRing w cs x) (hb : x.le 1048576) : CN Tryz.prog 163 [.agg cs.toArray] w (OwV OwRing x) := by
 obtain ⟨v0,rfl,k0⟩:=hv
 obtain ⟨A0,c0,rfl,hA0⟩:=k0
 have hb0 : x.cells.length ≤ 1048576:=hb
 refine cn_of Tryz.func163 Z Z Z<|SQ<|RG<|BX [_,_,_,_] Z Z Z<|fun b1=>AL Z tyZ_impl_Ring<|fun b2=>ND<|SQ<|gw_draw' [dd 0,dd 1,dd 2,dd 3,dd 4,dd 5,dd 7,dd 8,(6,.add),(9,.add)] [10,11] mixed Z (FD Z) (ts:=[_,_]) Z<|DT Z Z (fun _ q=>FA Z tyF_impl_Ring_0 Z q)<|DT Z Z (fun _ q=>LD (i:=1) Z tyP_int Z Z Z q)<|DT Z Z (fun _ q=>FA Z tyF_impl_Ring_1 Z q)<|DT Z Z (fun _ q=>LD (i:=1) Z tyP_int Z Z Z q)<|?_
 refine DT Z Z (fun _ q=>FA Z tyF_impl_Ring_2 Z q)<|DT Z Z (fun _ q=>LD (i:=1) Z tyP_int Z Z Z q)<|DT Z Z (fun _ q=>FA Z tyF_impl_Ring_3 Z q)<|DT Z Z (fun _ q=>LD (i:=1) Z tyP_S_int Z Z Z q)<|DA Z Z (fun _ q=>rw_slice0D Z tyM_S_int (PlO intC) q)<|fun v1 ch1 how1=>?_
 obtain ⟨how1,rfl⟩:=how1
 refine DA Z Z (fun _ q=>rw_appendP Z tyM_S_int eInt (fun _=>Z) Z Z how1 (fun w hs=>hA0.sat Pl.keeps hs) (.refl _) (by first | omega | (simp; omega)) q)<|fun v2 ch2 how2=>?_
 obtain ⟨R3,rc3,rfl,hR3,hrd3⟩:=(OwA.s (l:=x.cells) how2).shape eInt
 refine dw_nil<|rw_build [_,_,_,_] Z tyB_impl_Ring tyZ_impl_Ring Z Z<|ST (i:=0) [_,_,_,_] [_,_,_,_] tyS_impl_Ring.sz Z Z Z Z Z Z Z Z<|ND<|?_
 refine ret_cnP (ch:=ch2) (G:=ch2 ++ ([])) (F':=[]) Tryz.func163 (res1 Tryz.func163 Z (rv_s (i:=0) [_,_,_,_] tyS_impl_Ring Z Z Z Z)) ?_ ?_ ?_
 ·exact ⟨_,rfl,_,_,rfl,(OwA.s (l:=x.cells) how2),rfl⟩
 ·exact (pg PR PR)
 ·simp only []
theorem spec_l8Power (a : Int) (w : World) : CV Tryz.prog 89 [.int .i64 a] w (.bool (isRingSize a)) := by
 refine cv_of Tryz.func89 Z Z Z<|SQ<|RG<|AS Z Z<|ND<|SQ<|RG<|MV Z Z<|rw_gtr Z Z Z<|MV Z Z<|?_
 refine rw_caseL (j:=5) Z (fun h1=>?_) (fun h1=>?_)
 ·refine ON Z Z Z<|MV Z Z<|ON Z Z Z<|rw_leq Z Z Z<|PT Z Z Z Z<|MV Z Z<|?_
  refine rw_caseL (j:=9) Z (fun h2=>?_) (fun h2=>?_)
  ·refine ON Z Z Z<|MV Z Z<|ON Z Z Z<|MV Z Z<|ON Z Z Z<|rw_sub Z Z Z<|ON Z Z Z<|rw_and Z Z Z<|ON Z Z Z<|EQ1 Z Z Z<|PT Z Z Z Z<|AS Z Z<|ND<|RT Tryz.func89 Z Z<|?_
   rw [ring_power]; simp only [h1,h2] <;> rfl
  refine SKP Z<|PF Z Z Z Z<|AS Z Z<|ND<|RT Tryz.func89 Z Z<|?_
  rw [ring_power]; simp only [h1,h2] <;> rfl
 refine SKP Z<|PF Z Z Z Z<|MV Z Z<|SKP Z<|PF Z Z Z Z<|AS Z Z<|ND<|RT Tryz.func89 Z Z<|?_
 rw [ring_power]; simp only [h1] <;> rfl
theorem spec_l1In (a b c : Int) (w : World) : CV Tryz.prog 90 [.int .i64 a, .int .i64 b, .int .i64 c] w (.bool (within a b c)) := by
 refine cv_of Tryz.func90 Z Z Z<|SQ<|RG<|AS Z Z<|ND<|SQ<|RG<|MV Z Z<|MV Z Z<|rw_geq Z Z Z<|MV Z Z<|?_
 refine rw_caseL (j:=10) Z (fun h1=>?_) (fun h1=>?_)
 ·refine ON Z Z Z<|MV Z Z<|ON Z Z Z<|MV Z Z<|ON Z Z Z<|rw_leq Z Z Z<|PT Z Z Z Z<|AS Z Z<|ND<|RT Tryz.func90 Z Z<|?_
  simp only [within,h1] <;> rfl
 refine SKP Z<|PF Z Z Z Z<|AS Z Z<|ND<|RT Tryz.func90 Z Z<|?_
 simp only [within,h1] <;> rfl
theorem spec_IsRing {w : World} {cs : List Value} {x : Ring} (hv : RdRing w cs x) (hb : x.le 1048576) : CV Tryz.prog 133 [.agg cs.toArray] w (.bool (isRing x)) := by
 obtain ⟨v0,rfl,k0⟩:=hv
 obtain ⟨A0,c0,rfl,hA0⟩:=k0
 have hb0 : x.cells.length ≤ 1048576:=hb
 refine cv_of Tryz.func133 Z Z Z<|SQ<|RG<|BX [_,_,_,_] Z Z Z<|fun b1=>AS Z Z<|ND<|SQ<|SQ<|RG<|FA Z tyF_impl_Ring_0 Z<|LD (i:=0) Z tyP_int Z Z Z<|CV1 Z fun_spec_l8Power Z (fun w hs=>spec_l8Power _ w)<|NT Z Z<|MV Z Z<|?_
 refine rw_caseN (j:=8) Z (fun h1=>?_) (fun h1=>?_)
 ·refine SKP Z<|PT Z Z Z Z<|MV Z Z<|SKP Z<|PT Z Z Z Z<|MV Z Z<|SKP Z<|PT Z Z Z Z<|MV Z Z<|SKP Z<|PT Z Z Z Z<|MV Z Z<|SKP Z<|PT Z Z Z Z<|ND<|CT Z Z<|SQ<|RG<|AS Z Z<|ND<|RT Tryz.func133 Z Z<|?_
  rw [isRing_s]; simp [isRingS,maxQuic,h1]
 refine ON Z Z Z<|FA Z tyF_impl_Ring_3 Z<|ON Z Z Z<|LD (i:=0) Z tyP_S_int Z Z Z<|ON Z Z Z<|rw_len Z tyE_S_int Z<|ON Z Z Z<|FA Z tyF_impl_Ring_0 Z<|ON Z Z Z<|LD (i:=0) Z tyP_int Z Z Z<|ON Z Z Z<|rw_neq Z Z Z<|PF Z Z Z Z<|MV Z Z<|?_
 refine rw_caseN (j:=16) Z (fun h2=>?_) (fun h2=>?_)
 ·refine SKP Z<|PT Z Z Z Z<|MV Z Z<|SKP Z<|PT Z Z Z Z<|MV Z Z<|SKP Z<|PT Z Z Z Z<|MV Z Z<|SKP Z<|PT Z Z Z Z<|ND<|CT Z Z<|SQ<|RG<|AS Z Z<|ND<|RT Tryz.func133 Z Z<|?_
  rw [isRing_s]; simp [isRingS,maxQuic,h1,h2]
 refine ON Z Z Z<|FA Z tyF_impl_Ring_1 Z<|ON Z Z Z<|LD (i:=0) Z tyP_int Z Z Z<|ON Z Z Z<|rw_lss Z Z Z<|PF Z Z Z Z<|MV Z Z<|?_
 refine rw_caseL (j:=21) Z (fun h3=>?_) (fun h3=>?_)
 ·refine SKP Z<|PT Z Z Z Z<|MV Z Z<|SKP Z<|PT Z Z Z Z<|MV Z Z<|SKP Z<|PT Z Z Z Z<|ND<|CT Z Z<|SQ<|RG<|AS Z Z<|ND<|RT Tryz.func133 Z Z<|?_
  rw [isRing_s]; simp [isRingS,maxQuic,h1,h2,h3]
 refine ON Z Z Z<|FA Z tyF_impl_Ring_2 Z<|ON Z Z Z<|LD (i:=0) Z tyP_int Z Z Z<|ON Z Z Z<|FA Z tyF_impl_Ring_1 Z<|ON Z Z Z<|LD (i:=0) Z tyP_int Z Z Z<|ON Z Z Z<|rw_lss Z Z Z<|PF Z Z Z Z<|MV Z Z<|?_
 refine rw_caseL (j:=28) Z (fun h4=>?_) (fun h4=>?_)
 ·refine SKP Z<|PT Z Z Z Z<|MV Z Z<|SKP Z<|PT Z Z Z Z<|ND<|CT Z Z<|SQ<|RG<|AS Z Z<|ND<|RT Tryz.func133 Z Z<|?_
  rw [isRing_s]; simp [isRingS,maxQuic,h1,h2,h3,h4]
 refine ON Z Z Z<|FA Z tyF_impl_Ring_2 Z<|ON Z Z Z<|LD (i:=0) Z tyP_int Z Z Z<|ON Z Z Z<|FA Z tyF_impl_Ring_1 Z<|ON Z Z Z<|LD (i:=0) Z tyP_int Z Z Z<|ON Z Z Z<|rw_sub Z Z Z<|ON Z Z Z<|FA Z tyF_impl_Ring_0 Z<|ON Z Z Z<|LD (i:=0) Z tyP_int Z Z Z<|ON Z Z Z<|rw_gtr Z Z Z<|PF Z Z Z Z<|MV Z Z<|?_
 refine rw_caseL (j:=38) Z (fun h5=>?_) (fun h5=>?_)
 ·refine SKP Z<|PT Z Z Z Z<|ND<|CT Z Z<|SQ<|RG<|AS Z Z<|ND<|RT Tryz.func133 Z Z<|?_
  rw [isRing_s]; simp [isRingS,maxQuic,h1,h2,h3,h4,h5]
 refine ON Z Z Z<|FA Z tyF_impl_Ring_2 Z<|ON Z Z Z<|LD (i:=0) Z tyP_int Z Z Z<|ON Z Z Z<|rw_gtr Z Z Z<|PF Z Z Z Z<|ND<|?_
 refine gw_cond Z (fun h6=>?_) (fun h6=>?_)
 ·refine SQ<|RG<|AS Z Z<|ND<|RT Tryz.func133 Z Z<|?_
  rw [isRing_s]; simp [isRingS,maxQuic,h1,h2,h3,h4,h5,h6]
 refine SK<|SQ<|SQ<|RG<|AS Z Z<|ND<|BK<|?_
 refine gw_loopC (α:=Nat) (fun z_=>z_ ≤ x.cells.length ∧ isRingS x = (x.cells.drop z_).all (fun n=>within n 0 255)) (fun z_=>x.cells.length - z_) (fun e z_=>(3,.int .i64 (z_ : Int)) :: e) 0 [(1,_)] (Sub.consE Z Z (Sub.cons (i:=1) Z (Sub.nil _))) ?_ ?_
 ·exact ⟨Nat.zero_le _,by simp [isRingS,maxQuic,h1,h2,h3,h4,h5,h6]⟩
 ·rintro i hI1 ih1
  try dsimp only
  obtain ⟨hle,hI⟩:=hI1
  refine SQ<|SQ<|RG<|MV Z Z<|FA Z tyF_impl_Ring_3 Z<|LD (i:=0) Z tyP_S_int Z Z Z<|rw_len Z tyE_S_int Z<|rw_lss Z Z Z<|ND<|?_
  refine gw_cond Z (fun h7=>?_) (fun h7=>?_)
  ·have hi2:=lt_of_dec h7
   obtain ⟨x3,hx3⟩:=get_of_lt hi2
   have hd3:=drop_cons hx3
   refine SK<|SQ<|BK<|SQ<|RG<|FA Z tyF_impl_Ring_3 Z<|LD (i:=0) Z tyP_S_int Z Z Z<|MV Z Z<|?_
   have hq4:=hA0.plain hx3
   refine rw_indexAddr (i) Z tyE_S_int Z Z Z (hA0.some hi2) hi2<|rw_loadX _ Z tyP_int Z (fun w hs=>hq4.ld0 hs Z)<|CV1 Z fun_spec_l1In Z (fun w hs=>spec_l1In _ _ _ w)<|NT Z Z<|ND<|?_
   refine gw_condN Z (fun h8=>?_) (fun h8=>?_)
   ·refine SQ<|RG<|AS Z Z<|ND<|RT Tryz.func133 Z Z<|?_
    rw [isRing_s,hI,hd3]; simp [h8]
   refine SK<|IB<|RG<|MV Z Z<|rw_add Z Z Z<|AS Z Z<|ND<|?_
   refine gw_sub (Sub.consE (i:=3) Z (int_succ (by omega)) (Sub.cons (i:=1) Z (Sub.nil _))) (ih1 (i + 1) ?_ ?_)
   ·exact ⟨by omega,by rw [hI,hd3]; simp [h8]⟩
   ·show x.cells.length - (i + 1) < x.cells.length - i; omega
  have hn5:=nil_of_dec h7
  refine EX Z<|SQ<|RG<|AS Z Z<|ND<|RT Tryz.func133 Z Z<|?_
  rw [isRing_s,hI,hn5]; rfl
theorem spec_RoomOf {w : World} {cs : List Value} {x : Ring} (hv : RdRing w cs x) (hb : x.le 1048576) : CV Tryz.prog 201 [.agg cs.toArray] w (.int .i64 (roomOf x)) := by
 obtain ⟨v0,rfl,k0⟩:=hv
 obtain ⟨A0,c0,rfl,hA0⟩:=k0
 have hb0 : x.cells.length ≤ 1048576:=hb
 refine cv_of Tryz.func201 Z Z Z<|SQ<|RG<|BX [_,_,_,_] Z Z Z<|fun b1=>AS Z Z<|ND<|SQ<|SQ<|RG<|LS (i:=0) [_,_,_,_] Z tyS_impl_Ring Z Z Z Z<|CV1 Z fun_spec_IsRing Z (fun w hs=>spec_IsRing ⟨_,Z,(hA0.s Pl.keeps hs)⟩ (show _ ≤ _ from hb0))<|NT Z Z<|ND<|?_
 refine gw_condN Z (fun h1=>?_) (fun h1=>?_)
 ·refine SQ<|RG<|AS Z Z<|ND<|RT Tryz.func201 Z Z<|?_
  simp [roomOf,h1]
 refine SK<|SQ<|RG<|FA Z tyF_impl_Ring_0 Z<|LD (i:=0) Z tyP_int Z Z Z<|FA Z tyF_impl_Ring_2 Z<|LD (i:=0) Z tyP_int Z Z Z<|FA Z tyF_impl_Ring_1 Z<|LD (i:=0) Z tyP_int Z Z Z<|rw_sub Z Z Z<|rw_sub Z Z Z<|FA Z tyF_impl_Ring_2 Z<|LD (i:=0) Z tyP_int Z Z Z<|rw_sub Z Z Z<|rw_min Z Z Z<|AS Z Z<|ND<|RT Tryz.func201 Z Z<|?_
 simp [roomOf,h1]
theorem spec_WriteRing {w : World} {cs : List Value} {x : Ring} (hv : RdRing w cs x) (hb : x.le 1048576) {D : List UInt8} (hD : D.length ≤ 1000) : CN Tryz.prog 193 [.agg cs.toArray, .string (mkS D)] w (fun v ch => ∃ cs' L, v = .tuple #[.agg cs'.toArray, .int .i64 (min (roomOf x) (D.length : Int))] ∧ OwRing cs' { x with fin := w64 (x.fin + (min (roomOf x) (D.length : Int))), cells := L } ch ∧ L.length = x.cells.length) := by
 obtain ⟨v0,rfl,k0⟩:=hv
 obtain ⟨A0,c0,rfl,hA0⟩:=k0
 have hb0 : x.cells.length ≤ 1048576:=hb
 refine cn_of Tryz.func193 Z Z Z<|SQ<|RG<|BX [_,_,_,_] Z Z Z<|fun b1=>AL Z tyZ_impl_Ring<|fun b2=>AS Z Z<|ND<|SQ<|RG<|LS (i:=1) [_,_,_,_] Z tyS_impl_Ring Z Z Z Z<|CN1 Z fun_spec_l8Copy Z (fun w hs=>spec_l8Copy ⟨_,Z,(hA0.s Pl.keeps hs)⟩ (show _ ≤ _ from hb0))<|fun vv1 ch1 how1=>?_
 obtain ⟨cs1,rfl,v1_0,c1_0,rfl,h1_0,rfl⟩:=how1
 obtain ⟨R1_0,b1_0,rfl,hR1_0,hrd1_0⟩:=h1_0.shape eInt
 refine AL Z tyZ_impl_Ring<|fun b3=>ST (i:=0) [_,_,_,_] [_,_,_,_] tyS_impl_Ring.sz Z Z Z Z Z Z Z Z<|ND<|SQ<|RG<|LS (i:=2) [_,_,_,_] Z tyS_impl_Ring Z Z Z Z<|CV1 Z fun_spec_RoomOf Z (fun w hs=>spec_RoomOf ⟨_,Z,(hA0.s Pl.keeps hs)⟩ (show _ ≤ _ from hb0))<|MV Z Z<|rw_lenL Z tyStr_string Z<|rw_min Z Z Z<|AS Z Z<|ND<|SQ<|SQ<|RG<|AS Z Z<|ND<|BK<|?_
 refine gw_loopX (α:=Nat × List Int × List Ck) (fun z_=>z_.1 ≤ D.length ∧ z_.2.1.length = x.cells.length ∧ OwS 3 1 (PlO intC) (.slice R1_0 x.cells.length b1_0) z_.2.1 z_.2.2) (fun z_=>D.length - z_.1) (fun e z_=>(8,.int .i64 (z_.1 : Int)) :: e) (fun B _=>B) (fun F z_=>z_.2.2 ++ ([])) (0,x.cells,ch1) [(1,_),(2,_),(4,_),(5,_),(6,_),(7,_)] (Sub.consE Z Z (Sub.cons (i:=1) Z (Sub.cons (i:=2) Z (Sub.cons (i:=4) Z (Sub.cons (i:=5) Z (Sub.cons (i:=6) Z (Sub.cons (i:=7) Z (Sub.nil _)))))))) Z Z ?_ ?_
 ·exact ⟨Nat.zero_le _,rfl,h1_0⟩
 ·rintro ⟨i,L,ch⟩ hI2 ih2
  dsimp only at hI2
  dsimp only
  obtain ⟨hle,hL,hO⟩:=hI2
  refine SQ<|SQ<|RG<|MV Z Z<|MV Z Z<|rw_lss Z Z Z<|ND<|?_
  refine gw_cond Z (fun h1=>?_) (fun h1=>?_)
  ·obtain ⟨k3,hk3,hkl3⟩:=ring_at h1
   have hiD3 : i < D.length:=by have:=of_decide_eq_true h1; omega
   obtain ⟨y3,hy3⟩:=get_of_lt hiD3
   refine SK<|SQ<|BK<|gw_draw' [dd 0,dd 1,dd 2,dd 3,dd 4,dd 5,dd 6,dd 7,dd 8,dd 9,dd 10,dd 11,dd 12] [13,14] mixed Z (FD Z) (ts:=[_,_]) Z<|DT Z Z (fun _ q=>FA Z tyF_impl_Ring_3 Z q)<|DT Z Z (fun _ q=>LD (i:=0) Z tyP_S_int Z Z Z q)<|DT Z Z (fun _ q=>FA Z tyF_impl_Ring_2 Z q)<|DT Z Z (fun _ q=>LD (i:=2) Z tyP_int Z Z Z q)<|DM Z Z Z<|DT Z Z (fun _ q=>rw_add Z Z Z q)<|?_
   refine DT Z Z (fun _ q=>FA Z tyF_impl_Ring_0 Z q)<|DT Z Z (fun _ q=>LD (i:=2) Z tyP_int Z Z Z q)<|DT Z Z (fun _ q=>rw_rem Z Z Z (ring_ne h1) q)<|DM Z Z Z<|DM Z Z Z<|DT Z Z (fun _ q=>rw_idxL i Z tyStr_string Z Z Z hy3 q)<|DT Z Z (fun _ q=>rw_convI Z tyCI_uint8_int Z q)<|dw_nil<|rw_indexAddr (k3) Z tyE_S_int Z Z hk3 (hR1_0 (Nat.zero_lt_of_lt hkl3)) hkl3<|rw_storeOw (F':=[]) tyP_int.sz hO (by rw [hL]; exact hkl3) Z Z ((pg PR PR))<|fun ch4 how4=>?_
   refine ND<|IB<|RG<|MV Z Z<|rw_add Z Z Z<|AS Z Z<|ND<|?_
   refine gw_sub (Sub.consE (i:=8) Z (int_succ (by have:=of_decide_eq_true h1; omega)) (Sub.cons (i:=1) Z (Sub.cons (i:=2) Z (Sub.cons (i:=4) Z (Sub.cons (i:=5) Z (Sub.cons (i:=6) Z (Sub.cons (i:=7) Z (Sub.nil _)))))))) (ih2 (i + 1,(L.set k3 (IntKind.i64.wrap ((y3.toNat : Nat) : Int))),ch4) ?_ ?_)
   ·exact ⟨by have:=hiD3; omega,by rw [List.length_set]; exact hL,how4⟩
   ·show D.length - (i + 1) < D.length - i; have:=hiD3; omega
  refine EX Z<|SQ<|RG<|FA Z tyF_impl_Ring_2 Z<|LD (i:=2) Z tyP_int Z Z Z<|MV Z Z<|rw_add Z Z Z<|FA Z tyF_impl_Ring_2 Z<|ST (i:=0) [_] [_,_,_,_] tyP_int.sz Z Z Z Z Z Z Z Z<|ND<|SQ<|RG<|LS (i:=0) [_,_,_,_] Z tyS_impl_Ring Z Z Z Z<|MV Z Z<|ST (i:=1) [_,_,_,_] [_,_,_,_] tyS_impl_Ring.sz Z Z Z Z Z Z Z Z<|AS Z Z<|ND<|?_
  refine ret_cn ch Tryz.func193 (res2 Tryz.func193 Z (rv_s (i:=1) [_,_,_,_] tyS_impl_Ring Z Z Z Z) (rv_tmp Z)) ?_ ?_
  ·exact ⟨_,L,rfl,⟨_,_,rfl,hO,rfl⟩,hL⟩
  ·exact (List.sublist_append_left _ _).trans (List.sublist_append_right _ _)
theorem spec_DropRing {w : World} {cs : List Value} {x : Ring} (hv : RdRing w cs x) (hb : x.le 1048576) {to_ : Int} (hto_ : to_ ≤ 4611686018427387903) : CN Tryz.prog 198 [.agg cs.toArray, .int .i64 to_] w (fun v ch => ∃ cs' L p ok, v = .tuple #[.agg cs'.toArray, .bool ok] ∧ OwRing cs' { x with base := p, cells := L } ch ∧ L.length = x.cells.length) := by
 obtain ⟨v0,rfl,k0⟩:=hv
 obtain ⟨A0,c0,rfl,hA0⟩:=k0
 have hb0 : x.cells.length ≤ 1048576:=hb
 refine cn_of Tryz.func198 Z Z Z<|SQ<|RG<|BX [_,_,_,_] Z Z Z<|fun b1=>AL Z tyZ_impl_Ring<|fun b2=>AS Z Z<|ND<|SQ<|RG<|LS (i:=1) [_,_,_,_] Z tyS_impl_Ring Z Z Z Z<|CN1 Z fun_spec_l8Copy Z (fun w hs=>spec_l8Copy ⟨_,Z,(hA0.s Pl.keeps hs)⟩ (show _ ≤ _ from hb0))<|fun vv1 ch1 how1=>?_
 obtain ⟨cs1,rfl,v1_0,c1_0,rfl,h1_0,rfl⟩:=how1
 obtain ⟨R1_0,b1_0,rfl,hR1_0,hrd1_0⟩:=h1_0.shape eInt
 refine AL Z tyZ_impl_Ring<|fun b3=>ST (i:=0) [_,_,_,_] [_,_,_,_] tyS_impl_Ring.sz Z Z Z Z Z Z Z Z<|ND<|SQ<|SQ<|RG<|LS (i:=2) [_,_,_,_] Z tyS_impl_Ring Z Z Z Z<|CV1 Z fun_spec_IsRing Z (fun w hs=>spec_IsRing ⟨_,Z,(hA0.s Pl.keeps hs)⟩ (show _ ≤ _ from hb0))<|NT Z Z<|MV Z Z<|?_
 refine rw_caseN (j:=13) Z (fun h1=>?_) (fun h1=>?_)
 ·refine SKP Z<|PT Z Z Z Z<|MV Z Z<|SKP Z<|PT Z Z Z Z<|ND<|CT Z Z<|SQ<|RG<|LS (i:=0) [_,_,_,_] Z tyS_impl_Ring Z Z Z Z<|ST (i:=1) [_,_,_,_] [_,_,_,_] tyS_impl_Ring.sz Z Z Z Z Z Z Z Z<|AS Z Z<|ND<|?_
  refine ret_cn ch1 Tryz.func198 (res2 Tryz.func198 Z (rv_s (i:=1) [_,_,_,_] tyS_impl_Ring Z Z Z Z) (rv_tmp Z)) ?_ ?_
  ·exact ⟨_,_,_,_,rfl,⟨_,_,rfl,h1_0,rfl⟩,rfl⟩
  ·exact (List.sublist_append_left _ _).trans (List.sublist_append_right _ _)
 refine ON Z Z Z<|MV Z Z<|ON Z Z Z<|FA Z tyF_impl_Ring_1 Z<|ON Z Z Z<|LD (i:=2) Z tyP_int Z Z Z<|ON Z Z Z<|rw_lss Z Z Z<|PF Z Z Z Z<|MV Z Z<|?_
 refine rw_caseL (j:=19) Z (fun h2=>?_) (fun h2=>?_)
 ·refine SKP Z<|PT Z Z Z Z<|ND<|CT Z Z<|SQ<|RG<|LS (i:=0) [_,_,_,_] Z tyS_impl_Ring Z Z Z Z<|ST (i:=1) [_,_,_,_] [_,_,_,_] tyS_impl_Ring.sz Z Z Z Z Z Z Z Z<|AS Z Z<|ND<|?_
  refine ret_cn ch1 Tryz.func198 (res2 Tryz.func198 Z (rv_s (i:=1) [_,_,_,_] tyS_impl_Ring Z Z Z Z) (rv_tmp Z)) ?_ ?_
  ·exact ⟨_,_,_,_,rfl,⟨_,_,rfl,h1_0,rfl⟩,rfl⟩
  ·exact (List.sublist_append_left _ _).trans (List.sublist_append_right _ _)
 refine ON Z Z Z<|MV Z Z<|ON Z Z Z<|FA Z tyF_impl_Ring_2 Z<|ON Z Z Z<|LD (i:=2) Z tyP_int Z Z Z<|ON Z Z Z<|rw_gtr Z Z Z<|PF Z Z Z Z<|ND<|?_
 refine gw_cond Z (fun h3=>?_) (fun h3=>?_)
 ·refine SQ<|RG<|LS (i:=0) [_,_,_,_] Z tyS_impl_Ring Z Z Z Z<|ST (i:=1) [_,_,_,_] [_,_,_,_] tyS_impl_Ring.sz Z Z Z Z Z Z Z Z<|AS Z Z<|ND<|?_
  refine ret_cn ch1 Tryz.func198 (res2 Tryz.func198 Z (rv_s (i:=1) [_,_,_,_] tyS_impl_Ring Z Z Z Z) (rv_tmp Z)) ?_ ?_
  ·exact ⟨_,_,_,_,rfl,⟨_,_,rfl,h1_0,rfl⟩,rfl⟩
  ·exact (List.sublist_append_left _ _).trans (List.sublist_append_right _ _)
 refine SK<|SQ<|SQ<|RG<|FA Z tyF_impl_Ring_1 Z<|LD (i:=2) Z tyP_int Z Z Z<|AS Z Z<|ND<|BK<|?_
 have hr_ : isRing x = true:=h1
 refine gw_loopX (α:=Int × List Int × List Ck) (fun z_=>0 ≤ z_.1 ∧ z_.2.1.length = x.cells.length ∧ OwS 3 1 (PlO intC) (.slice R1_0 x.cells.length b1_0) z_.2.1 z_.2.2) (fun z_=>(to_ - z_.1).toNat) (fun e z_=>(7,.int .i64 z_.1) :: e) (fun B _=>B) (fun F z_=>z_.2.2 ++ ([])) (x.base,x.cells,ch1) [(1,_),(2,_),(4,_),(5,_),(6,_)] (Sub.consE Z Z (Sub.cons (i:=1) Z (Sub.cons (i:=2) Z (Sub.cons (i:=4) Z (Sub.cons (i:=5) Z (Sub.cons (i:=6) Z (Sub.nil _))))))) Z Z ?_ ?_
 ·exact ⟨(isRing_end hr_).1,rfl,h1_0⟩
 ·rintro ⟨a_,L,ch⟩ hI2 ih2
  dsimp only at hI2
  dsimp only
  obtain ⟨ha_,hL,hO⟩:=hI2
  obtain ⟨k_,hk_,hkl_⟩:=place (ring_size hr_).1.1 (ring_size hr_).2 ha_
  refine SQ<|SQ<|RG<|MV Z Z<|MV Z Z<|rw_lss Z Z Z<|ND<|?_
  refine gw_cond Z (fun h4=>?_) (fun h4=>?_)
  ·refine SK<|SQ<|BK<|gw_draw' [dd 0,dd 1,dd 2,dd 3,dd 4,dd 5] [6,7] mixed Z (FD Z) (ts:=[_,_]) Z<|DT Z Z (fun _ q=>FA Z tyF_impl_Ring_3 Z q)<|DT Z Z (fun _ q=>LD (i:=0) Z tyP_S_int Z Z Z q)<|DM Z Z Z<|DT Z Z (fun _ q=>FA Z tyF_impl_Ring_0 Z q)<|DT Z Z (fun _ q=>LD (i:=2) Z tyP_int Z Z Z q)<|DT Z Z (fun _ q=>rw_rem Z Z Z (by have:=(ring_size hr_).1; omega) q)<|?_
   refine dw_nil<|rw_indexAddr (k_) Z tyE_S_int Z Z hk_ (hR1_0 (Nat.zero_lt_of_lt hkl_)) hkl_<|rw_storeOw (F':=[]) tyP_int.sz hO (by rw [hL]; exact hkl_) Z Z ((pg PR PR))<|fun ch3 how3=>ND<|IB<|RG<|MV Z Z<|rw_add Z Z Z<|AS Z Z<|ND<|?_
   refine gw_sub (Sub.consE (i:=7) Z Z (Sub.cons (i:=1) Z (Sub.cons (i:=2) Z (Sub.cons (i:=4) Z (Sub.cons (i:=5) Z (Sub.cons (i:=6) Z (Sub.nil _))))))) (ih2 (w64 (a_ + 1),(L.set k_ 0),ch3) ?_ ?_)
   ·have hlt_:=of_decide_eq_true h4
    exact ⟨dr_step ha_ hto_ hlt_,by rw [List.length_set]; exact hL,how3⟩
   ·have hlt_:=of_decide_eq_true h4
    exact dr_meas ha_ hto_ hlt_
  refine EX Z<|SQ<|RG<|MV Z Z<|FA Z tyF_impl_Ring_1 Z<|ST (i:=0) [_] [_,_,_,_] tyP_int.sz Z Z Z Z Z Z Z Z<|ND<|SQ<|RG<|LS (i:=0) [_,_,_,_] Z tyS_impl_Ring Z Z Z Z<|ST (i:=1) [_,_,_,_] [_,_,_,_] tyS_impl_Ring.sz Z Z Z Z Z Z Z Z<|AS Z Z<|ND<|?_
  refine ret_cn ch Tryz.func198 (res2 Tryz.func198 Z (rv_s (i:=1) [_,_,_,_] tyS_impl_Ring Z Z Z Z) (rv_tmp Z)) ?_ ?_
  ·exact ⟨_,_,_,_,rfl,⟨_,_,rfl,hO,rfl⟩,hL⟩
  ·exact (List.sublist_append_left _ _).trans (List.sublist_append_right _ _)
set_option maxRecDepth 20000 in
theorem spec_l9Piece {w : World} {cs : List Value} {x : Sender} (hv : RdSender w cs x) (p : Piece) : CV Tryz.prog 194 [.agg cs.toArray, .agg p.cells.toArray] w (.bool (pieceIn x p)) := by
 obtain ⟨v0,v1,v2,v3,rfl,k0,k1,k2,k3⟩:=hv
 obtain ⟨A0,c0,rfl,hA0⟩:=k0
 obtain ⟨A1,c1,rfl,hA1⟩:=k1
 obtain ⟨A2,c2,rfl,hA2⟩:=k2
 obtain ⟨A3,c3,rfl,hA3⟩:=k3
 refine cv_of Tryz.func194 Z Z Z<|SQ<|RG<|BX [_,_,_,_,_,_,_,_,_,_,_,_] Z Z Z<|fun b1=>BX [_,_,_] Z Z Z<|fun b2=>AS Z Z<|ND<|SQ<|RG<|FA Z tyF_impl_Piece_0 Z<|LD (i:=0) Z tyP_int Z Z Z<|rw_geq Z Z Z<|MV Z Z<|?_
 refine rw_caseL (j:=8) Z (fun h1=>?_) (fun h1=>?_)
 ·refine ON Z Z Z<|FA Z tyF_impl_Piece_0 Z<|ON Z Z Z<|LD (i:=0) Z tyP_int Z Z Z<|ON Z Z Z<|FA Z tyF_impl_Sender_1 Z<|ON Z Z Z<|FA Z tyF_impl_Ring_2 Z<|ON Z Z Z<|LD (i:=1) Z tyP_int Z Z Z<|ON Z Z Z<|rw_leq Z Z Z<|PT Z Z Z Z<|MV Z Z<|?_
  refine rw_caseL (j:=16) Z (fun h2=>?_) (fun h2=>?_)
  ·refine ON Z Z Z<|FA Z tyF_impl_Piece_1 Z<|ON Z Z Z<|LD (i:=0) Z tyP_string Z Z Z<|ON Z Z Z<|rw_lenS Z (by kernel_rfl) Z<|ON Z Z Z<|FA Z tyF_impl_Sender_1 Z<|ON Z Z Z<|FA Z tyF_impl_Ring_2 Z<|ON Z Z Z<|LD (i:=1) Z tyP_int Z Z Z<|ON Z Z Z<|FA Z tyF_impl_Piece_0 Z<|ON Z Z Z<|LD (i:=0) Z tyP_int Z Z Z<|ON Z Z Z<|?_
   refine rw_sub Z Z Z<|ON Z Z Z<|rw_leq Z Z Z<|PT Z Z Z Z<|MV Z Z<|?_
   refine rw_caseL (j:=28) Z (fun h3=>?_) (fun h3=>?_)
   ·refine ON Z Z Z<|FA Z tyF_impl_Piece_2 Z<|ON Z Z Z<|LD (i:=0) Z tyP_bool Z Z Z<|ON Z Z Z<|NT Z Z<|ON Z Z Z<|MV Z Z<|?_
    refine rw_caseN (j:=32) Z (fun h4=>?_) (fun h4=>?_)
    ·refine SKP Z<|ON Z Z Z<|PT Z Z Z Z<|PT Z Z Z Z<|AS Z Z<|ND<|RT Tryz.func194 Z Z<|?_
     simp [pieceIn,h1,h2,h3,h4]
    refine ON Z Z Z<|FA Z tyF_impl_Sender_5 Z<|ON Z Z Z<|LD (i:=1) Z tyP_int Z Z Z<|ON Z Z Z<|rw_neq Z Z Z<|ON Z Z Z<|MV Z Z<|?_
    refine rw_caseN (j:=36) Z (fun h5=>?_) (fun h5=>?_)
    ·refine ON Z Z Z<|FA Z tyF_impl_Piece_0 Z<|ON Z Z Z<|LD (i:=0) Z tyP_int Z Z Z<|ON Z Z Z<|FA Z tyF_impl_Piece_1 Z<|ON Z Z Z<|LD (i:=0) Z tyP_string Z Z Z<|ON Z Z Z<|rw_lenS Z (by kernel_rfl) Z<|ON Z Z Z<|rw_add Z Z Z<|ON Z Z Z<|FA Z tyF_impl_Sender_5 Z<|ON Z Z Z<|LD (i:=1) Z tyP_int Z Z Z<|ON Z Z Z<|EQ1 Z Z Z<|?_
     refine ON Z Z Z<|PT Z Z Z Z<|ON Z Z Z<|PF Z Z Z Z<|PT Z Z Z Z<|AS Z Z<|ND<|RT Tryz.func194 Z Z<|?_
     simp [pieceIn,h1,h2,h3,h4,h5]
    refine SKP Z<|ON Z Z Z<|PF Z Z Z Z<|ON Z Z Z<|PF Z Z Z Z<|PT Z Z Z Z<|AS Z Z<|ND<|RT Tryz.func194 Z Z<|?_
    simp [pieceIn,h1,h2,h3,h4,h5]
   refine SKP Z<|PF Z Z Z Z<|AS Z Z<|ND<|RT Tryz.func194 Z Z<|?_
   simp [pieceIn,h1,h2,h3]
  refine SKP Z<|PF Z Z Z Z<|MV Z Z<|SKP Z<|PF Z Z Z Z<|AS Z Z<|ND<|RT Tryz.func194 Z Z<|?_
  simp [pieceIn,h1,h2]
 refine SKP Z<|PF Z Z Z Z<|MV Z Z<|SKP Z<|PF Z Z Z Z<|MV Z Z<|SKP Z<|PF Z Z Z Z<|AS Z Z<|ND<|RT Tryz.func194 Z Z<|?_
 simp [pieceIn,h1]
theorem spec_l9Range (p : Piece) (w : World) : CV Tryz.prog 195 [.agg p.cells.toArray] w (.agg (Range.cells ⟨p.offset, w64 (p.offset + (p.data.size : Int))⟩).toArray) := by
 refine cv_of Tryz.func195 Z Z Z<|SQ<|RG<|BX [_,_,_] Z Z Z<|fun b1=>AL Z tyZ_impl_Range<|fun b2=>ND<|SQ<|RG<|FA Z tyF_impl_Piece_0 Z<|LD (i:=1) Z tyP_int Z Z Z<|FA Z tyF_impl_Piece_0 Z<|LD (i:=1) Z tyP_int Z Z Z<|FA Z tyF_impl_Piece_1 Z<|LD (i:=1) Z tyP_string Z Z Z<|rw_lenS Z (by kernel_rfl) Z<|rw_add Z Z Z<|rw_build [_,_] Z tyB_impl_Range tyZ_impl_Range Z Z<|ST (i:=0) [_,_] [_,_] tyS_impl_Range.sz Z Z Z Z Z Z Z Z<|?_
 refine ND<|ret_cv Tryz.func195 (res1 Tryz.func195 Z (rv_s (i:=0) [_,_] tyS_impl_Range Z Z Z Z))<|?_
 rfl
end Go.Proofs.YtbhnekiclbfmgaaGreat
namespace Go.Proofs.YtbhnekiclbfmgaaGreat
open SL Go.RowKit
theorem laws_big {w : World} {v : Value} {l : List UInt8} (hv : RdS w 1 (Pl byC) v l) : CV Tryz.prog 5 [v] w (.bool (decide ((1048576 : Int) < (l.length : Int)))) := by
 obtain ⟨A,cp,rfl,hA⟩:=hv
 refine cv_of Tryz.func5 Z Z Z<|SQ<|RG<|AS Z Z<|ND<|SQ<|RG<|MV Z Z<|rw_len Z tyE_S_uint8 Z<|rw_gtr Z Z Z<|AS Z Z<|ND<|RT Tryz.func5 Z Z<|?_
 rfl
theorem spec_l1New {w : World} {cp : Nat} {A : Option Addr} {l : List UInt8} (hA : RdL w 1 (Pl byC) A l) (hb : l.length ≤ 1048576) : CN Tryz.prog 48 [.slice A l.length cp] w (fun v ch => ∃ (b : Nat) (h : Int), v = .pointer (some ⟨b, 0, none⟩) ∧ ch = [cur b A l.length cp 0 h]) := by
 refine cn_of Tryz.func48 Z Z Z<|SQ<|RG<|AS Z Z<|ND<|SQ<|RG<|MV Z Z<|rw_len Z tyE_S_uint8 Z<|rw_add Z Z Z<|AS Z Z<|ND<|SQ<|SQ<|RG<|AS Z Z<|ND<|BK<|?_
 refine gw_loopC (α:=Nat × Int) (fun z_=>z_.1 ≤ l.length) (fun z_=>l.length - z_.1) (fun e z_=>(4,.int .i64 (z_.1 : Int)) :: (3,.int .i64 z_.2) :: e) (0,_) [(0,_),(2,_)] (Sub.consE Z Z (Sub.consE Z Z (Sub.cons (i:=0) Z (Sub.cons (i:=2) Z (Sub.nil _))))) ?_ ?_
 ·exact Nat.zero_le _
 ·rintro ⟨i,h⟩ hI1 ih1
  dsimp only at hI1
  dsimp only
  have hle:=hI1
  refine SQ<|SQ<|RG<|MV Z Z<|MV Z Z<|rw_len Z tyE_S_uint8 Z<|rw_lss Z Z Z<|MV Z Z<|?_
  refine rw_caseL (j:=12) Z (fun h1=>?_) (fun h1=>?_)
  ·have hi2:=lt_of_dec h1
   obtain ⟨x3,hx3⟩:=get_of_lt hi2
   have hd3:=drop_cons hx3
   refine ON Z Z Z<|MV Z Z<|ON Z Z Z<|rw_lss Z Z Z<|PT Z Z Z Z<|ND<|?_
   refine gw_cond Z (fun h2=>?_) (fun h2=>?_)
   ·refine SK<|SQ<|BK<|RG<|MV Z Z<|rw_mul Z Z Z<|MV Z Z<|MV Z Z<|?_
    have hq4:=hA.plain hx3
    refine rw_indexAddr (i) Z tyE_S_uint8 Z Z Z (hA.some hi2) hi2<|rw_loadX _ Z tyP_uint8 Z (fun w hs=>hq4.ld0 hs Z)<|rw_convI Z tyCI_uint8_int Z<|rw_add Z Z Z<|rw_add Z Z Z<|rw_and Z Z Z<|AS Z Z<|ND<|IB<|RG<|MV Z Z<|rw_add Z Z Z<|AS Z Z<|ND<|?_
    refine gw_sub (Sub.consE (i:=4) Z (int_succ (by omega)) (Sub.consE (i:=3) Z Z (Sub.cons (i:=0) Z (Sub.cons (i:=2) Z (Sub.nil _))))) (ih1 (i + 1,_) ?_ ?_)
    ·show i + 1 ≤ l.length; omega
    ·show l.length - (i + 1) < l.length - i; omega
   refine EX Z<|SQ<|RG<|MV Z Z<|MV Z Z<|rw_build [_,_,_] Z tyB_spec_l1Cur tyZ_spec_l1Cur Z Z<|BX [_,_,_] Z Z Z<|fun b1=>AS Z Z<|ND<|ret_cnB Tryz.func48 (res1 Tryz.func48 Z (rv_tmp Z))<|?_
   exact ⟨_,_,rfl,rfl⟩
  have hn5:=nil_of_dec h1
  refine SKP Z<|PF Z Z Z Z<|ND<|CF Z Z<|EX Z<|SQ<|RG<|MV Z Z<|MV Z Z<|rw_build [_,_,_] Z tyB_spec_l1Cur tyZ_spec_l1Cur Z Z<|BX [_,_,_] Z Z Z<|fun b2=>AS Z Z<|ND<|ret_cnB Tryz.func48 (res1 Tryz.func48 Z (rv_tmp Z))<|?_
  exact ⟨_,_,rfl,rfl⟩
theorem spec_l1Byte {w : World} {b cp i : Nat} {A : Option Addr} {l : List UInt8} {h : Int} (hr : Rdb byC w A l b) (hi : i ≤ l.length) (hin : ∀ c ∈ [cur b A l.length cp i h], c.In w) (hnd : ([cur b A l.length cp i h].map Ck.b).Nodup) : CH Tryz.prog 150 [.pointer (some ⟨b, 0, none⟩)] w [cur b A l.length cp i h] (Drew natV (· ≤ 255) b A l.length cp []) := by
 refine ch_ofB hin hnd Tryz.func150 Z Z Z<|SQ<|RG<|AS Z Z<|ND<|SQ<|RG<|MV Z Z<|MV Z Z<|rw_nilCheck Z Z<|FA Z tyF_spec_l1Cur_2 Z<|LD (i:=0) Z tyP_int Z Z Z<|rw_mul Z Z Z<|rw_add Z Z Z<|rw_nilCheck Z Z<|FA Z tyF_spec_l1Cur_2 Z<|ST (i:=0) [_] [_,_,_] tyP_int.sz Z Z Z Z Z Z Z Z<|ND<|SQ<|gw_draw' [dd 0,dd 1,dd 2,dd 3,dd 4,dd 5,dd 6,dd 7,dd 8,dd 9] [10,11,12] mixed Z (FD Z) (ts:=[_,_,_]) Z<|?_
 refine DM Z Z Z<|DT Z Z (fun _ q=>rw_nilCheck Z Z q)<|DT Z Z (fun _ q=>FA Z tyF_spec_l1Cur_2 Z q)<|DT Z Z (fun _ q=>LD (i:=0) Z tyP_int Z Z Z q)<|DT Z Z (fun _ q=>rw_shr Z Z Z (by decide) (by decide) q)<|DM Z Z Z<|DT Z Z (fun _ q=>rw_nilCheck Z Z q)<|DT Z Z (fun _ q=>FA Z tyF_spec_l1Cur_2 Z q)<|DT Z Z (fun _ q=>LD (i:=0) Z tyP_int Z Z Z q)<|?_
 refine DT Z Z (fun _ q=>rw_shr Z Z Z (by decide) (by decide) q)<|dw_nil<|rw_xor Z Z Z<|rw_and Z Z Z<|AS Z Z<|ND<|SQ<|SQ<|gw_draw' [dd 0,dd 1,dd 2,dd 3,dd 4,dd 5,dd 6,dd 7,dd 8] [9] mixed Z (FD Z) (ts:=[_]) Z<|DM Z Z Z<|DT Z Z (fun _ q=>rw_nilCheck Z Z q)<|DT Z Z (fun _ q=>FA Z tyF_spec_l1Cur_1 Z q)<|DT Z Z (fun _ q=>LD (i:=0) Z tyP_int Z Z Z q)<|?_
 refine DM Z Z Z<|DT Z Z (fun _ q=>rw_nilCheck Z Z q)<|DT Z Z (fun _ q=>FA Z tyF_spec_l1Cur_0 Z q)<|DT Z Z (fun _ q=>LD (i:=0) Z tyP_S_uint8 Z Z Z q)<|DT Z Z (fun _ q=>rw_len Z tyE_S_uint8 Z q)<|dw_nil<|rw_lss Z Z Z<|ND<|?_
 refine gw_cond Z (fun h1=>?_) (fun h1=>?_)
 ·have hi1:=lt_of_dec h1
  obtain ⟨x2,hx2⟩:=get_of_lt hi1
  have hd2:=drop_cons hx2
  refine SQ<|gw_draw' [dd 0,dd 1,dd 2,dd 3,dd 4,dd 5,dd 6,dd 7,dd 8,dd 9,dd 10,dd 11] [12,13,14] mixed Z (FD Z) (ts:=[_,_,_]) Z<|DM Z Z Z<|DM Z Z Z<|DT Z Z (fun _ q=>rw_nilCheck Z Z q)<|DT Z Z (fun _ q=>FA Z tyF_spec_l1Cur_0 Z q)<|DT Z Z (fun _ q=>LD (i:=0) Z tyP_S_uint8 Z Z Z q)<|DM Z Z Z<|DT Z Z (fun _ q=>rw_nilCheck Z Z q)<|?_
  refine DT Z Z (fun _ q=>FA Z tyF_spec_l1Cur_1 Z q)<|DT Z Z (fun _ q=>LD (i:=0) Z tyP_int Z Z Z q)<|?_
  have hq3:=hr.plain hx2
  refine DT Z Z (fun _ q=>rw_indexAddr (i) Z tyE_S_uint8 Z Z Z (hr.some hi1) hi1 q)<|DT Z Z (fun _ q=>rw_loadX _ Z tyP_uint8 Z (fun w hs=>hq3.ld0 hs Z) q)<|DT Z Z (fun _ q=>rw_convI Z tyCI_uint8_int Z q)<|dw_nil<|rw_add Z Z Z<|rw_and Z Z Z<|AS Z Z<|ND<|RG<|MV Z Z<|MV Z Z<|rw_nilCheck Z Z<|FA Z tyF_spec_l1Cur_1 Z<|LD (i:=0) Z tyP_int Z Z Z<|rw_add Z Z Z<|rw_nilCheck Z Z<|FA Z tyF_spec_l1Cur_1 Z<|?_
  refine ST (i:=0) [_] [_,_,_] tyP_int.sz Z Z Z Z Z Z Z Z<|ND<|SQ<|RG<|MV Z Z<|AS Z Z<|ND<|ret_chB Tryz.func150 (res1 Tryz.func150 Z (rv_tmp Z))<|?_
  exact drew_byte1 hi1 hr.len
 have hn4:=nil_of_dec h1
 refine SK<|SQ<|RG<|MV Z Z<|AS Z Z<|ND<|ret_chB Tryz.func150 (res1 Tryz.func150 Z (rv_tmp Z))<|?_
 exact drew_byte hi
theorem spec_l1Below {w : World} {b cp i : Nat} {A : Option Addr} {l : List UInt8} {h : Int} (hr : Rdb byC w A l b) (hi : i ≤ l.length) {n : Nat} (h0 : 0 < n) (h256 : n ≤ 256) (hin : ∀ c ∈ [cur b A l.length cp i h], c.In w) (hnd : ([cur b A l.length cp i h].map Ck.b).Nodup) : CH Tryz.prog 104 [.pointer (some ⟨b, 0, none⟩), .int .i64 (n : Int)] w [cur b A l.length cp i h] (Drew natV (· < n) b A l.length cp []) := by
 refine ch_of hin hnd Tryz.func104 Z Z Z<|SQ<|RG<|AS Z Z<|ND<|SQ<|SQ<|RG<|MV Z Z<|rw_leq Z Z Z<|ND<|CF Z (decide_eq_false (by omega))<|SK<|SQ<|SQ<|RG<|MV Z Z<|rw_leq Z Z Z<|ND<|CT Z (decide_eq_true (by omega))<|SQ<|RG<|MV Z Z<|rw_ch (G:=[cur b A l.length cp i h]) (R:=[]) Z fun_spec_l1Byte Z ((pg PR PR)) (fun w hs hin hnd=>spec_l1Byte (hr.sat hs) hi hin hnd)<|fun v1 ch1 how1=>?_
 obtain ⟨x1,i1,k1,rfl,hx1,hi1,rfl⟩:=how1
 refine MV Z Z<|rw_rem Z Z Z (by first | decide | omega)<|AS Z Z<|ND<|?_
 refine ret_ch [cur b A l.length cp i1 k1] Tryz.func104 (res1 Tryz.func104 Z (rv_tmp Z)) ?_ ?_
 ·exact drew_below h0 hi1
 ·exact List.singleton_sublist.2 (by simp)
theorem spec_l1Once {w : World} {b cp i : Nat} {A : Option Addr} {l : List UInt8} {h : Int} (hr : Rdb byC w A l b) (hi : i ≤ l.length) {n : Nat} (h0 : 0 < n) (h256 : n ≤ 256) (hin : ∀ c ∈ [cur b A l.length cp i h], c.In w) (hnd : ([cur b A l.length cp i h].map Ck.b).Nodup) : CH Tryz.prog 49 [.pointer (some ⟨b, 0, none⟩), .int .i64 (n : Int)] w [cur b A l.length cp i h] (Drew Value.bool (fun _ => True) b A l.length cp []) := by
 refine ch_of hin hnd Tryz.func49 Z Z Z<|SQ<|RG<|AS Z Z<|ND<|SQ<|RG<|MV Z Z<|MV Z Z<|rw_ch (G:=[cur b A l.length cp i h]) (R:=[]) Z fun_spec_l1Below Z ((pg PR PR)) (fun w hs hin hnd=>spec_l1Below (hr.sat hs) hi (n:=n) h0 h256 hin hnd)<|fun v1 ch1 how1=>?_
 obtain ⟨x1,i1,k1,rfl,hx1,hi1,rfl⟩:=how1
 refine EQ1 Z Z Z<|AS Z Z<|ND<|?_
 refine ret_ch [cur b A l.length cp i1 k1] Tryz.func49 (res1 Tryz.func49 Z (rv_tmp Z)) ?_ ?_
 ·exact ⟨_,_,_,rfl,trivial,hi1,rfl⟩
 ·exact List.singleton_sublist.2 (by simp)
theorem spec_l1PickInt {w : World} {b cp i : Nat} {A : Option Addr} {l : List UInt8} {h : Int} (hr : Rdb byC w A l b) (hi : i ≤ l.length) {vL : Value} {L : List Int} (hE : ∃ A2 cp2, vL = .slice A2 (L).length cp2 ∧ Rdb intC w A2 L b) (hL0 : 0 < L.length) (hL1 : L.length ≤ 256) (hin : ∀ c ∈ [cur b A l.length cp i h], c.In w) (hnd : ([cur b A l.length cp i h].map Ck.b).Nodup) : CH Tryz.prog 108 [.pointer (some ⟨b, 0, none⟩), vL] w [cur b A l.length cp i h] (Drew (Value.int .i64) (fun x => x ∈ L) b A l.length cp []) := by
 obtain ⟨A2,cp2,rfl,hL⟩:=hE
 refine ch_of hin hnd Tryz.func108 Z Z Z<|SQ<|RG<|AS Z Z<|ND<|SQ<|RG<|MV Z Z<|MV Z Z<|MV Z Z<|rw_len Z tyE_S_int Z<|rw_ch (G:=[cur b A l.length cp i h]) (R:=[]) Z fun_spec_l1Below Z ((pg PR PR)) (fun w hs hin hnd=>spec_l1Below (hr.sat hs) hi (n:=L.length) hL0 hL1 hin hnd)<|fun v1 ch1 how1=>?_
 obtain ⟨x1,i1,k1,rfl,hx1,hi1,rfl⟩:=how1
 obtain ⟨x2,hx2⟩:=get_of_lt hx1
 have hd2:=drop_cons hx2
 have hq3:=hL.plain hx2
 refine rw_indexAddr (x1) Z tyE_S_int Z Z Z (hL.some hx1) hx1<|rw_loadX _ Z tyP_int Z (fun w hs=>hq3.ld0 hs Z)<|AS Z Z<|ND<|?_
 refine ret_ch [cur b A l.length cp i1 k1] Tryz.func108 (res1 Tryz.func108 Z (rv_tmp Z)) ?_ ?_
 ·exact ⟨_,_,_,rfl,List.mem_of_getElem? hx2,hi1,rfl⟩
 ·exact List.singleton_sublist.2 (by simp)
theorem spec_l1Pick {w : World} {b cp i : Nat} {A : Option Addr} {l : List UInt8} {h : Int} (hr : Rdb byC w A l b) (hi : i ≤ l.length) {vL : Value} {L : List (List UInt8)} (hE : ∃ A2 cp2, vL = .slice A2 ((L.map mkS)).length cp2 ∧ Rdb strC w A2 (L.map mkS) b) (hL0 : 0 < (L.map mkS).length) (hL1 : (L.map mkS).length ≤ 256) (hL2 : ∀ t ∈ L, t.length ≤ 1) (hin : ∀ c ∈ [cur b A l.length cp i h], c.In w) (hnd : ([cur b A l.length cp i h].map Ck.b).Nodup) : CH Tryz.prog 189 [.pointer (some ⟨b, 0, none⟩), vL] w [cur b A l.length cp i h] (Drew (fun t => Value.string (mkS t)) (fun t => t.length ≤ 1) b A l.length cp []) := by
 obtain ⟨A2,cp2,rfl,hL⟩:=hE
 refine ch_of hin hnd Tryz.func189 Z Z Z<|SQ<|RG<|AS Z Z<|ND<|SQ<|RG<|MV Z Z<|MV Z Z<|MV Z Z<|rw_len Z tyE_S_string Z<|rw_ch (G:=[cur b A l.length cp i h]) (R:=[]) Z fun_spec_l1Below Z ((pg PR PR)) (fun w hs hin hnd=>spec_l1Below (hr.sat hs) hi (n:=(L.map mkS).length) hL0 hL1 hin hnd)<|fun v1 ch1 how1=>?_
 obtain ⟨x1,i1,k1,rfl,hx1,hi1,rfl⟩:=how1
 obtain ⟨x2,hx2⟩:=get_of_lt hx1
 obtain ⟨t,ht,rfl⟩:=str_get hx2
 have hq3:=hL.plain hx2
 refine rw_indexAddr (x1) Z tyE_S_string Z Z Z (hL.some hx1) hx1<|rw_loadX _ Z tyP_string Z (fun w hs=>hq3.ld0 hs Z)<|AS Z Z<|ND<|?_
 refine ret_ch [cur b A l.length cp i1 k1] Tryz.func189 (res1 Tryz.func189 Z (rv_tmp Z)) ?_ ?_
 ·exact ⟨t,_,_,rfl,hL2 t (List.mem_of_getElem? ht),hi1,rfl⟩
 ·exact List.singleton_sublist.2 (by simp)
theorem spec_l4Data {w : World} {b cp i : Nat} {A : Option Addr} {l : List UInt8} {h : Int} (hr : Rdb byC w A l b) (hi : i ≤ l.length) {m : Nat} (hm : m ≤ 100) (hin : ∀ c ∈ [cur b A l.length cp i h], c.In w) (hnd : ([cur b A l.length cp i h].map Ck.b).Nodup) : CH Tryz.prog 176 [.pointer (some ⟨b, 0, none⟩), .int .i64 (m : Int)] w [cur b A l.length cp i h] (Drew (fun t => Value.string (mkS t)) (fun t => t.length ≤ m) b A l.length cp []) := by
 refine ch_of hin hnd Tryz.func176 Z Z Z<|SQ<|RG<|AS Z Z<|ND<|SQ<|RG<|AS Z Z<|ND<|SQ<|SQ<|RG<|MV Z Z<|MV Z Z<|rw_addK (((m + 1) : Nat) : Int) Z Z Z (by rw [show (((m + 1) : Nat) : Int) = (m : Int) + (1 : Int) from by omega]; exact w64_of (by omega) (by omega))<|rw_ch (G:=[cur b A l.length cp i h]) (R:=[]) Z fun_spec_l1Below Z ((pg PR PR)) (fun w hs hin hnd=>spec_l1Below (hr.sat hs) hi (n:=(m + 1)) (by first | decide | omega) (by first | decide | omega) hin hnd)<|fun v1 ch1 how1=>?_
 obtain ⟨x1,i1,k1,rfl,hx1,hi1,rfl⟩:=how1
 refine AS Z Z<|ND<|BK<|?_
 refine gw_loopX (α:=Nat × List UInt8 × Nat × Int) (fun z_=>z_.2.1.length + z_.1 ≤ m ∧ z_.2.2.1 ≤ l.length) (fun z_=>z_.1) (fun e z_=>(6,.int .i64 (z_.1 : Int)) :: (5,.string ⟨z_.2.1.toArray⟩) :: e) (fun B _=>B) (fun F z_=>[cur b A l.length cp z_.2.2.1 z_.2.2.2] ++ []) (x1,[],i1,k1) [(0,_),(4,_)] (Sub.consE Z Z (Sub.consE Z Z (Sub.cons (i:=0) Z (Sub.cons (i:=4) Z (Sub.nil _))))) Z Z ?_ ?_
 ·exact ⟨by simp only [List.length_nil]; omega,hi1⟩
 ·rintro ⟨n,s,i_,k⟩ hI2 ih2
  dsimp only at hI2
  dsimp only
  obtain ⟨hsl,hi_⟩:=hI2
  refine SQ<|SQ<|RG<|MV Z Z<|rw_gtr Z Z Z<|ND<|?_
  refine gw_cond Z (fun h1=>?_) (fun h1=>?_)
  ·have hp3:=pos_of h1
   refine SK<|SQ<|BK<|RG<|MV Z Z<|MV Z Z<|rw_sliceO (f:=strC) (([[97],[98],[99],[100]] : List (List UInt8)).map mkS) [_,_,_,_] Z tyM_S_string Z Z Z Z Z Z Z<|fun v4 ch4 how4=>rw_ch (G:=[cur b A l.length cp i_ k]) (R:=ch4 ++ ([])) Z fun_spec_l1Pick Z ((pg (pp PR) PR)) (fun w hs hin hnd=>spec_l1Pick (hr.sat hs) hi_ (lit_rdb (c:=cur b A l.length cp i_ k) eStr how4 (by decide) hs (pg (pp PR) (pg PR PR))) (by decide) (by decide) (by decide) hin hnd)<|fun v5 ch5 how5=>?_
   obtain ⟨x5,i5,k5,rfl,hx5,hi5,rfl⟩:=how5
   refine rw_catS Z Z Z (by first | omega | (simp; omega)) (by omega)<|AS Z Z<|ND<|IB<|RG<|MV Z Z<|rw_sub Z Z Z<|AS Z Z<|ND<|?_
   refine gw_dropF (F':=[cur b A l.length cp i5 k5] ++ []) (by simp)<|?_
   refine gw_sub (Sub.consE (i:=6) Z (int_pred hp3 (by omega)) (Sub.consE (i:=5) Z Z (Sub.cons (i:=0) Z (Sub.cons (i:=4) Z (Sub.nil _))))) (ih2 (n - 1,(s ++ x5),i5,k5) ?_ ?_)
   ·exact ⟨by simp only [List.length_append]; omega,hi5⟩
   ·show n - 1 < n; omega
  have hz6:=zero_of h1
  refine EX Z<|SQ<|RG<|MV Z Z<|AS Z Z<|ND<|?_
  refine ret_ch [cur b A l.length cp i_ k] Tryz.func176 (res1 Tryz.func176 Z (rv_tmp Z)) ?_ ?_
  ·exact ⟨s,_,_,rfl,by omega,hi_,rfl⟩
  ·exact List.singleton_sublist.2 (by simp)
end Go.Proofs.YtbhnekiclbfmgaaGreat
