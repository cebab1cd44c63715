/- Walks: draws. -/
import Derived.Test.YtbhnekiclbfmgaaGreatWXa
import Derived.Test.YtbhnekiclbfmgaaGreatFactsX
namespace Go.Proofs.YtbhnekiclbfmgaaGreat
open SL Go.RowKit
set_option maxHeartbeats 4000000 in
theorem spec_l9Copy {w : World} {cs : List Value} {x : Sender} (hv : RdSender w cs x) (hb : x.le 1048576) : CN Tryz.prog 131 [.agg cs.toArray] w (OwV OwSender x) := by
 obtain ⟨v0,v1,v2,v3,rfl,k0,k1,k2,k3⟩:=hv
 obtain ⟨A0,c0,rfl,hA0⟩:=k0
 obtain ⟨A1,c1,rfl,hA1⟩:=k1
 obtain ⟨A2,c2,rfl,hA2⟩:=k2
 obtain ⟨A3,c3,rfl,hA3⟩:=k3
 obtain ⟨hb0,hb1,hb2,hb3⟩:=hb
 refine cn_of Tryz.func131 Z Z Z<|SQ<|RG<|BX [_,_,_,_,_,_,_,_,_,_,_,_] Z Z Z<|fun b1=>AL Z tyZ_impl_Sender<|fun b2=>ND<|SQ<|gw_draw' [dd 0,dd 1,dd 2,dd 3,dd 5,dd 6,dd 8,dd 9,dd 11,dd 12,dd 14,dd 15,dd 16,dd 17,dd 18,dd 19,dd 20,dd 21,(4,.add),(7,.add),(10,.add),(13,.add)] [22,23] mixed Z (FD Z) (ts:=[_,_]) Z<|DT Z Z (fun _ q=>FA Z tyF_impl_Sender_0 Z q)<|DT Z Z (fun _ q=>LD (i:=1) Z tyP_int Z Z Z q)<|?_
 refine DT Z Z (fun _ q=>FA Z tyF_impl_Sender_1 Z q)<|DT Z Z (fun _ q=>LS (i:=1) [_,_,_,_] Z tyS_impl_Ring Z Z Z Z q)<|DT Z Z (fun _ q=>FA Z tyF_impl_Sender_2 Z q)<|DT Z Z (fun _ q=>LD (i:=1) Z tyP_S_impl_Range Z Z Z q)<|DT Z Z (fun _ q=>FA Z tyF_impl_Sender_3 Z q)<|DT Z Z (fun _ q=>LD (i:=1) Z tyP_S_impl_Range Z Z Z q)<|DT Z Z (fun _ q=>FA Z tyF_impl_Sender_4 Z q)<|?_
 refine DT Z Z (fun _ q=>LD (i:=1) Z tyP_S_impl_Range Z Z Z q)<|DT Z Z (fun _ q=>FA Z tyF_impl_Sender_5 Z q)<|DT Z Z (fun _ q=>LD (i:=1) Z tyP_int Z Z Z q)<|DT Z Z (fun _ q=>FA Z tyF_impl_Sender_6 Z q)<|DT Z Z (fun _ q=>LD (i:=1) Z tyP_int Z Z Z q)<|DT Z Z (fun _ q=>FA Z tyF_impl_Sender_7 Z q)<|DT Z Z (fun _ q=>LD (i:=1) Z tyP_int Z Z Z q)<|DT Z Z (fun _ q=>FA Z tyF_impl_Sender_8 Z q)<|?_
 refine DT Z Z (fun _ q=>LD (i:=1) Z tyP_int Z Z Z q)<|DA Z Z (fun _ q=>CN1 Z fun_spec_l8Copy Z (fun w hs=>spec_l8Copy ⟨_,Z,(hA0.s Pl.keeps hs)⟩ (show _ ≤ _ from hb0)) q)<|fun vv1 ch1 how1=>?_
 obtain ⟨cs1,rfl,v1_0,c1_0,rfl,h1_0,rfl⟩:=how1
 obtain ⟨R1_0,b1_0,rfl,hR1_0,hrd1_0⟩:=h1_0.shape eInt
 refine DA Z Z (fun _ q=>CN1 Z fun_spec_l3Copy Z (fun w hs=>spec_l3Copy (hA1.s Pl.keeps hs) (by omega)) q)<|fun v2 ch2 how2=>?_
 obtain ⟨R3,rc3,rfl,hR3,hrd3⟩:=(OwA.s (l:=x.pending) how2).shape eRange
 refine DA Z Z (fun _ q=>CN1 Z fun_spec_l3Copy Z (fun w hs=>spec_l3Copy (hA2.s Pl.keeps hs) (by omega)) q)<|fun v4 ch4 how4=>?_
 obtain ⟨R5,rc5,rfl,hR5,hrd5⟩:=(OwA.s (l:=x.flight) how4).shape eRange
 refine DA Z Z (fun _ q=>CN1 Z fun_spec_l3Copy Z (fun w hs=>spec_l3Copy (hA3.s Pl.keeps hs) (by omega)) q)<|fun v6 ch6 how6=>?_
 obtain ⟨R7,rc7,rfl,hR7,hrd7⟩:=(OwA.s (l:=x.acked) how6).shape eRange
 refine dw_nil<|rw_build [_,_,_,_,_,_,_,_,_,_,_,_] Z tyB_impl_Sender tyZ_impl_Sender Z Z<|rw_storeN (i:=0) [_,_,_,_,_,_,_,_,_,_,_,_] [_,_,_,_,_,_,_,_,_,_,_,_] [_,_] tyS_impl_Sender.sz Z Z Z Z Z Z Z Z Z<|ND<|?_
 refine ret_cnP (ch:=ch1 ++ (ch2 ++ (ch4 ++ (ch6)))) (G:=ch1 ++ (ch2 ++ (ch4 ++ (ch6 ++ ([]))))) (F':=[]) Tryz.func131 (res1 Tryz.func131 Z (rv_s (i:=0) [_,_,_,_,_,_,_,_,_,_,_,_] tyS_impl_Sender Z Z Z Z)) ?_ ?_ ?_
 ·exact ⟨_,rfl,_,_,_,_,_,_,_,_,rfl,h1_0,(OwA.s (l:=x.pending) how2),(OwA.s (l:=x.flight) how4),(OwA.s (l:=x.acked) how6),rfl⟩
 ·exact (pg (pp (pp (pp PR))) (pg (pp (pp PR)) (pg (pp PR) (pg PR PR))))
 ·simp only [List.append_assoc]
theorem spec_l4Quic (a : Int) (w : World) : CV Tryz.prog 60 [.int .i64 a] w (.bool (isQuic a)) := by
 refine cv_of Tryz.func60 Z Z Z<|SQ<|RG<|AS Z Z<|ND<|SQ<|RG<|MV Z Z<|CV1 Z fun_spec_l1In Z (fun w hs=>spec_l1In _ _ _ w)<|AS Z Z<|ND<|RT Tryz.func60 Z Z<|?_
 rfl
theorem spec_AddRange {w : World} {v : Value} {l : List Range} (hv : RdS w 2 (Pl Range.cells) v l) (hb : l.length ≤ 4194304) (r : Range) : CN Tryz.prog 135 [v, .agg r.cells.toArray] w (fun v ch => OwS 132 2 (PlO Range.cells) v (addRange l r) ch) := by
 obtain ⟨A,c,rfl,hA⟩:=hv
 refine cn_of Tryz.func135 Z Z Z<|SQ<|RG<|BX [_,_] Z Z Z<|fun b1=>AS Z Z<|ND<|SQ<|SQ<|RG<|MV Z Z<|CV1 Z fun_spec_IsRanges Z (fun w hs=>spec_IsRanges (hA.s Pl.keeps hs) (by omega))<|NT Z Z<|MV Z Z<|?_
 refine rw_caseN (j:=11) Z (fun h1=>?_) (fun h1=>?_)
 ·refine SKP Z<|PT Z Z Z Z<|ND<|CT Z Z<|SQ<|RG<|MV Z Z<|CN1 Z fun_spec_l3Copy Z (fun w hs=>spec_l3Copy (hA.s Pl.keeps hs) (by omega))<|fun v1 ch1 how1=>AS Z Z<|ND<|?_
  refine ret_cn ch1 Tryz.func135 (res1 Tryz.func135 Z (rv_tmp Z)) ?_ ?_
  ·have hm : addRange l r = l:=by simp [addRange,h1]
   rw [hm]; exact OwA.s how1
  ·simp
 refine ON Z Z Z<|LS (i:=0) [_,_] Z tyS_impl_Range Z Z Z Z<|ON Z Z Z<|CV1 Z fun_spec_l3Fine Z (fun w hs=>spec_l3Fine _ w)<|ON Z Z Z<|NT Z Z<|PF Z Z Z Z<|ND<|?_
 refine gw_condN Z (fun h2=>?_) (fun h2=>?_)
 ·refine SQ<|RG<|MV Z Z<|CN1 Z fun_spec_l3Copy Z (fun w hs=>spec_l3Copy (hA.s Pl.keeps hs) (by omega))<|fun v2 ch2 how2=>AS Z Z<|ND<|?_
  refine ret_cn ch2 Tryz.func135 (res1 Tryz.func135 Z (rv_tmp Z)) ?_ ?_
  ·have hm : addRange l r = l:=by simp [addRange,h1,h2]
   rw [hm]; exact OwA.s how2
  ·simp
 refine SK<|SQ<|RG<|rw_slice0 Z tyM_S_impl_Range (PlO Range.cells)<|fun v3 how3=>AS Z Z<|ND<|SQ<|RG<|AS Z Z<|ND<|SQ<|SQ<|RG<|AS Z Z<|ND<|BK<|?_
 refine gw_loopX (α:=Nat × Range × Bool × List Range × Value × List Ck) (fun z_=>z_.1 ≤ l.length ∧ z_.2.2.2.1.length + (bif z_.2.2.1 then 0 else 1) ≤ z_.1 + 1 ∧ OwA 132 2 (PlO Range.cells) z_.2.2.2.2.1 z_.2.2.2.1 z_.2.2.2.2.2 ∧ addRange l r = z_.2.2.2.1 ++ addGo z_.2.1 z_.2.2.1 (l.drop z_.1)) (fun z_=>l.length - z_.1) (fun e z_=>(7,.int .i64 (z_.1 : Int)) :: (6,.bool z_.2.2.1) :: (5,z_.2.2.2.2.1) :: e) (fun B z_=>B.set 0 ⟨b1,132,z_.2.1.cells⟩) (fun F z_=>z_.2.2.2.2.2 ++ F) (0,r,false,[],v3,[]) [(0,_),(3,_),(4,_)] (Sub.consE Z Z (Sub.consE Z Z (Sub.consE Z Z (Sub.cons (i:=0) Z (Sub.cons (i:=3) Z (Sub.cons (i:=4) Z (Sub.nil _))))))) Z Z ?_ ?_
 ·exact ⟨Nat.zero_le _,Nat.le_refl _,how3,by simp [addRange,h1,h2]⟩
 ·rintro ⟨i,r,pl,o,v,ch⟩ hI4 ih4
  dsimp only at hI4
  dsimp only [List.set]
  obtain ⟨hle,ho,hO,hI⟩:=hI4
  refine SQ<|SQ<|RG<|MV Z Z<|MV Z Z<|rw_len Z tyE_S_impl_Range Z<|rw_lss Z Z Z<|ND<|?_
  refine gw_cond Z (fun h3=>?_) (fun h3=>?_)
  ·have hi5:=lt_of_dec h3
   obtain ⟨x6,hx6⟩:=get_of_lt hi5
   have hd6:=drop_cons hx6
   refine SK<|SQ<|BK<|BK<|SQ<|gw_draw' [dd 0,dd 1,dd 2,dd 3,dd 4,dd 5,dd 6] [7,8] mixed Z (FD Z) (ts:=[_,_]) Z<|DM Z Z Z<|DM Z Z Z<|?_
   have hq7:=hA.plain hx6
   refine DT Z Z (fun _ q=>rw_indexAddr (i) Z tyE_S_impl_Range Z Z Z (hA.some hi5) hi5 q)<|DT Z Z (fun _ q=>FX Z tyF_impl_Range_1 Z q)<|DT Z Z (fun _ q=>rw_loadX _ Z tyP_int Z (fun w hs=>hq7.ld hs Z) q)<|DT Z Z (fun _ q=>FA Z tyF_impl_Range_0 Z q)<|DT Z Z (fun _ q=>LD (i:=0) Z tyP_int Z Z Z q)<|dw_nil<|rw_lss Z Z Z<|AS Z Z<|ND<|?_
   refine gw_cond Z (fun h4=>?_) (fun h4=>?_)
   ·refine RG<|MV Z Z<|MV Z Z<|MV Z Z<|rw_indexAddr (i) Z tyE_S_impl_Range Z Z Z (hA.some hi5) hi5<|rw_loadX_s [_,_] Z tyS_impl_Range Z Z (fun w hs=>hq7.lds0 (n:=2) hs Z)<|rw_slice (xs:=[(0,_)]) [_,_] Z tyM_S_impl_Range Z Z Z Z<|fun b2=>rw_append1 (i:=0) (a:=x6) Z tyM_S_impl_Range eRange Z Z Z hO ⟨Z,Z⟩ (.refl _) (by simp [] at ho ⊢; omega)<|fun v8 ch8 how8=>AS Z Z<|ND<|IB<|IB<|RG<|MV Z Z<|rw_add Z Z Z<|AS Z Z<|?_
    refine ND<|?_
    refine gw_dropN 1<|?_
    refine gw_sub (Sub.consE (i:=7) Z (int_succ (by omega)) (Sub.consE (i:=6) Z Z (Sub.consE (i:=5) Z Z (Sub.cons (i:=0) Z (Sub.cons (i:=3) Z (Sub.cons (i:=4) Z (Sub.nil _))))))) (ih4 (i + 1,r,pl,(o ++ [x6]),v8,ch8) ?_ ?_)
    ·refine ⟨by omega,?_,how8,?_⟩
     ·simp [] at ho ⊢; omega
     ·rw [hI,hd6]; simp [addGo,h4]
    ·show l.length - (i + 1) < l.length - i; omega
   refine SQ<|gw_draw' [dd 0,dd 1,dd 2,dd 3,dd 4,dd 5,dd 6] [7,8] mixed Z (FD Z) (ts:=[_,_]) Z<|DM Z Z Z<|DM Z Z Z<|DT Z Z (fun _ q=>rw_indexAddr (i) Z tyE_S_impl_Range Z Z Z (hA.some hi5) hi5 q)<|DT Z Z (fun _ q=>FX Z tyF_impl_Range_0 Z q)<|DT Z Z (fun _ q=>rw_loadX _ Z tyP_int Z (fun w hs=>hq7.ld hs Z) q)<|DT Z Z (fun _ q=>FA Z tyF_impl_Range_1 Z q)<|?_
   refine DT Z Z (fun _ q=>LD (i:=0) Z tyP_int Z Z Z q)<|dw_nil<|rw_gtr Z Z Z<|AS Z Z<|ND<|?_
   refine gw_cond Z (fun h5=>?_) (fun h5=>?_)
   ·refine SQ<|SQ<|RG<|MV Z Z<|NT Z Z<|ND<|?_
    refine gw_condN Z (fun h6=>?_) (fun h6=>?_)
    ·refine SQ<|RG<|MV Z Z<|LS (i:=0) [_,_] Z tyS_impl_Range Z Z Z Z<|rw_slice (xs:=[(0,_)]) [_,_] Z tyM_S_impl_Range Z Z Z Z<|fun b3=>rw_append1 (i:=0) (a:=r) Z tyM_S_impl_Range eRange Z Z Z hO ⟨Z,Z⟩ (.refl _) (by simp [h6] at ho ⊢; omega)<|fun v9 ch9 how9=>AS Z Z<|ND<|RG<|AS Z Z<|ND<|RG<|MV Z Z<|MV Z Z<|MV Z Z<|rw_indexAddr (i) Z tyE_S_impl_Range Z Z Z (hA.some hi5) hi5<|rw_loadX_s [_,_] Z tyS_impl_Range Z Z (fun w hs=>hq7.lds0 (n:=2) hs Z)<|?_
     refine rw_slice (xs:=[(0,_)]) [_,_] Z tyM_S_impl_Range Z Z Z Z<|fun b4=>rw_append1 (i:=0) (a:=x6) Z tyM_S_impl_Range eRange Z Z Z how9 ⟨Z,Z⟩ (.refl _) (by simp [h6] at ho ⊢; omega)<|fun v10 ch10 how10=>AS Z Z<|ND<|IB<|IB<|RG<|MV Z Z<|rw_add Z Z Z<|AS Z Z<|ND<|?_
     refine gw_dropN 2<|?_
     refine gw_sub (Sub.consE (i:=7) Z (int_succ (by omega)) (Sub.consE (i:=6) Z Z (Sub.consE (i:=5) Z Z (Sub.cons (i:=0) Z (Sub.cons (i:=3) Z (Sub.cons (i:=4) Z (Sub.nil _))))))) (ih4 (i + 1,r,true,(o ++ [r] ++ [x6]),v10,ch10) ?_ ?_)
     ·refine ⟨by omega,?_,how10,?_⟩
      ·simp [h6] at ho ⊢; omega
      ·rw [hI,hd6]; simp [addGo,h4,h5,h6]
     ·show l.length - (i + 1) < l.length - i; omega
    refine SK<|RG<|MV Z Z<|MV Z Z<|MV Z Z<|rw_indexAddr (i) Z tyE_S_impl_Range Z Z Z (hA.some hi5) hi5<|rw_loadX_s [_,_] Z tyS_impl_Range Z Z (fun w hs=>hq7.lds0 (n:=2) hs Z)<|rw_slice (xs:=[(0,_)]) [_,_] Z tyM_S_impl_Range Z Z Z Z<|fun b5=>rw_append1 (i:=0) (a:=x6) Z tyM_S_impl_Range eRange Z Z Z hO ⟨Z,Z⟩ (.refl _) (by simp [h6] at ho ⊢; omega)<|fun v11 ch11 how11=>AS Z Z<|ND<|IB<|IB<|RG<|MV Z Z<|rw_add Z Z Z<|AS Z Z<|?_
    refine ND<|?_
    refine gw_dropN 1<|?_
    refine gw_sub (Sub.consE (i:=7) Z (int_succ (by omega)) (Sub.consE (i:=6) Z Z (Sub.consE (i:=5) Z Z (Sub.cons (i:=0) Z (Sub.cons (i:=3) Z (Sub.cons (i:=4) Z (Sub.nil _))))))) (ih4 (i + 1,r,pl,(o ++ [x6]),v11,ch11) ?_ ?_)
    ·refine ⟨by omega,?_,how11,?_⟩
     ·simp [h6] at ho ⊢; omega
     ·rw [hI,hd6]; simp [addGo,h4,h5,h6]
    ·show l.length - (i + 1) < l.length - i; omega
   refine SQ<|gw_draw' [dd 0,dd 1,dd 2,dd 3,dd 4,dd 5,dd 6] [7,8,9] mixed Z (FD Z) (ts:=[_,_,_]) Z<|DT Z Z (fun _ q=>FA Z tyF_impl_Range_0 Z q)<|DT Z Z (fun _ q=>LD (i:=0) Z tyP_int Z Z Z q)<|DM Z Z Z<|DM Z Z Z<|DT Z Z (fun _ q=>rw_indexAddr (i) Z tyE_S_impl_Range Z Z Z (hA.some hi5) hi5 q)<|DT Z Z (fun _ q=>FX Z tyF_impl_Range_0 Z q)<|?_
   refine DT Z Z (fun _ q=>rw_loadX _ Z tyP_int Z (fun w hs=>hq7.ld hs Z) q)<|dw_nil<|rw_min Z Z Z<|FA Z tyF_impl_Range_0 Z<|ST (i:=0) [_] [_,_] tyP_int.sz Z Z Z Z Z Z Z Z<|ND<|gw_draw' [dd 0,dd 1,dd 2,dd 3,dd 4,dd 5,dd 6] [7,8,9] mixed Z (FD Z) (ts:=[_,_,_]) Z<|DT Z Z (fun _ q=>FA Z tyF_impl_Range_1 Z q)<|DT Z Z (fun _ q=>LD (i:=0) Z tyP_int Z Z Z q)<|DM Z Z Z<|?_
   refine DM Z Z Z<|DT Z Z (fun _ q=>rw_indexAddr (i) Z tyE_S_impl_Range Z Z Z (hA.some hi5) hi5 q)<|DT Z Z (fun _ q=>FX Z tyF_impl_Range_1 Z q)<|DT Z Z (fun _ q=>rw_loadX _ Z tyP_int Z (fun w hs=>hq7.ld hs Z) q)<|dw_nil<|rw_max Z Z Z<|FA Z tyF_impl_Range_1 Z<|ST (i:=0) [_] [_,_] tyP_int.sz Z Z Z Z Z Z Z Z<|ND<|IB<|IB<|RG<|MV Z Z<|rw_add Z Z Z<|AS Z Z<|?_
   refine ND<|?_
   refine gw_sub (Sub.consE (i:=7) Z (int_succ (by omega)) (Sub.consE (i:=6) Z Z (Sub.consE (i:=5) Z Z (Sub.cons (i:=0) Z (Sub.cons (i:=3) Z (Sub.cons (i:=4) Z (Sub.nil _))))))) (ih4 (i + 1,⟨min r.low x6.low,max r.high x6.high⟩,pl,o,v,ch) ?_ ?_)
   ·refine ⟨by omega,?_,hO,?_⟩
    ·simp [] at ho ⊢; omega
    ·rw [hI,hd6]; simp [addGo,h4,h5]
   ·show l.length - (i + 1) < l.length - i; omega
  have hn12:=nil_of_dec h3
  refine EX Z<|SQ<|SQ<|RG<|MV Z Z<|NT Z Z<|ND<|?_
  refine gw_condN Z (fun h7=>?_) (fun h7=>?_)
  ·refine RG<|MV Z Z<|LS (i:=0) [_,_] Z tyS_impl_Range Z Z Z Z<|rw_slice (xs:=[(0,_)]) [_,_] Z tyM_S_impl_Range Z Z Z Z<|fun b6=>rw_append1 (i:=0) (a:=r) Z tyM_S_impl_Range eRange Z Z Z hO ⟨Z,Z⟩ (.refl _) (by simp [h7] at ho ⊢; omega)<|fun v13 ch13 how13=>AS Z Z<|ND<|SQ<|RG<|MV Z Z<|AS Z Z<|ND<|?_
   refine ret_cn ch13 Tryz.func135 (res1 Tryz.func135 Z (rv_tmp Z)) ?_ ?_
   ·rw [hI,hn12]; simp only [addGo,cond_false,h7]; exact OwA.s how13
   ·simp
  refine SK<|SQ<|RG<|MV Z Z<|AS Z Z<|ND<|?_
  refine ret_cn ch Tryz.func135 (res1 Tryz.func135 Z (rv_tmp Z)) ?_ ?_
  ·rw [hI,hn12]; simp only [addGo,cond_true,List.append_nil,h7]; exact OwA.s hO
  ·simp
theorem spec_CountNumbers {w : World} {v : Value} {l : List Range} (hv : RdS w 2 (Pl Range.cells) v l) (hb : l.length ≤ 4194304) : CV Tryz.prog 136 [v] w (.int .i64 (countNumbers l)) := by
 obtain ⟨A,c,rfl,hA⟩:=hv
 refine cv_of Tryz.func136 Z Z Z<|SQ<|RG<|AS Z Z<|ND<|SQ<|SQ<|RG<|MV Z Z<|CV1 Z fun_spec_IsRanges Z (fun w hs=>spec_IsRanges (hA.s Pl.keeps hs) (by omega))<|NT Z Z<|ND<|?_
 refine gw_condN Z (fun h1=>?_) (fun h1=>?_)
 ·refine SQ<|RG<|AS Z Z<|ND<|RT Tryz.func136 Z Z<|?_
  simp [countNumbers,h1]
 refine SK<|SQ<|RG<|AS Z Z<|ND<|SQ<|SQ<|RG<|AS Z Z<|ND<|BK<|?_
 refine gw_loopC (α:=Nat × Int) (fun z_=>z_.1 ≤ l.length ∧ countNumbers l = countFrom z_.2 (l.drop z_.1)) (fun z_=>l.length - z_.1) (fun e z_=>(4,.int .i64 (z_.1 : Int)) :: (3,.int .i64 z_.2) :: e) (0,0) [(0,_),(2,_)] (Sub.consE Z Z (Sub.consE Z Z (Sub.cons (i:=0) Z (Sub.cons (i:=2) Z (Sub.nil _))))) ?_ ?_
 ·exact ⟨Nat.zero_le _,by simp [countNumbers,h1]⟩
 ·rintro ⟨i,n⟩ hI1 ih1
  dsimp only at hI1
  dsimp only
  obtain ⟨hle,hI⟩:=hI1
  refine SQ<|SQ<|RG<|MV Z Z<|MV Z Z<|rw_len Z tyE_S_impl_Range Z<|rw_lss Z Z Z<|ND<|?_
  refine gw_cond Z (fun h2=>?_) (fun h2=>?_)
  ·have hi2:=lt_of_dec h2
   obtain ⟨x3,hx3⟩:=get_of_lt hi2
   have hd3:=drop_cons hx3
   refine SK<|SQ<|BK<|gw_draw' [dd 0,dd 1,dd 2,dd 3,dd 4,dd 5,dd 6,dd 7,dd 8,dd 9,dd 10,dd 11] [12,13] mixed Z (FD Z) (ts:=[_,_]) Z<|DM Z Z Z<|DM Z Z Z<|DM Z Z Z<|?_
   have hq4:=hA.plain hx3
   refine DT Z Z (fun _ q=>rw_indexAddr (i) Z tyE_S_impl_Range Z Z Z (hA.some hi2) hi2 q)<|DT Z Z (fun _ q=>FX Z tyF_impl_Range_1 Z q)<|DT Z Z (fun _ q=>rw_loadX _ Z tyP_int Z (fun w hs=>hq4.ld hs Z) q)<|DT Z Z (fun _ q=>rw_add Z Z Z q)<|DM Z Z Z<|DM Z Z Z<|DT Z Z (fun _ q=>rw_indexAddr (i) Z tyE_S_impl_Range Z Z Z (hA.some hi2) hi2 q)<|DT Z Z (fun _ q=>FX Z tyF_impl_Range_0 Z q)<|?_
   refine DT Z Z (fun _ q=>rw_loadX _ Z tyP_int Z (fun w hs=>hq4.ld hs Z) q)<|dw_nil<|rw_sub Z Z Z<|AS Z Z<|ND<|IB<|RG<|MV Z Z<|rw_add Z Z Z<|AS Z Z<|ND<|?_
   refine gw_sub (Sub.consE (i:=4) Z (int_succ (by omega)) (Sub.consE (i:=3) Z Z (Sub.cons (i:=0) Z (Sub.cons (i:=2) Z (Sub.nil _))))) (ih1 (i + 1,w64 (w64 (n + x3.high) - x3.low)) ?_ ?_)
   ·exact ⟨by omega,by rw [hI,hd3]; simp [countFrom,w64_sub2]⟩
   ·show l.length - (i + 1) < l.length - i; omega
  have hn5:=nil_of_dec h2
  refine EX Z<|SQ<|RG<|MV Z Z<|AS Z Z<|ND<|RT Tryz.func136 Z Z<|?_
  rw [hI,hn5]; rfl
theorem spec_FirstGap {w : World} {v : Value} {l : List Range} (hv : RdS w 2 (Pl Range.cells) v l) (hb : l.length ≤ 4194304) (n0 : Int) : CV Tryz.prog 137 [v, .int .i64 n0] w (.int .i64 (firstGap l n0)) := by
 obtain ⟨A,c,rfl,hA⟩:=hv
 refine cv_of Tryz.func137 Z Z Z<|SQ<|RG<|AS Z Z<|ND<|SQ<|SQ<|RG<|MV Z Z<|CV1 Z fun_spec_IsRanges Z (fun w hs=>spec_IsRanges (hA.s Pl.keeps hs) (by omega))<|NT Z Z<|MV Z Z<|?_
 refine rw_caseN (j:=9) Z (fun h1=>?_) (fun h1=>?_)
 ·refine SKP Z<|PT Z Z Z Z<|ND<|CT Z Z<|SQ<|RG<|AS Z Z<|ND<|RT Tryz.func137 Z Z<|?_
  simp [firstGap,h1]
 refine ON Z Z Z<|MV Z Z<|ON Z Z Z<|rw_lss Z Z Z<|PF Z Z Z Z<|ND<|?_
 refine gw_cond Z (fun h2=>?_) (fun h2=>?_)
 ·refine SQ<|RG<|AS Z Z<|ND<|RT Tryz.func137 Z Z<|?_
  simp [firstGap,h1,h2]
 refine SK<|SQ<|SQ<|RG<|AS Z Z<|ND<|BK<|?_
 refine gw_loopC (α:=Nat × Int) (fun z_=>z_.1 ≤ l.length ∧ firstGap l n0 = gapFrom z_.2 (l.drop z_.1)) (fun z_=>l.length - z_.1) (fun e z_=>(5,.int .i64 (z_.1 : Int)) :: (1,.int .i64 z_.2) :: e) (0,n0) [(0,_),(4,_)] (Sub.consE Z Z (Sub.consE Z Z (Sub.cons (i:=0) Z (Sub.cons (i:=4) Z (Sub.nil _))))) ?_ ?_
 ·exact ⟨Nat.zero_le _,by simp [firstGap,h1,h2]⟩
 ·rintro ⟨i,n⟩ hI1 ih1
  dsimp only at hI1
  dsimp only
  obtain ⟨hle,hI⟩:=hI1
  refine SQ<|SQ<|RG<|MV Z Z<|MV Z Z<|rw_len Z tyE_S_impl_Range Z<|rw_lss Z Z Z<|ND<|?_
  refine gw_cond Z (fun h3=>?_) (fun h3=>?_)
  ·have hi2:=lt_of_dec h3
   obtain ⟨x3,hx3⟩:=get_of_lt hi2
   have hd3:=drop_cons hx3
   refine SK<|SQ<|BK<|SQ<|RG<|MV Z Z<|MV Z Z<|MV Z Z<|?_
   have hq4:=hA.plain hx3
   refine rw_indexAddr (i) Z tyE_S_impl_Range Z Z Z (hA.some hi2) hi2<|FX Z tyF_impl_Range_0 Z<|rw_loadX _ Z tyP_int Z (fun w hs=>hq4.ld hs Z)<|rw_geq Z Z Z<|MV Z Z<|?_
   refine rw_caseL (j:=26) Z (fun h4=>?_) (fun h4=>?_)
   ·refine ON Z Z Z<|MV Z Z<|ON Z Z Z<|MV Z Z<|ON Z Z Z<|MV Z Z<|ON Z Z Z<|rw_indexAddr (i) Z tyE_S_impl_Range Z Z Z (hA.some hi2) hi2<|ON Z Z Z<|FX Z tyF_impl_Range_1 Z<|ON Z Z Z<|rw_loadX _ Z tyP_int Z (fun w hs=>hq4.ld hs Z)<|ON Z Z Z<|rw_lss Z Z Z<|PT Z Z Z Z<|ND<|?_
    refine gw_cond Z (fun h5=>?_) (fun h5=>?_)
    ·refine RG<|MV Z Z<|MV Z Z<|rw_indexAddr (i) Z tyE_S_impl_Range Z Z Z (hA.some hi2) hi2<|FX Z tyF_impl_Range_1 Z<|rw_loadX _ Z tyP_int Z (fun w hs=>hq4.ld hs Z)<|AS Z Z<|ND<|IB<|RG<|MV Z Z<|rw_add Z Z Z<|AS Z Z<|ND<|?_
     refine gw_sub (Sub.consE (i:=5) Z (int_succ (by omega)) (Sub.consE (i:=1) Z Z (Sub.cons (i:=0) Z (Sub.cons (i:=4) Z (Sub.nil _))))) (ih1 (i + 1,x3.high) ?_ ?_)
     ·exact ⟨by omega,by rw [hI,hd3]; simp [gapFrom,h4,h5]⟩
     ·show l.length - (i + 1) < l.length - i; omega
    refine SK<|IB<|RG<|MV Z Z<|rw_add Z Z Z<|AS Z Z<|ND<|?_
    refine gw_sub (Sub.consE (i:=5) Z (int_succ (by omega)) (Sub.consE (i:=1) Z Z (Sub.cons (i:=0) Z (Sub.cons (i:=4) Z (Sub.nil _))))) (ih1 (i + 1,n) ?_ ?_)
    ·exact ⟨by omega,by rw [hI,hd3]; simp [gapFrom,h4,h5]⟩
    ·show l.length - (i + 1) < l.length - i; omega
   refine SKP Z<|PF Z Z Z Z<|ND<|CF Z Z<|SK<|IB<|RG<|MV Z Z<|rw_add Z Z Z<|AS Z Z<|ND<|?_
   refine gw_sub (Sub.consE (i:=5) Z (int_succ (by omega)) (Sub.consE (i:=1) Z Z (Sub.cons (i:=0) Z (Sub.cons (i:=4) Z (Sub.nil _))))) (ih1 (i + 1,n) ?_ ?_)
   ·exact ⟨by omega,by rw [hI,hd3]; simp [gapFrom,h4]⟩
   ·show l.length - (i + 1) < l.length - i; omega
  have hn5:=nil_of_dec h3
  refine EX Z<|SQ<|RG<|MV Z Z<|AS Z Z<|ND<|RT Tryz.func137 Z Z<|?_
  rw [hI,hn5]; rfl
theorem spec_l9State {w : World} {cs : List Value} {x : Sender} (hv : RdSender w cs x)  : CV Tryz.prog 138 [.agg cs.toArray] w (.int .i64 (followingS x)) := by
 obtain ⟨v0,v1,v2,v3,rfl,k0,k1,k2,k3⟩:=hv
 obtain ⟨A0,c0,rfl,hA0⟩:=k0
 obtain ⟨A1,c1,rfl,hA1⟩:=k1
 obtain ⟨A2,c2,rfl,hA2⟩:=k2
 obtain ⟨A3,c3,rfl,hA3⟩:=k3
 refine cv_of Tryz.func138 Z Z Z<|SQ<|RG<|BX [_,_,_,_,_,_,_,_,_,_,_,_] Z Z Z<|fun b1=>AS Z Z<|ND<|SQ<|BK<|SQ<|RG<|FA Z tyF_impl_Sender_6 Z<|LD (i:=0) Z tyP_int Z Z Z<|EQ1 Z Z Z<|MV Z Z<|?_
 refine rw_caseL (j:=7) Z (fun h1=>?_) (fun h1=>?_)
 ·refine ON Z Z Z<|FA Z tyF_impl_Sender_1 Z<|ON Z Z Z<|FA Z tyF_impl_Ring_1 Z<|ON Z Z Z<|LD (i:=0) Z tyP_int Z Z Z<|ON Z Z Z<|FA Z tyF_impl_Sender_1 Z<|ON Z Z Z<|FA Z tyF_impl_Ring_2 Z<|ON Z Z Z<|LD (i:=0) Z tyP_int Z Z Z<|ON Z Z Z<|EQ1 Z Z Z<|PT Z Z Z Z<|AS Z Z<|ND<|?_
  refine gw_cond Z (fun h2=>?_) (fun h2=>?_)
  ·refine SQ<|RG<|AS Z Z<|ND<|RT Tryz.func138 Z Z<|?_
   simp [followingS,h1,h2]
  refine SQ<|RG<|FA Z tyF_impl_Sender_6 Z<|LD (i:=0) Z tyP_int Z Z Z<|rw_gtr Z Z Z<|MV Z Z<|?_
  refine rw_caseL (j:=20) Z (fun h3=>?_) (fun h3=>?_)
  ·refine SKP Z<|PT Z Z Z Z<|AS Z Z<|ND<|CT Z Z<|SQ<|RG<|AS Z Z<|ND<|RT Tryz.func138 Z Z<|?_
   simp [followingS,h1,h2,h3]
  refine ON Z Z Z<|FA Z tyF_impl_Sender_6 Z<|ON Z Z Z<|LD (i:=0) Z tyP_int Z Z Z<|ON Z Z Z<|EQ1 Z Z Z<|ON Z Z Z<|MV Z Z<|?_
  refine rw_caseL (j:=24) Z (fun h4=>?_) (fun h4=>?_)
  ·refine ON Z Z Z<|FA Z tyF_impl_Sender_0 Z<|ON Z Z Z<|LD (i:=0) Z tyP_int Z Z Z<|ON Z Z Z<|EQ1 Z Z Z<|ON Z Z Z<|PT Z Z Z Z<|PF Z Z Z Z<|AS Z Z<|ND<|?_
   refine gw_cond Z (fun h5=>?_) (fun h5=>?_)
   ·refine SQ<|RG<|AS Z Z<|ND<|RT Tryz.func138 Z Z<|?_
    simp [followingS,h1,h2,h3,h4,h5]
   refine SQ<|RG<|FA Z tyF_impl_Sender_7 Z<|LD (i:=0) Z tyP_int Z Z Z<|rw_gtr Z Z Z<|MV Z Z<|?_
   refine rw_caseL (j:=34) Z (fun h6=>?_) (fun h6=>?_)
   ·refine SKP Z<|PT Z Z Z Z<|AS Z Z<|ND<|CT Z Z<|SQ<|RG<|AS Z Z<|ND<|RT Tryz.func138 Z Z<|?_
    simp [followingS,h1,h2,h3,h4,h5,h6]
   refine ON Z Z Z<|FA Z tyF_impl_Sender_6 Z<|ON Z Z Z<|LD (i:=0) Z tyP_int Z Z Z<|ON Z Z Z<|EQ1 Z Z Z<|ON Z Z Z<|MV Z Z<|?_
   refine rw_caseL (j:=38) Z (fun h7=>?_) (fun h7=>?_)
   ·refine ON Z Z Z<|FA Z tyF_impl_Sender_0 Z<|ON Z Z Z<|LD (i:=0) Z tyP_int Z Z Z<|ON Z Z Z<|EQ1 Z Z Z<|ON Z Z Z<|PT Z Z Z Z<|PF Z Z Z Z<|AS Z Z<|ND<|?_
    refine gw_cond Z (fun h8=>?_) (fun h8=>?_)
    ·refine SQ<|RG<|AS Z Z<|ND<|RT Tryz.func138 Z Z<|?_
     simp [followingS,h1,h2,h3,h4,h5,h6,h8]
    refine SK<|IB<|SQ<|RG<|AS Z Z<|ND<|RT Tryz.func138 Z Z<|?_
    simp [followingS,h1,h2,h3,h4,h5,h6,h8]
   refine SKP Z<|ON Z Z Z<|PF Z Z Z Z<|PF Z Z Z Z<|AS Z Z<|ND<|CF Z Z<|SK<|IB<|SQ<|RG<|AS Z Z<|ND<|RT Tryz.func138 Z Z<|?_
   simp_all []
  refine SKP Z<|ON Z Z Z<|PF Z Z Z Z<|PF Z Z Z Z<|AS Z Z<|ND<|CF Z Z<|SQ<|RG<|FA Z tyF_impl_Sender_7 Z<|LD (i:=0) Z tyP_int Z Z Z<|rw_gtr Z Z Z<|MV Z Z<|?_
  refine rw_caseL (j:=34) Z (fun h9=>?_) (fun h9=>?_)
  ·refine SKP Z<|PT Z Z Z Z<|AS Z Z<|ND<|CT Z Z<|SQ<|RG<|AS Z Z<|ND<|RT Tryz.func138 Z Z<|?_
   simp [followingS,h1,h2,h3,h4,h9]
  refine ON Z Z Z<|FA Z tyF_impl_Sender_6 Z<|ON Z Z Z<|LD (i:=0) Z tyP_int Z Z Z<|ON Z Z Z<|EQ1 Z Z Z<|ON Z Z Z<|MV Z Z<|?_
  refine rw_caseL (j:=38) Z (fun h10=>?_) (fun h10=>?_)
  ·refine ON Z Z Z<|FA Z tyF_impl_Sender_0 Z<|ON Z Z Z<|LD (i:=0) Z tyP_int Z Z Z<|ON Z Z Z<|EQ1 Z Z Z<|ON Z Z Z<|PT Z Z Z Z<|PF Z Z Z Z<|AS Z Z<|ND<|?_
   refine gw_cond Z (fun h11=>?_) (fun h11=>?_)
   ·refine SQ<|RG<|AS Z Z<|ND<|RT Tryz.func138 Z Z<|?_
    simp_all []
   refine SK<|IB<|SQ<|RG<|AS Z Z<|ND<|RT Tryz.func138 Z Z<|?_
   simp [followingS,h1,h2,h3,h4,h9,h11]
  refine SKP Z<|ON Z Z Z<|PF Z Z Z Z<|PF Z Z Z Z<|AS Z Z<|ND<|CF Z Z<|SK<|IB<|SQ<|RG<|AS Z Z<|ND<|RT Tryz.func138 Z Z<|?_
  simp [followingS,h1,h2,h3,h4,h9]
 refine SKP Z<|PF Z Z Z Z<|AS Z Z<|ND<|CF Z Z<|SQ<|RG<|FA Z tyF_impl_Sender_6 Z<|LD (i:=0) Z tyP_int Z Z Z<|rw_gtr Z Z Z<|MV Z Z<|?_
 refine rw_caseL (j:=20) Z (fun h12=>?_) (fun h12=>?_)
 ·refine SKP Z<|PT Z Z Z Z<|AS Z Z<|ND<|CT Z Z<|SQ<|RG<|AS Z Z<|ND<|RT Tryz.func138 Z Z<|?_
  simp [followingS,h1,h12]
 refine ON Z Z Z<|FA Z tyF_impl_Sender_6 Z<|ON Z Z Z<|LD (i:=0) Z tyP_int Z Z Z<|ON Z Z Z<|EQ1 Z Z Z<|ON Z Z Z<|MV Z Z<|?_
 refine rw_caseL (j:=24) Z (fun h13=>?_) (fun h13=>?_)
 ·refine ON Z Z Z<|FA Z tyF_impl_Sender_0 Z<|ON Z Z Z<|LD (i:=0) Z tyP_int Z Z Z<|ON Z Z Z<|EQ1 Z Z Z<|ON Z Z Z<|PT Z Z Z Z<|PF Z Z Z Z<|AS Z Z<|ND<|?_
  refine gw_cond Z (fun h14=>?_) (fun h14=>?_)
  ·refine SQ<|RG<|AS Z Z<|ND<|RT Tryz.func138 Z Z<|?_
   simp [followingS,h1,h12,h13,h14]
  refine SQ<|RG<|FA Z tyF_impl_Sender_7 Z<|LD (i:=0) Z tyP_int Z Z Z<|rw_gtr Z Z Z<|MV Z Z<|?_
  refine rw_caseL (j:=34) Z (fun h15=>?_) (fun h15=>?_)
  ·refine SKP Z<|PT Z Z Z Z<|AS Z Z<|ND<|CT Z Z<|SQ<|RG<|AS Z Z<|ND<|RT Tryz.func138 Z Z<|?_
   simp [followingS,h1,h12,h13,h14,h15]
  refine ON Z Z Z<|FA Z tyF_impl_Sender_6 Z<|ON Z Z Z<|LD (i:=0) Z tyP_int Z Z Z<|ON Z Z Z<|EQ1 Z Z Z<|ON Z Z Z<|MV Z Z<|?_
  refine rw_caseL (j:=38) Z (fun h16=>?_) (fun h16=>?_)
  ·refine ON Z Z Z<|FA Z tyF_impl_Sender_0 Z<|ON Z Z Z<|LD (i:=0) Z tyP_int Z Z Z<|ON Z Z Z<|EQ1 Z Z Z<|ON Z Z Z<|PT Z Z Z Z<|PF Z Z Z Z<|AS Z Z<|ND<|?_
   refine gw_cond Z (fun h17=>?_) (fun h17=>?_)
   ·refine SQ<|RG<|AS Z Z<|ND<|RT Tryz.func138 Z Z<|?_
    simp [followingS,h1,h12,h13,h14,h15,h17]
   refine SK<|IB<|SQ<|RG<|AS Z Z<|ND<|RT Tryz.func138 Z Z<|?_
   simp [followingS,h1,h12,h13,h14,h15,h17]
  refine SKP Z<|ON Z Z Z<|PF Z Z Z Z<|PF Z Z Z Z<|AS Z Z<|ND<|CF Z Z<|SK<|IB<|SQ<|RG<|AS Z Z<|ND<|RT Tryz.func138 Z Z<|?_
  simp_all []
 refine SKP Z<|ON Z Z Z<|PF Z Z Z Z<|PF Z Z Z Z<|AS Z Z<|ND<|CF Z Z<|SQ<|RG<|FA Z tyF_impl_Sender_7 Z<|LD (i:=0) Z tyP_int Z Z Z<|rw_gtr Z Z Z<|MV Z Z<|?_
 refine rw_caseL (j:=34) Z (fun h18=>?_) (fun h18=>?_)
 ·refine SKP Z<|PT Z Z Z Z<|AS Z Z<|ND<|CT Z Z<|SQ<|RG<|AS Z Z<|ND<|RT Tryz.func138 Z Z<|?_
  simp [followingS,h1,h12,h13,h18]
 refine ON Z Z Z<|FA Z tyF_impl_Sender_6 Z<|ON Z Z Z<|LD (i:=0) Z tyP_int Z Z Z<|ON Z Z Z<|EQ1 Z Z Z<|ON Z Z Z<|MV Z Z<|?_
 refine rw_caseL (j:=38) Z (fun h19=>?_) (fun h19=>?_)
 ·refine ON Z Z Z<|FA Z tyF_impl_Sender_0 Z<|ON Z Z Z<|LD (i:=0) Z tyP_int Z Z Z<|ON Z Z Z<|EQ1 Z Z Z<|ON Z Z Z<|PT Z Z Z Z<|PF Z Z Z Z<|AS Z Z<|ND<|?_
  refine gw_cond Z (fun h20=>?_) (fun h20=>?_)
  ·refine SQ<|RG<|AS Z Z<|ND<|RT Tryz.func138 Z Z<|?_
   simp_all []
  refine SK<|IB<|SQ<|RG<|AS Z Z<|ND<|RT Tryz.func138 Z Z<|?_
  simp [followingS,h1,h12,h13,h18,h20]
 refine SKP Z<|ON Z Z Z<|PF Z Z Z Z<|PF Z Z Z Z<|AS Z Z<|ND<|CF Z Z<|SK<|IB<|SQ<|RG<|AS Z Z<|ND<|RT Tryz.func138 Z Z<|?_
 simp [followingS,h1,h12,h13,h18]
set_option maxRecDepth 20000 in
theorem spec_IsSender {w : World} {cs : List Value} {x : Sender} (hv : RdSender w cs x) (hb : x.le 1048576) : CV Tryz.prog 79 [.agg cs.toArray] w (.bool (isSenderS x)) := by
 obtain ⟨v0,v1,v2,v3,rfl,k0,k1,k2,k3⟩:=hv
 obtain ⟨A0,c0,rfl,hA0⟩:=k0
 obtain ⟨A1,c1,rfl,hA1⟩:=k1
 obtain ⟨A2,c2,rfl,hA2⟩:=k2
 obtain ⟨A3,c3,rfl,hA3⟩:=k3
 obtain ⟨hb0,hb1,hb2,hb3⟩:=hb
 refine cv_of Tryz.func79 Z Z Z<|SQ<|RG<|BX [_,_,_,_,_,_,_,_,_,_,_,_] Z Z Z<|fun b1=>AS Z Z<|ND<|SQ<|SQ<|RG<|FA Z tyF_impl_Sender_1 Z<|LS (i:=0) [_,_,_,_] Z tyS_impl_Ring Z Z Z Z<|CV1 Z fun_spec_IsRing Z (fun w hs=>spec_IsRing ⟨_,Z,(hA0.s Pl.keeps hs)⟩ (show _ ≤ _ from hb0))<|NT Z Z<|MV Z Z<|?_
 refine rw_caseN (j:=13) Z (fun h1=>?_) (fun h1=>?_)
 ·refine SKP Z<|PT Z Z Z Z<|MV Z Z<|SKP Z<|PT Z Z Z Z<|MV Z Z<|SKP Z<|PT Z Z Z Z<|MV Z Z<|SKP Z<|PT Z Z Z Z<|MV Z Z<|SKP Z<|PT Z Z Z Z<|MV Z Z<|SKP Z<|PT Z Z Z Z<|ND<|CT Z Z<|SQ<|RG<|AS Z Z<|ND<|RT Tryz.func79 Z Z<|?_
  simp [isSenderS,senderBase,senderReset,h1]
 refine ON Z Z Z<|FA Z tyF_impl_Sender_2 Z<|ON Z Z Z<|LD (i:=0) Z tyP_S_impl_Range Z Z Z<|ON Z Z Z<|CV1 Z fun_spec_IsRanges Z (fun w hs=>spec_IsRanges (hA1.s Pl.keeps hs) (by omega))<|ON Z Z Z<|NT Z Z<|PF Z Z Z Z<|MV Z Z<|?_
 refine rw_caseN (j:=19) Z (fun h2=>?_) (fun h2=>?_)
 ·refine SKP Z<|PT Z Z Z Z<|MV Z Z<|SKP Z<|PT Z Z Z Z<|MV Z Z<|SKP Z<|PT Z Z Z Z<|MV Z Z<|SKP Z<|PT Z Z Z Z<|MV Z Z<|SKP Z<|PT Z Z Z Z<|ND<|CT Z Z<|SQ<|RG<|AS Z Z<|ND<|RT Tryz.func79 Z Z<|?_
  simp [isSenderS,senderBase,senderReset,h1,h2]
 refine ON Z Z Z<|FA Z tyF_impl_Sender_3 Z<|ON Z Z Z<|LD (i:=0) Z tyP_S_impl_Range Z Z Z<|ON Z Z Z<|CV1 Z fun_spec_IsRanges Z (fun w hs=>spec_IsRanges (hA2.s Pl.keeps hs) (by omega))<|ON Z Z Z<|NT Z Z<|PF Z Z Z Z<|MV Z Z<|?_
 refine rw_caseN (j:=25) Z (fun h3=>?_) (fun h3=>?_)
 ·refine SKP Z<|PT Z Z Z Z<|MV Z Z<|SKP Z<|PT Z Z Z Z<|MV Z Z<|SKP Z<|PT Z Z Z Z<|MV Z Z<|SKP Z<|PT Z Z Z Z<|ND<|CT Z Z<|SQ<|RG<|AS Z Z<|ND<|RT Tryz.func79 Z Z<|?_
  simp [isSenderS,senderBase,senderReset,h1,h2,h3]
 refine ON Z Z Z<|FA Z tyF_impl_Sender_4 Z<|ON Z Z Z<|LD (i:=0) Z tyP_S_impl_Range Z Z Z<|ON Z Z Z<|CV1 Z fun_spec_IsRanges Z (fun w hs=>spec_IsRanges (hA3.s Pl.keeps hs) (by omega))<|ON Z Z Z<|NT Z Z<|PF Z Z Z Z<|MV Z Z<|?_
 refine rw_caseN (j:=31) Z (fun h4=>?_) (fun h4=>?_)
 ·refine SKP Z<|PT Z Z Z Z<|MV Z Z<|SKP Z<|PT Z Z Z Z<|MV Z Z<|SKP Z<|PT Z Z Z Z<|ND<|CT Z Z<|SQ<|RG<|AS Z Z<|ND<|RT Tryz.func79 Z Z<|?_
  simp [isSenderS,senderBase,senderReset,h1,h2,h3,h4]
 refine ON Z Z Z<|FA Z tyF_impl_Sender_7 Z<|ON Z Z Z<|LD (i:=0) Z tyP_int Z Z Z<|ON Z Z Z<|FA Z tyF_impl_Sender_1 Z<|ON Z Z Z<|FA Z tyF_impl_Ring_2 Z<|ON Z Z Z<|LD (i:=0) Z tyP_int Z Z Z<|ON Z Z Z<|CV1 Z fun_spec_l1In Z (fun w hs=>spec_l1In _ _ _ w)<|ON Z Z Z<|NT Z Z<|PF Z Z Z Z<|MV Z Z<|?_
 refine rw_caseN (j:=40) Z (fun h5=>?_) (fun h5=>?_)
 ·refine SKP Z<|PT Z Z Z Z<|MV Z Z<|SKP Z<|PT Z Z Z Z<|ND<|CT Z Z<|SQ<|RG<|AS Z Z<|ND<|RT Tryz.func79 Z Z<|?_
  simp [isSenderS,senderBase,senderReset,h1,h2,h3,h4,h5]
 refine ON Z Z Z<|FA Z tyF_impl_Sender_8 Z<|ON Z Z Z<|LD (i:=0) Z tyP_int Z Z Z<|ON Z Z Z<|CV1 Z fun_spec_l4Quic Z (fun w hs=>spec_l4Quic _ w)<|ON Z Z Z<|NT Z Z<|PF Z Z Z Z<|MV Z Z<|?_
 refine rw_caseN (j:=46) Z (fun h6=>?_) (fun h6=>?_)
 ·refine SKP Z<|PT Z Z Z Z<|ND<|CT Z Z<|SQ<|RG<|AS Z Z<|ND<|RT Tryz.func79 Z Z<|?_
  simp [isSenderS,senderBase,senderReset,h1,h2,h3,h4,h5,h6]
 refine ON Z Z Z<|FA Z tyF_impl_Sender_6 Z<|ON Z Z Z<|LD (i:=0) Z tyP_int Z Z Z<|ON Z Z Z<|CV1 Z fun_spec_l1In Z (fun w hs=>spec_l1In _ _ _ w)<|ON Z Z Z<|NT Z Z<|PF Z Z Z Z<|ND<|?_
 refine gw_condN Z (fun h7=>?_) (fun h7=>?_)
 ·refine SQ<|RG<|AS Z Z<|ND<|RT Tryz.func79 Z Z<|?_
  simp [isSenderS,senderBase,senderReset,h1,h2,h3,h4,h5,h6,h7]
 refine SK<|SQ<|SQ<|RG<|FA Z tyF_impl_Sender_0 Z<|LD (i:=0) Z tyP_int Z Z Z<|EQ1 Z Z Z<|MV Z Z<|?_
 refine rw_caseL (j:=55) Z (fun h8=>?_) (fun h8=>?_)
 ·refine SKP Z<|PT Z Z Z Z<|ND<|CT Z Z<|SQ<|RG<|FA Z tyF_impl_Sender_1 Z<|FA Z tyF_impl_Ring_1 Z<|LD (i:=0) Z tyP_int Z Z Z<|FA Z tyF_impl_Sender_1 Z<|FA Z tyF_impl_Ring_2 Z<|LD (i:=0) Z tyP_int Z Z Z<|EQ1 Z Z Z<|MV Z Z<|?_
  refine rw_caseL (j:=67) Z (fun h9=>?_) (fun h9=>?_)
  ·refine ON Z Z Z<|FA Z tyF_impl_Sender_2 Z<|ON Z Z Z<|LD (i:=0) Z tyP_S_impl_Range Z Z Z<|ON Z Z Z<|rw_len Z tyE_S_impl_Range Z<|ON Z Z Z<|EQ1 Z Z Z<|PT Z Z Z Z<|MV Z Z<|?_
   refine rw_caseL (j:=73) Z (fun h10=>?_) (fun h10=>?_)
   ·have hnil1:=nil_of_eq h10
    refine ON Z Z Z<|FA Z tyF_impl_Sender_3 Z<|ON Z Z Z<|LD (i:=0) Z tyP_S_impl_Range Z Z Z<|ON Z Z Z<|rw_len Z tyE_S_impl_Range Z<|ON Z Z Z<|EQ1 Z Z Z<|PT Z Z Z Z<|MV Z Z<|?_
    refine rw_caseL (j:=79) Z (fun h11=>?_) (fun h11=>?_)
    ·have hnil2:=nil_of_eq h11
     refine ON Z Z Z<|FA Z tyF_impl_Sender_4 Z<|ON Z Z Z<|LD (i:=0) Z tyP_S_impl_Range Z Z Z<|ON Z Z Z<|rw_len Z tyE_S_impl_Range Z<|ON Z Z Z<|EQ1 Z Z Z<|PT Z Z Z Z<|MV Z Z<|?_
     refine rw_caseL (j:=85) Z (fun h12=>?_) (fun h12=>?_)
     ·have hnil3:=nil_of_eq h12
      refine ON Z Z Z<|FA Z tyF_impl_Sender_5 Z<|ON Z Z Z<|LD (i:=0) Z tyP_int Z Z Z<|ON Z Z Z<|FA Z tyF_impl_Sender_7 Z<|ON Z Z Z<|LD (i:=0) Z tyP_int Z Z Z<|ON Z Z Z<|EQ1 Z Z Z<|PT Z Z Z Z<|MV Z Z<|?_
      refine rw_caseL (j:=92) Z (fun h13=>?_) (fun h13=>?_)
      ·refine ON Z Z Z<|FA Z tyF_impl_Sender_6 Z<|ON Z Z Z<|LD (i:=0) Z tyP_int Z Z Z<|ON Z Z Z<|EQ1 Z Z Z<|PT Z Z Z Z<|MV Z Z<|?_
       refine rw_caseL (j:=97) Z (fun h14=>?_) (fun h14=>?_)
       ·refine ON Z Z Z<|FA Z tyF_impl_Sender_7 Z<|ON Z Z Z<|LD (i:=0) Z tyP_int Z Z Z<|ON Z Z Z<|FA Z tyF_impl_Sender_1 Z<|ON Z Z Z<|FA Z tyF_impl_Ring_2 Z<|ON Z Z Z<|LD (i:=0) Z tyP_int Z Z Z<|ON Z Z Z<|EQ1 Z Z Z<|PT Z Z Z Z<|AS Z Z<|ND<|RT Tryz.func79 Z Z<|?_
        simp [isSenderS,senderBase,senderReset,h1,h2,h3,h4,h5,h6,h7,h8,h9,h10,h11,h12,h13,h14]
       refine SKP Z<|PF Z Z Z Z<|AS Z Z<|ND<|RT Tryz.func79 Z Z<|?_
       simp [isSenderS,senderBase,senderReset,h1,h2,h3,h4,h5,h6,h7,h8,h9,h10,h11,h12,h13,h14]
      refine SKP Z<|PF Z Z Z Z<|MV Z Z<|SKP Z<|PF Z Z Z Z<|AS Z Z<|ND<|RT Tryz.func79 Z Z<|?_
      simp [isSenderS,senderBase,senderReset,h1,h2,h3,h4,h5,h6,h7,h8,h9,h10,h11,h12,h13]
     have hpos4:=pos_of_ne h12
     refine SKP Z<|PF Z Z Z Z<|MV Z Z<|SKP Z<|PF Z Z Z Z<|MV Z Z<|SKP Z<|PF Z Z Z Z<|AS Z Z<|ND<|RT Tryz.func79 Z Z<|?_
     simp [isSenderS,senderBase,senderReset,h1,h2,h3,h4,h5,h6,h7,h8,h9,h10,h11,h12]
    have hpos5:=pos_of_ne h11
    refine SKP Z<|PF Z Z Z Z<|MV Z Z<|SKP Z<|PF Z Z Z Z<|MV Z Z<|SKP Z<|PF Z Z Z Z<|MV Z Z<|SKP Z<|PF Z Z Z Z<|AS Z Z<|ND<|RT Tryz.func79 Z Z<|?_
    simp [isSenderS,senderBase,senderReset,h1,h2,h3,h4,h5,h6,h7,h8,h9,h10,h11]
   have hpos6:=pos_of_ne h10
   refine SKP Z<|PF Z Z Z Z<|MV Z Z<|SKP Z<|PF Z Z Z Z<|MV Z Z<|SKP Z<|PF Z Z Z Z<|MV Z Z<|SKP Z<|PF Z Z Z Z<|MV Z Z<|SKP Z<|PF Z Z Z Z<|AS Z Z<|ND<|RT Tryz.func79 Z Z<|?_
   simp [isSenderS,senderBase,senderReset,h1,h2,h3,h4,h5,h6,h7,h8,h9,h10]
  refine SKP Z<|PF Z Z Z Z<|MV Z Z<|SKP Z<|PF Z Z Z Z<|MV Z Z<|SKP Z<|PF Z Z Z Z<|MV Z Z<|SKP Z<|PF Z Z Z Z<|MV Z Z<|SKP Z<|PF Z Z Z Z<|MV Z Z<|SKP Z<|PF Z Z Z Z<|AS Z Z<|ND<|RT Tryz.func79 Z Z<|?_
  simp [isSenderS,senderBase,senderReset,h1,h2,h3,h4,h5,h6,h7,h8,h9]
 refine ON Z Z Z<|FA Z tyF_impl_Sender_0 Z<|ON Z Z Z<|LD (i:=0) Z tyP_int Z Z Z<|ON Z Z Z<|EQ1 Z Z Z<|PF Z Z Z Z<|ND<|?_
 refine gw_cond Z (fun h15=>?_) (fun h15=>?_)
 ·refine SQ<|RG<|FA Z tyF_impl_Sender_1 Z<|FA Z tyF_impl_Ring_1 Z<|LD (i:=0) Z tyP_int Z Z Z<|FA Z tyF_impl_Sender_1 Z<|FA Z tyF_impl_Ring_2 Z<|LD (i:=0) Z tyP_int Z Z Z<|EQ1 Z Z Z<|MV Z Z<|?_
  refine rw_caseL (j:=67) Z (fun h16=>?_) (fun h16=>?_)
  ·refine ON Z Z Z<|FA Z tyF_impl_Sender_2 Z<|ON Z Z Z<|LD (i:=0) Z tyP_S_impl_Range Z Z Z<|ON Z Z Z<|rw_len Z tyE_S_impl_Range Z<|ON Z Z Z<|EQ1 Z Z Z<|PT Z Z Z Z<|MV Z Z<|?_
   refine rw_caseL (j:=73) Z (fun h17=>?_) (fun h17=>?_)
   ·have hnil7:=nil_of_eq h17
    refine ON Z Z Z<|FA Z tyF_impl_Sender_3 Z<|ON Z Z Z<|LD (i:=0) Z tyP_S_impl_Range Z Z Z<|ON Z Z Z<|rw_len Z tyE_S_impl_Range Z<|ON Z Z Z<|EQ1 Z Z Z<|PT Z Z Z Z<|MV Z Z<|?_
    refine rw_caseL (j:=79) Z (fun h18=>?_) (fun h18=>?_)
    ·have hnil8:=nil_of_eq h18
     refine ON Z Z Z<|FA Z tyF_impl_Sender_4 Z<|ON Z Z Z<|LD (i:=0) Z tyP_S_impl_Range Z Z Z<|ON Z Z Z<|rw_len Z tyE_S_impl_Range Z<|ON Z Z Z<|EQ1 Z Z Z<|PT Z Z Z Z<|MV Z Z<|?_
     refine rw_caseL (j:=85) Z (fun h19=>?_) (fun h19=>?_)
     ·have hnil9:=nil_of_eq h19
      refine ON Z Z Z<|FA Z tyF_impl_Sender_5 Z<|ON Z Z Z<|LD (i:=0) Z tyP_int Z Z Z<|ON Z Z Z<|FA Z tyF_impl_Sender_7 Z<|ON Z Z Z<|LD (i:=0) Z tyP_int Z Z Z<|ON Z Z Z<|EQ1 Z Z Z<|PT Z Z Z Z<|MV Z Z<|?_
      refine rw_caseL (j:=92) Z (fun h20=>?_) (fun h20=>?_)
      ·refine ON Z Z Z<|FA Z tyF_impl_Sender_6 Z<|ON Z Z Z<|LD (i:=0) Z tyP_int Z Z Z<|ON Z Z Z<|EQ1 Z Z Z<|PT Z Z Z Z<|MV Z Z<|?_
       refine rw_caseL (j:=97) Z (fun h21=>?_) (fun h21=>?_)
       ·refine ON Z Z Z<|FA Z tyF_impl_Sender_7 Z<|ON Z Z Z<|LD (i:=0) Z tyP_int Z Z Z<|ON Z Z Z<|FA Z tyF_impl_Sender_1 Z<|ON Z Z Z<|FA Z tyF_impl_Ring_2 Z<|ON Z Z Z<|LD (i:=0) Z tyP_int Z Z Z<|ON Z Z Z<|EQ1 Z Z Z<|PT Z Z Z Z<|AS Z Z<|ND<|RT Tryz.func79 Z Z<|?_
        simp [isSenderS,senderBase,senderReset,h1,h2,h3,h4,h5,h6,h7,h8,h15,h16,h17,h18,h19,h20,h21]
       refine SKP Z<|PF Z Z Z Z<|AS Z Z<|ND<|RT Tryz.func79 Z Z<|?_
       simp [isSenderS,senderBase,senderReset,h1,h2,h3,h4,h5,h6,h7,h8,h15,h16,h17,h18,h19,h20,h21]
      refine SKP Z<|PF Z Z Z Z<|MV Z Z<|SKP Z<|PF Z Z Z Z<|AS Z Z<|ND<|RT Tryz.func79 Z Z<|?_
      simp [isSenderS,senderBase,senderReset,h1,h2,h3,h4,h5,h6,h7,h8,h15,h16,h17,h18,h19,h20]
     have hpos10:=pos_of_ne h19
     refine SKP Z<|PF Z Z Z Z<|MV Z Z<|SKP Z<|PF Z Z Z Z<|MV Z Z<|SKP Z<|PF Z Z Z Z<|AS Z Z<|ND<|RT Tryz.func79 Z Z<|?_
     simp [isSenderS,senderBase,senderReset,h1,h2,h3,h4,h5,h6,h7,h8,h15,h16,h17,h18,h19]
    have hpos11:=pos_of_ne h18
    refine SKP Z<|PF Z Z Z Z<|MV Z Z<|SKP Z<|PF Z Z Z Z<|MV Z Z<|SKP Z<|PF Z Z Z Z<|MV Z Z<|SKP Z<|PF Z Z Z Z<|AS Z Z<|ND<|RT Tryz.func79 Z Z<|?_
    simp [isSenderS,senderBase,senderReset,h1,h2,h3,h4,h5,h6,h7,h8,h15,h16,h17,h18]
   have hpos12:=pos_of_ne h17
   refine SKP Z<|PF Z Z Z Z<|MV Z Z<|SKP Z<|PF Z Z Z Z<|MV Z Z<|SKP Z<|PF Z Z Z Z<|MV Z Z<|SKP Z<|PF Z Z Z Z<|MV Z Z<|SKP Z<|PF Z Z Z Z<|AS Z Z<|ND<|RT Tryz.func79 Z Z<|?_
   simp [isSenderS,senderBase,senderReset,h1,h2,h3,h4,h5,h6,h7,h8,h15,h16,h17]
  refine SKP Z<|PF Z Z Z Z<|MV Z Z<|SKP Z<|PF Z Z Z Z<|MV Z Z<|SKP Z<|PF Z Z Z Z<|MV Z Z<|SKP Z<|PF Z Z Z Z<|MV Z Z<|SKP Z<|PF Z Z Z Z<|MV Z Z<|SKP Z<|PF Z Z Z Z<|AS Z Z<|ND<|RT Tryz.func79 Z Z<|?_
  simp [isSenderS,senderBase,senderReset,h1,h2,h3,h4,h5,h6,h7,h8,h15,h16]
 refine SK<|SQ<|RG<|FA Z tyF_impl_Sender_2 Z<|LD (i:=0) Z tyP_S_impl_Range Z Z Z<|AS Z Z<|ND<|SQ<|SQ<|RG<|AS Z Z<|ND<|BK<|?_
 refine gw_loopX (α:=Nat × Option Addr × Nat × List Ck) (fun z_=>z_.1 ≤ x.flight.length ∧ RdB w 2 (Pl Range.cells) z_.2.1 (addAll x.pending (x.flight.take z_.1)) z_.2.2.2) (fun z_=>x.flight.length - z_.1) (fun e z_=>(4,.int .i64 (z_.1 : Int)) :: (3,.slice z_.2.1 (addAll x.pending (x.flight.take z_.1)).length z_.2.2.1) :: e) (fun B _=>B) (fun F z_=>z_.2.2.2 ++ []) (0,A1,c1,[]) [(1,_),(2,_)] (Sub.consE Z Z (Sub.consE Z Z (Sub.cons (i:=1) Z (Sub.cons (i:=2) Z (Sub.nil _))))) Z Z ?_ ?_
 ·exact ⟨Nat.zero_le _,RdB.ext Pl.keeps hA1⟩
 ·rintro ⟨i,A11,cp1,ch_1⟩ hI13 ih13
  dsimp only at hI13
  dsimp only
  obtain ⟨hle1,hB1⟩:=hI13
  have hal1:=addAll_len (x.flight.take i) x.pending
  simp only [List.length_take] at hal1
  refine SQ<|SQ<|RG<|MV Z Z<|FA Z tyF_impl_Sender_3 Z<|LD (i:=0) Z tyP_S_impl_Range Z Z Z<|rw_len Z tyE_S_impl_Range Z<|rw_lss Z Z Z<|ND<|?_
  refine gw_cond Z (fun h22=>?_) (fun h22=>?_)
  ·have hi14:=lt_of_dec h22
   obtain ⟨x15,hx15⟩:=get_of_lt hi14
   have hd15:=drop_cons hx15
   refine SK<|SQ<|BK<|RG<|MV Z Z<|FA Z tyF_impl_Sender_3 Z<|LD (i:=0) Z tyP_S_impl_Range Z Z Z<|MV Z Z<|?_
   have hq16:=hA2.plain hx15
   refine rw_indexAddr (i) Z tyE_S_impl_Range Z Z Z (hA2.some hi14) hi14<|rw_loadX_s [_,_] Z tyS_impl_Range Z Z (fun w hs=>hq16.lds0 (n:=2) hs Z)<|CN1 Z fun_spec_AddRange Z (fun w hs=>spec_AddRange ⟨_,_,Z,hB1.2 _ hs.below (fun c hc=>hs.at_ c (MR (ML hc)))⟩ (by omega) _)<|fun v17 ch17 how17=>?_
   obtain ⟨R17,rc17,rfl,hR17,hrd17⟩:=how17.shape eRange
   refine AS Z Z<|ND<|IB<|RG<|MV Z Z<|rw_add Z Z Z<|AS Z Z<|ND<|?_
   refine gw_dropF (F':=ch17 ++ ([])) (List.Sublist.append_left (List.nil_sublist _) _)<|?_
   refine gw_sub (Sub.consE (i:=4) Z (int_succ (by omega)) (Sub.consE (i:=3) Z (by rw [addAll_take hx15]) (Sub.cons (i:=1) Z (Sub.cons (i:=2) Z (Sub.nil _))))) (ih13 (i + 1,R17,rc17,ch17) ?_ ?_)
   ·exact ⟨by omega,by rw [addAll_take hx15]; exact RdB.own hR17 hrd17⟩
   ·show x.flight.length - (i + 1) < x.flight.length - i; omega
  have hn18:=nil_of_dec h22
  refine EX Z<|SQ<|SQ<|RG<|AS Z Z<|ND<|BK<|?_
  refine gw_loopX (α:=Nat × Option Addr × Nat × List Ck) (fun z_=>z_.1 ≤ x.acked.length ∧ RdB w 2 (Pl Range.cells) z_.2.1 (addAll (addAll x.pending x.flight) (x.acked.take z_.1)) z_.2.2.2) (fun z_=>x.acked.length - z_.1) (fun e z_=>(5,.int .i64 (z_.1 : Int)) :: (3,.slice z_.2.1 (addAll (addAll x.pending x.flight) (x.acked.take z_.1)).length z_.2.2.1) :: e) (fun B _=>B) (fun F z_=>z_.2.2.2 ++ []) (0,A11,cp1,ch_1) [(1,_),(2,_)] (Sub.consE Z Z (Sub.consE Z (by rw [take_all hn18]; rfl) (Sub.cons (i:=1) Z (Sub.cons (i:=2) Z (Sub.nil _))))) Z Z ?_ ?_
  ·exact ⟨Nat.zero_le _,(by rw [take_all hn18] at hB1; exact hB1)⟩
  ·rintro ⟨i,A12,cp2,ch_2⟩ hI19 ih19
   dsimp only at hI19
   dsimp only
   obtain ⟨hle2,hB2⟩:=hI19
   have hal2:=addAll_len (x.acked.take i) (addAll x.pending x.flight)
   simp only [List.length_take] at hal2
   have hal0:=addAll_len x.flight x.pending
   refine SQ<|SQ<|RG<|MV Z Z<|FA Z tyF_impl_Sender_4 Z<|LD (i:=0) Z tyP_S_impl_Range Z Z Z<|rw_len Z tyE_S_impl_Range Z<|rw_lss Z Z Z<|ND<|?_
   refine gw_cond Z (fun h23=>?_) (fun h23=>?_)
   ·have hi20:=lt_of_dec h23
    obtain ⟨x21,hx21⟩:=get_of_lt hi20
    have hd21:=drop_cons hx21
    refine SK<|SQ<|BK<|RG<|MV Z Z<|FA Z tyF_impl_Sender_4 Z<|LD (i:=0) Z tyP_S_impl_Range Z Z Z<|MV Z Z<|?_
    have hq22:=hA3.plain hx21
    refine rw_indexAddr (i) Z tyE_S_impl_Range Z Z Z (hA3.some hi20) hi20<|rw_loadX_s [_,_] Z tyS_impl_Range Z Z (fun w hs=>hq22.lds0 (n:=2) hs Z)<|CN1 Z fun_spec_AddRange Z (fun w hs=>spec_AddRange ⟨_,_,Z,hB2.2 _ hs.below (fun c hc=>hs.at_ c (MR (ML hc)))⟩ (by omega) _)<|fun v23 ch23 how23=>?_
    obtain ⟨R23,rc23,rfl,hR23,hrd23⟩:=how23.shape eRange
    refine AS Z Z<|ND<|IB<|RG<|MV Z Z<|rw_add Z Z Z<|AS Z Z<|ND<|?_
    refine gw_dropF (F':=ch23 ++ ([])) (List.Sublist.append_left (List.nil_sublist _) _)<|?_
    refine gw_sub (Sub.consE (i:=5) Z (int_succ (by omega)) (Sub.consE (i:=3) Z (by rw [addAll_take hx21]) (Sub.cons (i:=1) Z (Sub.cons (i:=2) Z (Sub.nil _))))) (ih19 (i + 1,R23,rc23,ch23) ?_ ?_)
    ·exact ⟨by omega,by rw [addAll_take hx21]; exact RdB.own hR23 hrd23⟩
    ·show x.acked.length - (i + 1) < x.acked.length - i; omega
   have hn24:=nil_of_dec h23
   refine EX Z<|SQ<|gw_draw' [dd 0,dd 1,dd 2,dd 3,dd 4,dd 5,dd 6,dd 7,dd 8,dd 9] [10,11] mixed Z (FD Z) (ts:=[_,_]) Z<|DT Z Z (fun _ q=>FA Z tyF_impl_Sender_2 Z q)<|DT Z Z (fun _ q=>LD (i:=0) Z tyP_S_impl_Range Z Z Z q)<|DT Z Z (fun _ q=>CV1 Z fun_spec_CountNumbers Z (fun w hs=>spec_CountNumbers (hA1.s Pl.keeps hs) (by omega)) q)<|DT Z Z (fun _ q=>FA Z tyF_impl_Sender_3 Z q)<|DT Z Z (fun _ q=>LD (i:=0) Z tyP_S_impl_Range Z Z Z q)<|?_
   refine DT Z Z (fun _ q=>CV1 Z fun_spec_CountNumbers Z (fun w hs=>spec_CountNumbers (hA2.s Pl.keeps hs) (by omega)) q)<|DT Z Z (fun _ q=>rw_add Z Z Z q)<|DT Z Z (fun _ q=>FA Z tyF_impl_Sender_4 Z q)<|DT Z Z (fun _ q=>LD (i:=0) Z tyP_S_impl_Range Z Z Z q)<|DT Z Z (fun _ q=>CV1 Z fun_spec_CountNumbers Z (fun w hs=>spec_CountNumbers (hA3.s Pl.keeps hs) (by omega)) q)<|dw_nil<|rw_add Z Z Z<|AS Z Z<|ND<|SQ<|SQ<|gw_draw' [dd 0,dd 1,dd 2,dd 3,dd 4,dd 5,dd 6,dd 7,dd 8,dd 9,dd 10,dd 11,dd 12,dd 13,dd 14,dd 15,dd 16,dd 17,dd 18,dd 19,dd 20,dd 21,dd 22,dd 23,dd 24,dd 25,dd 26,dd 27,dd 28,dd 29,dd 30,dd 31,dd 32,dd 33,dd 34,dd 35] [36,37,38,39,40,41,42] mixed Z (FD Z) (ts:=[_,_,_,_,_,_,_]) Z<|?_
   refine DM Z Z Z<|DT Z Z (fun _ q=>CV1 Z fun_spec_CountNumbers Z (fun w hs=>spec_CountNumbers ⟨_,_,Z,hB2.2 _ hs.below (fun c hc=>hs.at_ c (MR (ML hc)))⟩ (by omega)) q)<|DT Z Z (fun _ q=>FA Z tyF_impl_Sender_1 Z q)<|DT Z Z (fun _ q=>FA Z tyF_impl_Ring_2 Z q)<|DT Z Z (fun _ q=>LD (i:=0) Z tyP_int Z Z Z q)<|DT Z Z (fun _ q=>rw_neq Z Z Z q)<|DM Z Z Z<|?_
   refine dw_caseN (j:=152) Z (fun h24=>?_) (fun h24=>?_)
   ·refine DSK Z<|DT Z Z (fun _ q=>PT Z Z Z Z q)<|DM Z Z Z<|DSK Z<|DT Z Z (fun _ q=>PT Z Z Z Z q)<|DM Z Z Z<|DSK Z<|dw_nil<|OF Z Z Z Z<|PT Z Z Z Z<|MV Z Z<|SKP Z<|PT Z Z Z Z<|ND<|CT Z Z<|SQ<|RG<|AS Z Z<|ND<|RT Tryz.func79 Z Z<|?_
    simp only [take_all hn24] at *
    simp [isSenderS,senderBase,senderReset,sAll,h1,h2,h3,h4,h5,h6,h7,h8,h15,h24]
   refine DT Z Z (fun _ q=>ON Z Z Z (MV Z Z q))<|DT Z Z (fun _ q=>ON Z Z Z (FA Z tyF_impl_Sender_1 Z q))<|DT Z Z (fun _ q=>ON Z Z Z (FA Z tyF_impl_Ring_2 Z q))<|DT Z Z (fun _ q=>ON Z Z Z (LD (i:=0) Z tyP_int Z Z Z q))<|DT Z Z (fun _ q=>ON Z Z Z (rw_neq Z Z Z q))<|DT Z Z (fun _ q=>PF Z Z Z Z q)<|DM Z Z Z<|?_
   refine dw_caseN (j:=159) Z (fun h25=>?_) (fun h25=>?_)
   ·refine DSK Z<|DT Z Z (fun _ q=>PT Z Z Z Z q)<|DM Z Z Z<|DSK Z<|dw_nil<|OF Z Z Z Z<|PT Z Z Z Z<|MV Z Z<|SKP Z<|PT Z Z Z Z<|ND<|CT Z Z<|SQ<|RG<|AS Z Z<|ND<|RT Tryz.func79 Z Z<|?_
    simp only [take_all hn24] at *
    simp [isSenderS,senderBase,senderReset,sAll,h1,h2,h3,h4,h5,h6,h7,h8,h15,h24,h25]
   refine DT Z Z (fun _ q=>ON Z Z Z (FA Z tyF_impl_Sender_1 Z q))<|DT Z Z (fun _ q=>ON Z Z Z (FA Z tyF_impl_Ring_2 Z q))<|DT Z Z (fun _ q=>ON Z Z Z (LD (i:=0) Z tyP_int Z Z Z q))<|DT Z Z (fun _ q=>ON Z Z Z (rw_gtr Z Z Z q))<|DT Z Z (fun _ q=>ON Z Z Z (MV Z Z q))<|?_
   refine dw_caseL (j:=164) Z (fun h26=>?_) (fun h26=>?_)
   ·refine DT Z Z (fun _ q=>ON Z Z Z (MV Z Z q))<|?_
    have hi25:=count_pos h24 h26
    obtain ⟨x26,hx26⟩:=get_of_lt hi25
    have hd26:=drop_cons hx26
    refine DT Z Z (fun _ q=>ON Z Z Z (rw_indexAddr (0) Z tyE_S_impl_Range Z Z Z (hB2.1 (Nat.zero_lt_of_lt hi25)) hi25 q))<|DT Z Z (fun _ q=>ON Z Z Z (FX Z tyF_impl_Range_1 Z q))<|DT Z Z (fun _ q=>ON Z Z Z (rw_loadX _ Z tyP_int Z (fun w hs=>((hB2.2 _ hs.below (fun c hc=>hs.at_ c (MR (ML hc)))).plain hx26).cell Z) q))<|DT Z Z (fun _ q=>ON Z Z Z (FA Z tyF_impl_Sender_1 Z q))<|DT Z Z (fun _ q=>ON Z Z Z (FA Z tyF_impl_Ring_2 Z q))<|?_
    refine DT Z Z (fun _ q=>ON Z Z Z (LD (i:=0) Z tyP_int Z Z Z q))<|DT Z Z (fun _ q=>ON Z Z Z (rw_neq Z Z Z q))<|DT Z Z (fun _ q=>ON Z Z Z (PT Z Z Z Z q))<|DT Z Z (fun _ q=>PF Z Z Z Z q)<|DM Z Z Z<|?_
    refine dw_caseN (j:=175) Z (fun h27=>?_) (fun h27=>?_)
    ·refine DSK Z<|dw_nil<|OF Z Z Z Z<|PT Z Z Z Z<|MV Z Z<|SKP Z<|PT Z Z Z Z<|ND<|CT Z Z<|SQ<|RG<|AS Z Z<|ND<|RT Tryz.func79 Z Z<|?_
     simp only [take_all hn24] at *
     simp [isSenderS,senderBase,senderReset,sAll,h1,h2,h3,h4,h5,h6,h7,h8,h15,h24,h25,h26,h27,head_of hx26]
    refine DT Z Z (fun _ q=>ON Z Z Z (FA Z tyF_impl_Sender_4 Z q))<|DT Z Z (fun _ q=>ON Z Z Z (LD (i:=0) Z tyP_S_impl_Range Z Z Z q))<|DT Z Z (fun _ q=>ON Z Z Z (CV1 Z fun_spec_FirstGap Z (fun w hs=>spec_FirstGap (hA3.s Pl.keeps hs) (by omega) _) q))<|DT Z Z (fun _ q=>ON Z Z Z (FA Z tyF_impl_Sender_1 Z q))<|DT Z Z (fun _ q=>ON Z Z Z (FA Z tyF_impl_Ring_1 Z q))<|?_
    refine DT Z Z (fun _ q=>ON Z Z Z (LD (i:=0) Z tyP_int Z Z Z q))<|dw_nil<|ON Z Z Z<|rw_neq Z Z Z<|PF Z Z Z Z<|MV Z Z<|?_
    refine rw_caseN (j:=184) Z (fun h28=>?_) (fun h28=>?_)
    ·refine SKP Z<|PT Z Z Z Z<|ND<|CT Z Z<|SQ<|RG<|AS Z Z<|ND<|RT Tryz.func79 Z Z<|?_
     simp only [take_all hn24] at *
     simp [isSenderS,senderBase,senderReset,sAll,h1,h2,h3,h4,h5,h6,h7,h8,h15,h24,h25,h26,h27,h28,head_of hx26]
    refine ON Z Z Z<|FA Z tyF_impl_Sender_8 Z<|ON Z Z Z<|LD (i:=0) Z tyP_int Z Z Z<|ON Z Z Z<|rw_neq Z Z Z<|PF Z Z Z Z<|ND<|?_
    refine gw_condN Z (fun h29=>?_) (fun h29=>?_)
    ·refine SQ<|RG<|AS Z Z<|ND<|RT Tryz.func79 Z Z<|?_
     simp only [take_all hn24] at *
     simp [isSenderS,senderBase,senderReset,sAll,h1,h2,h3,h4,h5,h6,h7,h8,h15,h24,h25,h26,h27,h28,h29,head_of hx26]
    refine SK<|SQ<|SQ<|RG<|AS Z Z<|ND<|BK<|?_
    refine gw_loopC (α:=Nat) (fun z_=>z_ ≤ x.flight.length ∧ x.flight.all (fun r=>!decide (x.sent < r.high)) = (x.flight.drop z_).all (fun r=>!decide (x.sent < r.high))) (fun z_=>x.flight.length - z_) (fun e z_=>(7,.int .i64 (z_ : Int)) :: e) 0 [(1,_)] (Sub.consE Z Z (Sub.cons (i:=1) Z (Sub.nil _))) ?_ ?_
    ·exact ⟨Nat.zero_le _,rfl⟩
    ·rintro i hI27 ih27
     try dsimp only
     obtain ⟨hle,hJ1⟩:=hI27
     refine SQ<|SQ<|RG<|MV Z Z<|FA Z tyF_impl_Sender_3 Z<|LD (i:=0) Z tyP_S_impl_Range Z Z Z<|rw_len Z tyE_S_impl_Range Z<|rw_lss Z Z Z<|ND<|?_
     refine gw_cond Z (fun h30=>?_) (fun h30=>?_)
     ·have hi28:=lt_of_dec h30
      obtain ⟨x29,hx29⟩:=get_of_lt hi28
      have hd29:=drop_cons hx29
      refine SK<|SQ<|BK<|SQ<|gw_draw' [dd 0,dd 1,dd 2,dd 3,dd 4,dd 5,dd 6,dd 7] [8] mixed Z (FD Z) (ts:=[_]) Z<|DT Z Z (fun _ q=>FA Z tyF_impl_Sender_3 Z q)<|DT Z Z (fun _ q=>LD (i:=0) Z tyP_S_impl_Range Z Z Z q)<|DM Z Z Z<|?_
      have hq30:=hA2.plain hx29
      refine DT Z Z (fun _ q=>rw_indexAddr (i) Z tyE_S_impl_Range Z Z Z (hA2.some hi28) hi28 q)<|DT Z Z (fun _ q=>FX Z tyF_impl_Range_1 Z q)<|DT Z Z (fun _ q=>rw_loadX _ Z tyP_int Z (fun w hs=>hq30.ld hs Z) q)<|DT Z Z (fun _ q=>FA Z tyF_impl_Sender_7 Z q)<|DT Z Z (fun _ q=>LD (i:=0) Z tyP_int Z Z Z q)<|dw_nil<|rw_gtr Z Z Z<|ND<|?_
      refine gw_cond Z (fun h31=>?_) (fun h31=>?_)
      ·refine SQ<|RG<|AS Z Z<|ND<|RT Tryz.func79 Z Z<|?_
       simp only [take_all hn24] at *
       simp [isSenderS,senderBase,senderReset,sAll,h1,h2,h3,h4,h5,h6,h7,h8,h15,h24,h25,h26,h27,h28,h29,h31,head_of hx26,hJ1,hd29]
      refine SK<|IB<|RG<|MV Z Z<|rw_add Z Z Z<|AS Z Z<|ND<|?_
      refine gw_sub (Sub.consE (i:=7) Z (int_succ (by omega)) (Sub.cons (i:=1) Z (Sub.nil _))) (ih27 (i + 1) ?_ ?_)
      ·exact ⟨by omega,by rw [hJ1,hd29]; simp [h31]⟩
      ·show x.flight.length - (i + 1) < x.flight.length - i; omega
     have hn31:=nil_of_dec h30
     refine EX Z<|SQ<|SQ<|RG<|AS Z Z<|ND<|BK<|?_
     refine gw_loopC (α:=Nat) (fun z_=>z_ ≤ x.acked.length ∧ x.acked.all (fun r=>!decide (x.sent < r.high)) = (x.acked.drop z_).all (fun r=>!decide (x.sent < r.high))) (fun z_=>x.acked.length - z_) (fun e z_=>(8,.int .i64 (z_ : Int)) :: e) 0 [(1,_)] (Sub.consE Z Z (Sub.cons (i:=1) Z (Sub.nil _))) ?_ ?_
     ·exact ⟨Nat.zero_le _,rfl⟩
     ·rintro i hI32 ih32
      try dsimp only
      obtain ⟨hle,hJ2⟩:=hI32
      refine SQ<|SQ<|RG<|MV Z Z<|FA Z tyF_impl_Sender_4 Z<|LD (i:=0) Z tyP_S_impl_Range Z Z Z<|rw_len Z tyE_S_impl_Range Z<|rw_lss Z Z Z<|ND<|?_
      refine gw_cond Z (fun h32=>?_) (fun h32=>?_)
      ·have hi33:=lt_of_dec h32
       obtain ⟨x34,hx34⟩:=get_of_lt hi33
       have hd34:=drop_cons hx34
       refine SK<|SQ<|BK<|SQ<|gw_draw' [dd 0,dd 1,dd 2,dd 3,dd 4,dd 5,dd 6,dd 7] [8] mixed Z (FD Z) (ts:=[_]) Z<|DT Z Z (fun _ q=>FA Z tyF_impl_Sender_4 Z q)<|DT Z Z (fun _ q=>LD (i:=0) Z tyP_S_impl_Range Z Z Z q)<|DM Z Z Z<|?_
       have hq35:=hA3.plain hx34
       refine DT Z Z (fun _ q=>rw_indexAddr (i) Z tyE_S_impl_Range Z Z Z (hA3.some hi33) hi33 q)<|DT Z Z (fun _ q=>FX Z tyF_impl_Range_1 Z q)<|DT Z Z (fun _ q=>rw_loadX _ Z tyP_int Z (fun w hs=>hq35.ld hs Z) q)<|DT Z Z (fun _ q=>FA Z tyF_impl_Sender_7 Z q)<|DT Z Z (fun _ q=>LD (i:=0) Z tyP_int Z Z Z q)<|dw_nil<|rw_gtr Z Z Z<|ND<|?_
       refine gw_cond Z (fun h33=>?_) (fun h33=>?_)
       ·refine SQ<|RG<|AS Z Z<|ND<|RT Tryz.func79 Z Z<|?_
        simp only [take_all hn24] at *
        have hF : (x.flight.all fun r=>!decide (x.sent < r.high)) = true:=by rw [hJ1,hn31]; rfl
        simp [isSenderS,senderBase,senderReset,sAll,h1,h2,h3,h4,h5,h6,h7,h8,h15,h24,h25,h26,h27,h28,h29,h33,head_of hx26,hF,hJ2,hd34]
       refine SK<|IB<|RG<|MV Z Z<|rw_add Z Z Z<|AS Z Z<|ND<|?_
       refine gw_sub (Sub.consE (i:=8) Z (int_succ (by omega)) (Sub.cons (i:=1) Z (Sub.nil _))) (ih32 (i + 1) ?_ ?_)
       ·exact ⟨by omega,by rw [hJ2,hd34]; simp [h33]⟩
       ·show x.acked.length - (i + 1) < x.acked.length - i; omega
      have hn36:=nil_of_dec h32
      refine EX Z<|SQ<|SQ<|RG<|FA Z tyF_impl_Sender_6 Z<|LD (i:=0) Z tyP_int Z Z Z<|EQ1 Z Z Z<|FA Z tyF_impl_Sender_5 Z<|LD (i:=0) Z tyP_int Z Z Z<|EQ1 Z Z Z<|rw_neqB (by kernel_rfl) Z Z Z<|MV Z Z<|?_
      refine rw_caseN (j:=228) Z (fun h34=>?_) (fun h34=>?_)
      ·refine SKP Z<|PT Z Z Z Z<|ND<|CT Z Z<|SQ<|RG<|AS Z Z<|ND<|RT Tryz.func79 Z Z<|?_
       simp only [take_all hn24] at *
       have hF : (x.flight.all fun r=>!decide (x.sent < r.high)) = true:=by rw [hJ1,hn31]; rfl
       have hC : (x.acked.all fun r=>!decide (x.sent < r.high)) = true:=by rw [hJ2,hn36]; rfl
       simp [isSenderS,senderBase,senderReset,sAll,h1,h2,h3,h4,h5,h6,h7,h8,h15,h24,h25,h26,h27,h28,h29,h34,head_of hx26,hF,hC]
      have hse37:=eq_of_beq h34
      refine ON Z Z Z<|FA Z tyF_impl_Sender_5 Z<|ON Z Z Z<|LD (i:=0) Z tyP_int Z Z Z<|ON Z Z Z<|rw_neq Z Z Z<|ON Z Z Z<|MV Z Z<|?_
      refine rw_caseN (j:=232) Z (fun h35=>?_) (fun h35=>?_)
      ·refine ON Z Z Z<|FA Z tyF_impl_Sender_5 Z<|ON Z Z Z<|LD (i:=0) Z tyP_int Z Z Z<|ON Z Z Z<|FA Z tyF_impl_Sender_1 Z<|ON Z Z Z<|FA Z tyF_impl_Ring_2 Z<|ON Z Z Z<|LD (i:=0) Z tyP_int Z Z Z<|ON Z Z Z<|rw_neq Z Z Z<|ON Z Z Z<|PT Z Z Z Z<|PF Z Z Z Z<|ND<|?_
       refine gw_condN Z (fun h36=>?_) (fun h36=>?_)
       ·refine SQ<|RG<|AS Z Z<|ND<|RT Tryz.func79 Z Z<|?_
        simp only [take_all hn24] at *
        have hF : (x.flight.all fun r=>!decide (x.sent < r.high)) = true:=by rw [hJ1,hn31]; rfl
        have hC : (x.acked.all fun r=>!decide (x.sent < r.high)) = true:=by rw [hJ2,hn36]; rfl
        simp [isSenderS,senderBase,senderReset,sAll,h1,h2,h3,h4,h5,h6,h7,h8,h15,h24,h25,h26,h27,h28,h29,hse37,h35,h36,head_of hx26,hF,hC]
       refine SK<|SQ<|gw_draw' [dd 0,dd 1,dd 2,dd 3] [4,5] mixed Z (FD Z) (ts:=[_,_]) Z<|DT Z Z (fun _ q=>FA Z tyF_impl_Sender_0 Z q)<|DT Z Z (fun _ q=>LD (i:=0) Z tyP_int Z Z Z q)<|DT Z Z (fun _ q=>LS (i:=0) [_,_,_,_,_,_,_,_,_,_,_,_] Z tyS_impl_Sender Z Z Z Z q)<|DT Z Z (fun _ q=>CV1 Z fun_spec_l9State Z (fun w hs=>spec_l9State (rdSender_mk (hA0.s Pl.keeps hs) (hA1.s Pl.keeps hs) (hA2.s Pl.keeps hs) (hA3.s Pl.keeps hs))) q)<|dw_nil<|?_
       refine EQ1 Z Z Z<|AS Z Z<|ND<|RT Tryz.func79 Z Z<|?_
       simp only [take_all hn24] at *
       have hF : (x.flight.all fun r=>!decide (x.sent < r.high)) = true:=by rw [hJ1,hn31]; rfl
       have hC : (x.acked.all fun r=>!decide (x.sent < r.high)) = true:=by rw [hJ2,hn36]; rfl
       simp [isSenderS,senderBase,senderReset,sAll,h1,h2,h3,h4,h5,h6,h7,h8,h15,h24,h25,h26,h27,h28,h29,hse37,h35,h36,head_of hx26,hF,hC]
      refine SKP Z<|ON Z Z Z<|PF Z Z Z Z<|PF Z Z Z Z<|ND<|CF Z Z<|SK<|SQ<|gw_draw' [dd 0,dd 1,dd 2,dd 3] [4,5] mixed Z (FD Z) (ts:=[_,_]) Z<|DT Z Z (fun _ q=>FA Z tyF_impl_Sender_0 Z q)<|DT Z Z (fun _ q=>LD (i:=0) Z tyP_int Z Z Z q)<|DT Z Z (fun _ q=>LS (i:=0) [_,_,_,_,_,_,_,_,_,_,_,_] Z tyS_impl_Sender Z Z Z Z q)<|DT Z Z (fun _ q=>CV1 Z fun_spec_l9State Z (fun w hs=>spec_l9State (rdSender_mk (hA0.s Pl.keeps hs) (hA1.s Pl.keeps hs) (hA2.s Pl.keeps hs) (hA3.s Pl.keeps hs))) q)<|?_
      refine dw_nil<|EQ1 Z Z Z<|AS Z Z<|ND<|RT Tryz.func79 Z Z<|?_
      simp only [take_all hn24] at *
      have hF : (x.flight.all fun r=>!decide (x.sent < r.high)) = true:=by rw [hJ1,hn31]; rfl
      have hC : (x.acked.all fun r=>!decide (x.sent < r.high)) = true:=by rw [hJ2,hn36]; rfl
      simp [isSenderS,senderBase,senderReset,sAll,h1,h2,h3,h4,h5,h6,h7,h8,h15,h24,h25,h26,h27,h28,h29,hse37,h35,head_of hx26,hF,hC]
   refine DSK Z<|DT Z Z (fun _ q=>ON Z Z Z (PF Z Z Z Z q))<|DT Z Z (fun _ q=>PF Z Z Z Z q)<|DM Z Z Z<|DT Z Z (fun _ q=>ON Z Z Z (FA Z tyF_impl_Sender_4 Z q))<|DT Z Z (fun _ q=>ON Z Z Z (LD (i:=0) Z tyP_S_impl_Range Z Z Z q))<|DT Z Z (fun _ q=>ON Z Z Z (CV1 Z fun_spec_FirstGap Z (fun w hs=>spec_FirstGap (hA3.s Pl.keeps hs) (by omega) _) q))<|?_
   refine DT Z Z (fun _ q=>ON Z Z Z (FA Z tyF_impl_Sender_1 Z q))<|DT Z Z (fun _ q=>ON Z Z Z (FA Z tyF_impl_Ring_1 Z q))<|DT Z Z (fun _ q=>ON Z Z Z (LD (i:=0) Z tyP_int Z Z Z q))<|dw_nil<|ON Z Z Z<|rw_neq Z Z Z<|PF Z Z Z Z<|MV Z Z<|?_
   refine rw_caseN (j:=184) Z (fun h37=>?_) (fun h37=>?_)
   ·refine SKP Z<|PT Z Z Z Z<|ND<|CT Z Z<|SQ<|RG<|AS Z Z<|ND<|RT Tryz.func79 Z Z<|?_
    simp only [take_all hn24] at *
    simp [isSenderS,senderBase,senderReset,sAll,h1,h2,h3,h4,h5,h6,h7,h8,h15,h24,h25,h26,h37]
   refine ON Z Z Z<|FA Z tyF_impl_Sender_8 Z<|ON Z Z Z<|LD (i:=0) Z tyP_int Z Z Z<|ON Z Z Z<|rw_neq Z Z Z<|PF Z Z Z Z<|ND<|?_
   refine gw_condN Z (fun h38=>?_) (fun h38=>?_)
   ·refine SQ<|RG<|AS Z Z<|ND<|RT Tryz.func79 Z Z<|?_
    simp only [take_all hn24] at *
    simp [isSenderS,senderBase,senderReset,sAll,h1,h2,h3,h4,h5,h6,h7,h8,h15,h24,h25,h26,h37,h38]
   refine SK<|SQ<|SQ<|RG<|AS Z Z<|ND<|BK<|?_
   refine gw_loopC (α:=Nat) (fun z_=>z_ ≤ x.flight.length ∧ x.flight.all (fun r=>!decide (x.sent < r.high)) = (x.flight.drop z_).all (fun r=>!decide (x.sent < r.high))) (fun z_=>x.flight.length - z_) (fun e z_=>(7,.int .i64 (z_ : Int)) :: e) 0 [(1,_)] (Sub.consE Z Z (Sub.cons (i:=1) Z (Sub.nil _))) ?_ ?_
   ·exact ⟨Nat.zero_le _,rfl⟩
   ·rintro i hI38 ih38
    try dsimp only
    obtain ⟨hle,hJ1⟩:=hI38
    refine SQ<|SQ<|RG<|MV Z Z<|FA Z tyF_impl_Sender_3 Z<|LD (i:=0) Z tyP_S_impl_Range Z Z Z<|rw_len Z tyE_S_impl_Range Z<|rw_lss Z Z Z<|ND<|?_
    refine gw_cond Z (fun h39=>?_) (fun h39=>?_)
    ·have hi39:=lt_of_dec h39
     obtain ⟨x40,hx40⟩:=get_of_lt hi39
     have hd40:=drop_cons hx40
     refine SK<|SQ<|BK<|SQ<|gw_draw' [dd 0,dd 1,dd 2,dd 3,dd 4,dd 5,dd 6,dd 7] [8] mixed Z (FD Z) (ts:=[_]) Z<|DT Z Z (fun _ q=>FA Z tyF_impl_Sender_3 Z q)<|DT Z Z (fun _ q=>LD (i:=0) Z tyP_S_impl_Range Z Z Z q)<|DM Z Z Z<|?_
     have hq41:=hA2.plain hx40
     refine DT Z Z (fun _ q=>rw_indexAddr (i) Z tyE_S_impl_Range Z Z Z (hA2.some hi39) hi39 q)<|DT Z Z (fun _ q=>FX Z tyF_impl_Range_1 Z q)<|DT Z Z (fun _ q=>rw_loadX _ Z tyP_int Z (fun w hs=>hq41.ld hs Z) q)<|DT Z Z (fun _ q=>FA Z tyF_impl_Sender_7 Z q)<|DT Z Z (fun _ q=>LD (i:=0) Z tyP_int Z Z Z q)<|dw_nil<|rw_gtr Z Z Z<|ND<|?_
     refine gw_cond Z (fun h40=>?_) (fun h40=>?_)
     ·refine SQ<|RG<|AS Z Z<|ND<|RT Tryz.func79 Z Z<|?_
      simp only [take_all hn24] at *
      simp [isSenderS,senderBase,senderReset,sAll,h1,h2,h3,h4,h5,h6,h7,h8,h15,h24,h25,h26,h37,h38,h40,hJ1,hd40]
     refine SK<|IB<|RG<|MV Z Z<|rw_add Z Z Z<|AS Z Z<|ND<|?_
     refine gw_sub (Sub.consE (i:=7) Z (int_succ (by omega)) (Sub.cons (i:=1) Z (Sub.nil _))) (ih38 (i + 1) ?_ ?_)
     ·exact ⟨by omega,by rw [hJ1,hd40]; simp [h40]⟩
     ·show x.flight.length - (i + 1) < x.flight.length - i; omega
    have hn42:=nil_of_dec h39
    refine EX Z<|SQ<|SQ<|RG<|AS Z Z<|ND<|BK<|?_
    refine gw_loopC (α:=Nat) (fun z_=>z_ ≤ x.acked.length ∧ x.acked.all (fun r=>!decide (x.sent < r.high)) = (x.acked.drop z_).all (fun r=>!decide (x.sent < r.high))) (fun z_=>x.acked.length - z_) (fun e z_=>(8,.int .i64 (z_ : Int)) :: e) 0 [(1,_)] (Sub.consE Z Z (Sub.cons (i:=1) Z (Sub.nil _))) ?_ ?_
    ·exact ⟨Nat.zero_le _,rfl⟩
    ·rintro i hI43 ih43
     try dsimp only
     obtain ⟨hle,hJ2⟩:=hI43
     refine SQ<|SQ<|RG<|MV Z Z<|FA Z tyF_impl_Sender_4 Z<|LD (i:=0) Z tyP_S_impl_Range Z Z Z<|rw_len Z tyE_S_impl_Range Z<|rw_lss Z Z Z<|ND<|?_
     refine gw_cond Z (fun h41=>?_) (fun h41=>?_)
     ·have hi44:=lt_of_dec h41
      obtain ⟨x45,hx45⟩:=get_of_lt hi44
      have hd45:=drop_cons hx45
      refine SK<|SQ<|BK<|SQ<|gw_draw' [dd 0,dd 1,dd 2,dd 3,dd 4,dd 5,dd 6,dd 7] [8] mixed Z (FD Z) (ts:=[_]) Z<|DT Z Z (fun _ q=>FA Z tyF_impl_Sender_4 Z q)<|DT Z Z (fun _ q=>LD (i:=0) Z tyP_S_impl_Range Z Z Z q)<|DM Z Z Z<|?_
      have hq46:=hA3.plain hx45
      refine DT Z Z (fun _ q=>rw_indexAddr (i) Z tyE_S_impl_Range Z Z Z (hA3.some hi44) hi44 q)<|DT Z Z (fun _ q=>FX Z tyF_impl_Range_1 Z q)<|DT Z Z (fun _ q=>rw_loadX _ Z tyP_int Z (fun w hs=>hq46.ld hs Z) q)<|DT Z Z (fun _ q=>FA Z tyF_impl_Sender_7 Z q)<|DT Z Z (fun _ q=>LD (i:=0) Z tyP_int Z Z Z q)<|dw_nil<|rw_gtr Z Z Z<|ND<|?_
      refine gw_cond Z (fun h42=>?_) (fun h42=>?_)
      ·refine SQ<|RG<|AS Z Z<|ND<|RT Tryz.func79 Z Z<|?_
       simp only [take_all hn24] at *
       have hF : (x.flight.all fun r=>!decide (x.sent < r.high)) = true:=by rw [hJ1,hn42]; rfl
       simp [isSenderS,senderBase,senderReset,sAll,h1,h2,h3,h4,h5,h6,h7,h8,h15,h24,h25,h26,h37,h38,h42,hF,hJ2,hd45]
      refine SK<|IB<|RG<|MV Z Z<|rw_add Z Z Z<|AS Z Z<|ND<|?_
      refine gw_sub (Sub.consE (i:=8) Z (int_succ (by omega)) (Sub.cons (i:=1) Z (Sub.nil _))) (ih43 (i + 1) ?_ ?_)
      ·exact ⟨by omega,by rw [hJ2,hd45]; simp [h42]⟩
      ·show x.acked.length - (i + 1) < x.acked.length - i; omega
     have hn47:=nil_of_dec h41
     refine EX Z<|SQ<|SQ<|RG<|FA Z tyF_impl_Sender_6 Z<|LD (i:=0) Z tyP_int Z Z Z<|EQ1 Z Z Z<|FA Z tyF_impl_Sender_5 Z<|LD (i:=0) Z tyP_int Z Z Z<|EQ1 Z Z Z<|rw_neqB (by kernel_rfl) Z Z Z<|MV Z Z<|?_
     refine rw_caseN (j:=228) Z (fun h43=>?_) (fun h43=>?_)
     ·refine SKP Z<|PT Z Z Z Z<|ND<|CT Z Z<|SQ<|RG<|AS Z Z<|ND<|RT Tryz.func79 Z Z<|?_
      simp only [take_all hn24] at *
      have hF : (x.flight.all fun r=>!decide (x.sent < r.high)) = true:=by rw [hJ1,hn42]; rfl
      have hC : (x.acked.all fun r=>!decide (x.sent < r.high)) = true:=by rw [hJ2,hn47]; rfl
      simp [isSenderS,senderBase,senderReset,sAll,h1,h2,h3,h4,h5,h6,h7,h8,h15,h24,h25,h26,h37,h38,h43,hF,hC]
     have hse48:=eq_of_beq h43
     refine ON Z Z Z<|FA Z tyF_impl_Sender_5 Z<|ON Z Z Z<|LD (i:=0) Z tyP_int Z Z Z<|ON Z Z Z<|rw_neq Z Z Z<|ON Z Z Z<|MV Z Z<|?_
     refine rw_caseN (j:=232) Z (fun h44=>?_) (fun h44=>?_)
     ·refine ON Z Z Z<|FA Z tyF_impl_Sender_5 Z<|ON Z Z Z<|LD (i:=0) Z tyP_int Z Z Z<|ON Z Z Z<|FA Z tyF_impl_Sender_1 Z<|ON Z Z Z<|FA Z tyF_impl_Ring_2 Z<|ON Z Z Z<|LD (i:=0) Z tyP_int Z Z Z<|ON Z Z Z<|rw_neq Z Z Z<|ON Z Z Z<|PT Z Z Z Z<|PF Z Z Z Z<|ND<|?_
      refine gw_condN Z (fun h45=>?_) (fun h45=>?_)
      ·refine SQ<|RG<|AS Z Z<|ND<|RT Tryz.func79 Z Z<|?_
       simp only [take_all hn24] at *
       have hF : (x.flight.all fun r=>!decide (x.sent < r.high)) = true:=by rw [hJ1,hn42]; rfl
       have hC : (x.acked.all fun r=>!decide (x.sent < r.high)) = true:=by rw [hJ2,hn47]; rfl
       simp [isSenderS,senderBase,senderReset,sAll,h1,h2,h3,h4,h5,h6,h7,h8,h15,h24,h25,h26,h37,h38,hse48,h44,h45,hF,hC]
      refine SK<|SQ<|gw_draw' [dd 0,dd 1,dd 2,dd 3] [4,5] mixed Z (FD Z) (ts:=[_,_]) Z<|DT Z Z (fun _ q=>FA Z tyF_impl_Sender_0 Z q)<|DT Z Z (fun _ q=>LD (i:=0) Z tyP_int Z Z Z q)<|DT Z Z (fun _ q=>LS (i:=0) [_,_,_,_,_,_,_,_,_,_,_,_] Z tyS_impl_Sender Z Z Z Z q)<|DT Z Z (fun _ q=>CV1 Z fun_spec_l9State Z (fun w hs=>spec_l9State (rdSender_mk (hA0.s Pl.keeps hs) (hA1.s Pl.keeps hs) (hA2.s Pl.keeps hs) (hA3.s Pl.keeps hs))) q)<|dw_nil<|?_
      refine EQ1 Z Z Z<|AS Z Z<|ND<|RT Tryz.func79 Z Z<|?_
      simp only [take_all hn24] at *
      have hF : (x.flight.all fun r=>!decide (x.sent < r.high)) = true:=by rw [hJ1,hn42]; rfl
      have hC : (x.acked.all fun r=>!decide (x.sent < r.high)) = true:=by rw [hJ2,hn47]; rfl
      simp [isSenderS,senderBase,senderReset,sAll,h1,h2,h3,h4,h5,h6,h7,h8,h15,h24,h25,h26,h37,h38,hse48,h44,h45,hF,hC]
     refine SKP Z<|ON Z Z Z<|PF Z Z Z Z<|PF Z Z Z Z<|ND<|CF Z Z<|SK<|SQ<|gw_draw' [dd 0,dd 1,dd 2,dd 3] [4,5] mixed Z (FD Z) (ts:=[_,_]) Z<|DT Z Z (fun _ q=>FA Z tyF_impl_Sender_0 Z q)<|DT Z Z (fun _ q=>LD (i:=0) Z tyP_int Z Z Z q)<|DT Z Z (fun _ q=>LS (i:=0) [_,_,_,_,_,_,_,_,_,_,_,_] Z tyS_impl_Sender Z Z Z Z q)<|DT Z Z (fun _ q=>CV1 Z fun_spec_l9State Z (fun w hs=>spec_l9State (rdSender_mk (hA0.s Pl.keeps hs) (hA1.s Pl.keeps hs) (hA2.s Pl.keeps hs) (hA3.s Pl.keeps hs))) q)<|?_
     refine dw_nil<|EQ1 Z Z Z<|AS Z Z<|ND<|RT Tryz.func79 Z Z<|?_
     simp only [take_all hn24] at *
     have hF : (x.flight.all fun r=>!decide (x.sent < r.high)) = true:=by rw [hJ1,hn42]; rfl
     have hC : (x.acked.all fun r=>!decide (x.sent < r.high)) = true:=by rw [hJ2,hn47]; rfl
     simp [isSenderS,senderBase,senderReset,sAll,h1,h2,h3,h4,h5,h6,h7,h8,h15,h24,h25,h26,h37,h38,hse48,h44,hF,hC]
end Go.Proofs.YtbhnekiclbfmgaaGreat
