/- Walks: draws. -/
import Derived.Test.YtbhnekiclbfmgaaGreatWXa
import Derived.Test.YtbhnekiclbfmgaaGreatWXd
import Derived.Test.YtbhnekiclbfmgaaGreatWXs
import Derived.Test.YtbhnekiclbfmgaaGreatWXv
import Derived.Test.YtbhnekiclbfmgaaGreatWXA
import Derived.Test.YtbhnekiclbfmgaaGreatWXF
import Derived.Test.YtbhnekiclbfmgaaGreatWXJ
import Derived.Test.YtbhnekiclbfmgaaGreatFactsX
import Derived.Test.YtbhnekiclbfmgaaGreatPk
import Derived.Test.YtbhnekiclbfmgaaGreatTab
namespace Go.Proofs.YtbhnekiclbfmgaaGreat
open SL Go.RowKit
set_option maxHeartbeats 2000000 in
set_option maxRecDepth 20000 in
theorem impl_PeekRing {w : World} {cs : List Value} {x : Ring} (hv : RdRing w cs x) (hb : x.le 1048576) (o m : Int) : CV Tryz.prog 129 [.agg cs.toArray, .int .i64 o, .int .i64 m] w (.tuple #[.string (mkS (peekI x o m)), .bool (peekOk x o m)]) := by
 obtain ⟨v0,rfl,k0⟩:=hv
 obtain ⟨A0,c0,rfl,hA0⟩:=k0
 have hb0 : x.cells.length ≤ 1048576:=hb
 refine cv_of Tryz.func129 Z Z Z<|SQ<|RG<|BX [_,_,_,_] Z Z Z<|fun b1=>AS Z Z<|AS Z Z<|ND<|SQ<|SQ<|RG<|LS (i:=0) [_,_,_,_] Z tyS_impl_Ring Z Z Z Z<|CV1 Z fun_impl_IsRing Z (fun w hs=>impl_IsRing ⟨_,Z,(hA0.s Pl.keeps hs)⟩ (show _ ≤ _ from hb0))<|NT Z Z<|MV Z Z<|?_
 refine rw_caseN (j:=13) Z (fun h1=>?_) (fun h1=>?_)
 ·refine SKP Z<|PT Z Z Z Z<|MV Z Z<|SKP Z<|PT Z Z Z Z<|MV Z Z<|SKP Z<|PT Z Z Z Z<|ND<|CT Z Z<|SQ<|RG<|AS Z Z<|AS Z Z<|ND<|ret_cv Tryz.func129 (res2 Tryz.func129 Z (rv_tmp Z) (rv_tmp Z))<|?_
  have hk_ : peekOk x o m = false:=by simp [peekOk,h1]
  rw [peekI,hk_]; rfl
 refine ON Z Z Z<|MV Z Z<|ON Z Z Z<|rw_lss Z Z Z<|PF Z Z Z Z<|MV Z Z<|?_
 refine rw_caseL (j:=17) Z (fun h2=>?_) (fun h2=>?_)
 ·refine SKP Z<|PT Z Z Z Z<|MV Z Z<|SKP Z<|PT Z Z Z Z<|ND<|CT Z Z<|SQ<|RG<|AS Z Z<|AS Z Z<|ND<|ret_cv Tryz.func129 (res2 Tryz.func129 Z (rv_tmp Z) (rv_tmp Z))<|?_
  have hk_ : peekOk x o m = false:=by simp [peekOk,h1,h2]
  rw [peekI,hk_]; rfl
 refine ON Z Z Z<|MV Z Z<|ON Z Z Z<|FA Z tyF_impl_Ring_1 Z<|ON Z Z Z<|LD (i:=0) Z tyP_int Z Z Z<|ON Z Z Z<|FA Z tyF_impl_Ring_2 Z<|ON Z Z Z<|LD (i:=0) Z tyP_int Z Z Z<|ON Z Z Z<|CV1 Z fun_impl_within Z (fun w hs=>impl_within _ _ _ w)<|ON Z Z Z<|NT Z Z<|PF Z Z Z Z<|MV Z Z<|?_
 refine rw_caseN (j:=26) Z (fun h3=>?_) (fun h3=>?_)
 ·refine SKP Z<|PT Z Z Z Z<|ND<|CT Z Z<|SQ<|RG<|AS Z Z<|AS Z Z<|ND<|ret_cv Tryz.func129 (res2 Tryz.func129 Z (rv_tmp Z) (rv_tmp Z))<|?_
  have hk_ : peekOk x o m = false:=by simp [peekOk,h1,h2,h3]
  rw [peekI,hk_]; rfl
 refine ON Z Z Z<|MV Z Z<|ON Z Z Z<|FA Z tyF_impl_Ring_2 Z<|ON Z Z Z<|LD (i:=0) Z tyP_int Z Z Z<|ON Z Z Z<|MV Z Z<|ON Z Z Z<|rw_sub Z Z Z<|ON Z Z Z<|rw_gtr Z Z Z<|PF Z Z Z Z<|ND<|?_
 refine gw_cond Z (fun h4=>?_) (fun h4=>?_)
 ·refine SQ<|RG<|AS Z Z<|AS Z Z<|ND<|ret_cv Tryz.func129 (res2 Tryz.func129 Z (rv_tmp Z) (rv_tmp Z))<|?_
  have hk_ : peekOk x o m = false:=by simp [peekOk,h1,h2,h3,h4]
  rw [peekI,hk_]; rfl
 refine SK<|SQ<|RG<|rw_slice0 Z tyM_S_uint8 (PlO byC)<|fun v1 how1=>AS Z Z<|ND<|SQ<|SQ<|RG<|MV Z Z<|MV Z Z<|ND<|BK<|?_
 have hring_:=h1
 have hpk_:=peekI_ok hring_ h2 h3 h4
 refine gw_loopX (α:=Nat × Value × List Ck) (fun z_=>(z_.1 : Int) ≤ m ∧ OwA 5 1 (PlO byC) z_.2.1 (peekBytes x o z_.1) z_.2.2) (fun z_=>m.toNat - z_.1) (fun e z_=>(36,.int .i64 (z_.1 : Int)) :: (8,z_.2.1) :: e) (fun B _=>B) (fun F z_=>z_.2.2 ++ ([])) (0,v1,[]) [(1,_),(3,_),(6,_),(7,_),(35,_)] (Sub.consE Z Z (Sub.consE Z Z (Sub.cons (i:=1) Z (Sub.cons (i:=3) Z (Sub.cons (i:=6) Z (Sub.cons (i:=7) Z (Sub.cons (i:=35) Z (Sub.nil _)))))))) Z Z ?_ ?_
 ·exact ⟨hpk_.2.1,how1⟩
 ·rintro ⟨i,v,ch⟩ hI2 ih2
  dsimp only at hI2
  dsimp only
  obtain ⟨hle,hO⟩:=hI2
  refine SQ<|RG<|rw_lss Z Z Z<|ND<|SQ<|?_
  refine gw_cond Z (fun h5=>?_) (fun h5=>?_)
  ·obtain ⟨k3,hk3,hkl3⟩:=peek_at hring_ hpk_ h5
   refine SK<|SQ<|BK<|SQ<|RG<|MV Z Z<|AS Z Z<|ND<|gw_draw' [dd 0,dd 1,dd 2,dd 3,dd 4,dd 5,dd 6,dd 7,dd 8,dd 9,dd 10,dd 11,(12,.add)] [13,14] mixed Z (FD Z) (ts:=[_,_]) Z<|DM Z Z Z<|DT Z Z (fun _ q=>FA Z tyF_impl_Ring_3 Z q)<|DT Z Z (fun _ q=>LD (i:=0) Z tyP_S_int Z Z Z q)<|DM Z Z Z<|DM Z Z Z<|?_
   refine DT Z Z (fun _ q=>rw_add Z Z Z q)<|DT Z Z (fun _ q=>FA Z tyF_impl_Ring_0 Z q)<|DT Z Z (fun _ q=>LD (i:=0) Z tyP_int Z Z Z q)<|DT Z Z (fun _ q=>rw_rem Z Z Z (ring_nz hring_) q)<|?_
   obtain ⟨x4,hx4⟩:=get_of_lt hkl3
   have hd4:=drop_cons hx4
   have hq5:=hA0.plain hx4
   refine DT Z Z (fun _ q=>rw_indexAddr (k3) Z tyE_S_int Z Z hk3 (hA0.some hkl3) hkl3 q)<|DT Z Z (fun _ q=>rw_loadX _ Z tyP_int Z (fun w hs=>hq5.ld0 hs Z) q)<|DT Z Z (fun _ q=>rw_convIe ((u8of x4).toNat : Int) Z tyCI_int_uint8 Z (u8of_val x4) q)<|DA Z Z (fun _ q=>rw_slice1F (xs:=[(0,_)]) [_] Z tyM_S_uint8 Z Z Z q)<|fun v6 ch6 how6=>?_
   obtain ⟨bl6,rfl,hch6⟩:=how6
   refine dw_nil<|?_
   have hpm8 : (ch6 ++ (ch ++ ([]))).Perm (ch ++ ([] ++ (ch6 ++ ([])))):=by
    refine List.Perm.trans ((pg (pp PR) PR) : (ch6 ++ (ch ++ ([]))).Perm (ch ++ (ch6 ++ ([])))) (List.Perm.of_eq ?_)
    simp only [List.nil_append]
   refine rw_append1F (a:=(u8of x4)) (ch2:=[]) (F2:=ch6 ++ ([])) Z tyM_S_uint8 eByt Z Z (mem_ch hch6 (fun c hc=>ML hc)) hO ⟨Z,Z⟩ hpm8 (by rw [peekBytes_len]; have:=hpk_.2.2.1; omega)<|fun v7 ch7 how7=>AS Z Z<|ND<|IB<|RG<|rw_add Z Z Z<|MV Z Z<|ND<|?_
   refine gw_dropF (F':=ch7 ++ ([])) (List.Sublist.append_left (List.nil_sublist _) _)<|?_
   refine gw_sub (Sub.consE (i:=36) Z (int_succ (by omega)) (Sub.consE (i:=8) Z Z (Sub.cons (i:=1) Z (Sub.cons (i:=3) Z (Sub.cons (i:=6) Z (Sub.cons (i:=7) Z (Sub.cons (i:=35) Z (Sub.nil _)))))))) (ih2 (i + 1,v7,ch7) ?_ ?_)
   ·exact ⟨by have:=of_decide_eq_true h5; omega,by rw [peek_snoc hk3 hx4]; exact how7⟩
   ·show m.toNat - (i + 1) < m.toNat - i; have:=of_decide_eq_true h5; omega
  refine EX Z<|SQ<|RG<|MV Z Z<|?_
  obtain ⟨Rb9,rcb9,rfl,hRb9,hrdb9⟩:=(OwA.s (l:=(peekBytes x o i)) hO).shape eByt
  refine rw_convO (l:=(peekBytes x o i)) Z tyCB_S_uint8_string Z Z hrdb9 (fun c hc=>ML hc)<|AS Z Z<|AS Z Z<|ND<|ret_cv Tryz.func129 (res2 Tryz.func129 Z (rv_tmp Z) (rv_tmp Z))<|?_
  have hi_ : i = m.toNat:=by have:=of_decide_eq_false h5; omega
  have hk_ : peekOk x o m = true:=by simp [peekOk,h1,h2,h3,h4]
  rw [peekI,hk_,hi_]; rfl
end Go.Proofs.YtbhnekiclbfmgaaGreat
namespace Go.Proofs.YtbhnekiclbfmgaaGreat
open SL Go.RowKit
theorem impl_isActive {w : World} {cs : List Value} {x : Sender} (hv : RdSender w cs x) (hb : x.le 1048576) : CV Tryz.prog 128 [.agg cs.toArray] w (.bool (isActive x)) := by
 obtain ⟨v0,v1,v2,v3,rfl,k0,k1,k2,k3⟩:=hv
 obtain ⟨A0,c0,rfl,hA0⟩:=k0
 obtain ⟨A1,c1,rfl,hA1⟩:=k1
 obtain ⟨A2,c2,rfl,hA2⟩:=k2
 obtain ⟨A3,c3,rfl,hA3⟩:=k3
 obtain ⟨hb0,hb1,hb2,hb3⟩:=hb
 refine cv_of Tryz.func128 Z Z Z<|SQ<|RG<|BX [_,_,_,_,_,_,_,_,_,_,_,_] Z Z Z<|fun b1=>AS Z Z<|ND<|SQ<|RG<|LS (i:=0) [_,_,_,_,_,_,_,_,_,_,_,_] Z tyS_impl_Sender Z Z Z Z<|CV1 Z fun_impl_IsSender Z (fun w hs=>impl_IsSender ⟨_,_,_,_,Z,(hA0.s Pl.keeps hs),(hA1.s Pl.keeps hs),(hA2.s Pl.keeps hs),(hA3.s Pl.keeps hs)⟩ ⟨hb0,hb1,hb2,hb3⟩)<|MV Z Z<|?_
 refine rw_caseL (j:=5) Z (fun h1=>?_) (fun h1=>?_)
 ·refine ON Z Z Z<|FA Z tyF_impl_Sender_0 Z<|ON Z Z Z<|LD (i:=0) Z tyP_int Z Z Z<|ON Z Z Z<|CV1 Z fun_impl_within Z (fun w hs=>impl_within _ _ _ w)<|PT Z Z Z Z<|AS Z Z<|ND<|RT Tryz.func128 Z Z<|?_
  simp [isActive,h1]
 refine SKP Z<|PF Z Z Z Z<|AS Z Z<|ND<|RT Tryz.func128 Z Z<|?_
 simp [isActive,h1]
theorem impl_one (b : Bool) (w : World) : CV Tryz.prog 105 [.bool b] w (.int .i64 (one b)) := by
 refine cv_of Tryz.func105 Z Z Z<|SQ<|RG<|AS Z Z<|ND<|SQ<|SQ<|RG<|MV Z Z<|ND<|?_
 refine gw_cond Z (fun h1=>?_) (fun h1=>?_)
 ·refine SQ<|RG<|AS Z Z<|ND<|RT Tryz.func105 Z Z<|?_
  simp only [one,h1] <;> rfl
 refine SK<|SQ<|RG<|AS Z Z<|ND<|RT Tryz.func105 Z Z<|?_
 simp only [one,h1] <;> rfl
set_option maxHeartbeats 4000000 in
set_option maxRecDepth 20000 in
theorem impl_NextPiece {w : World} {cs : List Value} {x : Sender} (hv : RdSender w cs x) (hb : x.le 1048576) (m lim : Int) : CV Tryz.prog 76 [.agg cs.toArray, .int .i64 m, .int .i64 lim] w (.tuple #[.agg (nextI x m lim).1.cells.toArray, .bool (nextI x m lim).2]) := by
 obtain ⟨v0,v1,v2,v3,rfl,k0,k1,k2,k3⟩:=hv
 obtain ⟨A0,c0,rfl,hA0⟩:=k0
 obtain ⟨A1,c1,rfl,hA1⟩:=k1
 obtain ⟨A2,c2,rfl,hA2⟩:=k2
 obtain ⟨A3,c3,rfl,hA3⟩:=k3
 obtain ⟨hb0,hb1,hb2,hb3⟩:=hb
 refine cv_of Tryz.func76 Z Z Z<|SQ<|RG<|BX [_,_,_,_,_,_,_,_,_,_,_,_] Z Z Z<|fun b1=>AL Z tyZ_impl_Piece<|fun b2=>AS Z Z<|ND<|SQ<|SQ<|RG<|LS (i:=1) [_,_,_,_,_,_,_,_,_,_,_,_] Z tyS_impl_Sender Z Z Z Z<|CV1 Z fun_impl_isActive Z (fun w hs=>impl_isActive ⟨_,_,_,_,Z,(hA0.s Pl.keeps hs),(hA1.s Pl.keeps hs),(hA2.s Pl.keeps hs),(hA3.s Pl.keeps hs)⟩ ⟨hb0,hb1,hb2,hb3⟩)<|NT Z Z<|ND<|?_
 refine gw_condN Z (fun h1=>?_) (fun h1=>?_)
 ·refine SQ<|RG<|rw_build [_,_,_] Z tyB_impl_Piece tyZ_impl_Piece Z Z<|ST (i:=0) [_,_,_] [_,_,_] tyS_impl_Piece.sz Z Z Z Z Z Z Z Z<|AS Z Z<|ND<|ret_cv Tryz.func76 (res2 Tryz.func76 Z (rv_s (i:=0) [_,_,_] tyS_impl_Piece Z Z Z Z) (rv_tmp Z))<|?_
  rw [nextI_not h1]; rfl
 refine SK<|SQ<|SQ<|RG<|FA Z tyF_impl_Sender_2 Z<|LD (i:=1) Z tyP_S_impl_Range Z Z Z<|rw_len Z tyE_S_impl_Range Z<|EQ1 Z Z Z<|ND<|?_
 refine gw_cond Z (fun h2=>?_) (fun h2=>?_)
 ·have hz1:=nil_of_eq h2
  refine SQ<|gw_giveB (B':=[_]) 0 Z Z<|gw_draw' [dd 0,dd 1,dd 2,dd 3,dd 4,dd 5,dd 6,dd 7,dd 8,dd 9,dd 10,dd 11,(12,.detB),(13,.detB),(14,.detB),(15,.sto)] [16] mixed Z (FD Z) (ts:=[_]) Z<|DT Z Z (fun _ q=>FA Z tyF_impl_Sender_5 Z q)<|DT Z Z (fun _ q=>LD (i:=0) Z tyP_int Z Z Z q)<|DT Z Z (fun _ q=>rw_max Z Z Z q)<|DT Z Z (fun _ q=>FA Z tyF_impl_Sender_6 Z q)<|DT Z Z (fun _ q=>LD (i:=0) Z tyP_int Z Z Z q)<|?_
  refine DT Z Z (fun _ q=>EQ1 Z Z Z q)<|DT Z Z (fun _ q=>CV1 Z fun_impl_one Z (fun w hs=>impl_one _ w) q)<|DT Z Z (fun _ q=>rw_mul Z Z Z q)<|DT Z Z (fun _ q=>FA Z tyF_impl_Sender_6 Z q)<|DT Z Z (fun _ q=>LD (i:=0) Z tyP_int Z Z Z q)<|DT Z Z (fun _ q=>EQ1 Z Z Z q)<|DT Z Z (fun _ q=>rw_build [_,_,_] Z tyB_impl_Piece tyZ_impl_Piece Z Z q)<|dw_detB Z Z (fun _ q=>FA Z tyF_impl_Sender_6 Z q)<|?_
  refine dw_detB Z Z (fun _ q=>LD (i:=0) Z tyP_int Z Z Z q)<|dw_detB Z Z (fun _ q=>EQ1 Z Z Z q)<|dw_sto Z Z (fun _ q=>rw_storeF [_,_,_] [_,_,_] tyS_impl_Piece.sz Z Z Z Z Z Z Z q)<|dw_nil<|rw_take<|AS Z Z<|ND<|ret_cv Tryz.func76 (res2 Tryz.func76 Z (rv_s (i:=0) [_,_,_] tyS_impl_Piece Z Z Z Z) (rv_tmp Z))<|?_
  rw [nextI_nil h1 hz1]; rfl
 have hpos2:=pos_of_ne h2
 refine SK<|SQ<|RG<|FA Z tyF_impl_Sender_2 Z<|LD (i:=1) Z tyP_S_impl_Range Z Z Z<|?_
 have hi3 : 0 < x.pending.length:=by omega
 obtain ⟨x4,hx4⟩:=get_of_lt hi3
 have hd4:=drop_cons hx4
 have hq5:=hA1.plain hx4
 refine rw_indexAddr (0) Z tyE_S_impl_Range Z Z Z (hA1.some hi3) hi3<|rw_loadX_s [_,_] Z tyS_impl_Range Z Z (fun w hs=>hq5.lds0 (n:=2) hs Z)<|AL Z tyZ_impl_Range<|fun b3=>ST (i:=0) [_,_] [_,_] tyS_impl_Range.sz Z Z Z Z Z Z Z Z<|ND<|SQ<|RG<|FA Z tyF_impl_Range_1 Z<|LD (i:=0) Z tyP_int Z Z Z<|FA Z tyF_impl_Range_0 Z<|LD (i:=0) Z tyP_int Z Z Z<|rw_sub Z Z Z<|MV Z Z<|rw_min Z Z Z<|AS Z Z<|?_
 refine ND<|SQ<|SQ<|RG<|MV Z Z<|FA Z tyF_impl_Range_0 Z<|LD (i:=0) Z tyP_int Z Z Z<|rw_leq Z Z Z<|ND<|?_
 refine gw_cond Z (fun h3=>?_) (fun h3=>?_)
 ·refine SQ<|RG<|rw_build [_,_,_] Z tyB_impl_Piece tyZ_impl_Piece Z Z<|ST (i:=1) [_,_,_] [_,_,_] tyS_impl_Piece.sz Z Z Z Z Z Z Z Z<|AS Z Z<|ND<|ret_cv Tryz.func76 (res2 Tryz.func76 Z (rv_s (i:=1) [_,_,_] tyS_impl_Piece Z Z Z Z) (rv_tmp Z))<|?_
  rw [nextI_cons h1 hx4]; simp [nextN,Piece.cells,h3]
 refine SK<|SQ<|SQ<|RG<|MV Z Z<|FA Z tyF_impl_Range_0 Z<|LD (i:=0) Z tyP_int Z Z Z<|MV Z Z<|rw_add Z Z Z<|rw_lss Z Z Z<|ND<|?_
 refine gw_cond Z (fun h4=>?_) (fun h4=>?_)
 ·refine RG<|MV Z Z<|FA Z tyF_impl_Range_0 Z<|LD (i:=0) Z tyP_int Z Z Z<|rw_sub Z Z Z<|AS Z Z<|ND<|SQ<|SQ<|RG<|MV Z Z<|rw_leq Z Z Z<|ND<|?_
  refine gw_cond Z (fun h5=>?_) (fun h5=>?_)
  ·refine SQ<|RG<|rw_build [_,_,_] Z tyB_impl_Piece tyZ_impl_Piece Z Z<|ST (i:=1) [_,_,_] [_,_,_] tyS_impl_Piece.sz Z Z Z Z Z Z Z Z<|AS Z Z<|ND<|ret_cv Tryz.func76 (res2 Tryz.func76 Z (rv_s (i:=1) [_,_,_] tyS_impl_Piece Z Z Z Z) (rv_tmp Z))<|?_
   rw [nextI_cons h1 hx4]; simp [nextN,Piece.cells,h3,h4,h5]
  refine SK<|SQ<|RG<|FA Z tyF_impl_Sender_1 Z<|LS (i:=2) [_,_,_,_] Z tyS_impl_Ring Z Z Z Z<|FA Z tyF_impl_Range_0 Z<|LD (i:=0) Z tyP_int Z Z Z<|MV Z Z<|CV1 Z fun_impl_PeekRing Z (fun w hs=>impl_PeekRing ⟨_,Z,(hA0.s Pl.keeps hs)⟩ hb0 _ _)<|MV Z Z<|XT Z Z Z<|XT Z Z Z<|AS Z Z<|AS Z Z<|ND<|SQ<|RG<|FA Z tyF_impl_Range_0 Z<|LD (i:=0) Z tyP_int Z Z Z<|?_
  refine MV Z Z<|FA Z tyF_impl_Sender_6 Z<|LD (i:=2) Z tyP_int Z Z Z<|EQ1 Z Z Z<|MV Z Z<|?_
  refine rw_caseL (j:=79) Z (fun h6=>?_) (fun h6=>?_)
  ·refine ON Z Z Z<|FA Z tyF_impl_Range_0 Z<|ON Z Z Z<|LD (i:=0) Z tyP_int Z Z Z<|ON Z Z Z<|MV Z Z<|ON Z Z Z<|rw_add Z Z Z<|ON Z Z Z<|FA Z tyF_impl_Sender_5 Z<|ON Z Z Z<|LD (i:=2) Z tyP_int Z Z Z<|ON Z Z Z<|EQ1 Z Z Z<|PT Z Z Z Z<|rw_build [_,_,_] Z tyB_impl_Piece tyZ_impl_Piece Z Z<|ST (i:=1) [_,_,_] [_,_,_] tyS_impl_Piece.sz Z Z Z Z Z Z Z Z<|?_
   refine AS Z Z<|ND<|ret_cv Tryz.func76 (res2 Tryz.func76 Z (rv_s (i:=1) [_,_,_] tyS_impl_Piece Z Z Z Z) (rv_tmp Z))<|?_
   rw [nextI_cons h1 hx4]; simp [nextN,Piece.cells,h3,h4,h5,h6]
  refine SKP Z<|PF Z Z Z Z<|rw_build [_,_,_] Z tyB_impl_Piece tyZ_impl_Piece Z Z<|ST (i:=1) [_,_,_] [_,_,_] tyS_impl_Piece.sz Z Z Z Z Z Z Z Z<|AS Z Z<|ND<|ret_cv Tryz.func76 (res2 Tryz.func76 Z (rv_s (i:=1) [_,_,_] tyS_impl_Piece Z Z Z Z) (rv_tmp Z))<|?_
  rw [nextI_cons h1 hx4]; simp [nextN,Piece.cells,h3,h4,h5,h6]
 refine SK<|SQ<|SQ<|RG<|MV Z Z<|rw_leq Z Z Z<|ND<|?_
 refine gw_cond Z (fun h7=>?_) (fun h7=>?_)
 ·refine SQ<|RG<|rw_build [_,_,_] Z tyB_impl_Piece tyZ_impl_Piece Z Z<|ST (i:=1) [_,_,_] [_,_,_] tyS_impl_Piece.sz Z Z Z Z Z Z Z Z<|AS Z Z<|ND<|ret_cv Tryz.func76 (res2 Tryz.func76 Z (rv_s (i:=1) [_,_,_] tyS_impl_Piece Z Z Z Z) (rv_tmp Z))<|?_
  rw [nextI_cons h1 hx4]; simp [nextN,Piece.cells,h3,h4,h7]
 refine SK<|SQ<|RG<|FA Z tyF_impl_Sender_1 Z<|LS (i:=2) [_,_,_,_] Z tyS_impl_Ring Z Z Z Z<|FA Z tyF_impl_Range_0 Z<|LD (i:=0) Z tyP_int Z Z Z<|MV Z Z<|CV1 Z fun_impl_PeekRing Z (fun w hs=>impl_PeekRing ⟨_,Z,(hA0.s Pl.keeps hs)⟩ hb0 _ _)<|MV Z Z<|XT Z Z Z<|XT Z Z Z<|AS Z Z<|AS Z Z<|ND<|SQ<|RG<|FA Z tyF_impl_Range_0 Z<|LD (i:=0) Z tyP_int Z Z Z<|?_
 refine MV Z Z<|FA Z tyF_impl_Sender_6 Z<|LD (i:=2) Z tyP_int Z Z Z<|EQ1 Z Z Z<|MV Z Z<|?_
 refine rw_caseL (j:=79) Z (fun h8=>?_) (fun h8=>?_)
 ·refine ON Z Z Z<|FA Z tyF_impl_Range_0 Z<|ON Z Z Z<|LD (i:=0) Z tyP_int Z Z Z<|ON Z Z Z<|MV Z Z<|ON Z Z Z<|rw_add Z Z Z<|ON Z Z Z<|FA Z tyF_impl_Sender_5 Z<|ON Z Z Z<|LD (i:=2) Z tyP_int Z Z Z<|ON Z Z Z<|EQ1 Z Z Z<|PT Z Z Z Z<|rw_build [_,_,_] Z tyB_impl_Piece tyZ_impl_Piece Z Z<|ST (i:=1) [_,_,_] [_,_,_] tyS_impl_Piece.sz Z Z Z Z Z Z Z Z<|?_
  refine AS Z Z<|ND<|ret_cv Tryz.func76 (res2 Tryz.func76 Z (rv_s (i:=1) [_,_,_] tyS_impl_Piece Z Z Z Z) (rv_tmp Z))<|?_
  rw [nextI_cons h1 hx4]; simp [nextN,Piece.cells,h3,h4,h7,h8]
 refine SKP Z<|PF Z Z Z Z<|rw_build [_,_,_] Z tyB_impl_Piece tyZ_impl_Piece Z Z<|ST (i:=1) [_,_,_] [_,_,_] tyS_impl_Piece.sz Z Z Z Z Z Z Z Z<|AS Z Z<|ND<|ret_cv Tryz.func76 (res2 Tryz.func76 Z (rv_s (i:=1) [_,_,_] tyS_impl_Piece Z Z Z Z) (rv_tmp Z))<|?_
 rw [nextI_cons h1 hx4]; simp [nextN,Piece.cells,h3,h4,h7,h8]
set_option maxHeartbeats 4000000 in
set_option maxRecDepth 20000 in
theorem impl_WantsToSend {w : World} {cs : List Value} {x : Stream} (hv : RdStream w cs x) (hb : x.le 1048576) : CV Tryz.prog 12 [.agg cs.toArray] w (.bool (isStream x && x.canSend && (nextI x.send 1 x.credit.limit).2)) := by
 obtain ⟨v0,v1,v2,v3,v4,rfl,k0,k1,k2,k3,k4⟩:=hv
 obtain ⟨A0,c0,rfl,hA0⟩:=k0
 obtain ⟨A1,c1,rfl,hA1⟩:=k1
 obtain ⟨A2,c2,rfl,hA2⟩:=k2
 obtain ⟨A3,c3,rfl,hA3⟩:=k3
 obtain ⟨A4,c4,rfl,hA4⟩:=k4
 obtain ⟨hb0,hb1,hb2,hb3,hb4,hb5⟩:=hb
 refine cv_of Tryz.func12 Z Z Z<|SQ<|RG<|BX [_,_,_,_,_,_,_,_,_,_,_,_,_,_,_,_,_,_,_,_,_,_,_,_,_,_,_,_,_,_,_,_,_,_,_,_,_,_,_] Z Z Z<|fun b1=>AS Z Z<|ND<|SQ<|SQ<|RG<|LS (i:=0) [_,_,_,_,_,_,_,_,_,_,_,_,_,_,_,_,_,_,_,_,_,_,_,_,_,_,_,_,_,_,_,_,_,_,_,_,_,_,_] Z tyS_impl_Stream Z Z Z Z<|CV1 Z fun_impl_IsStream Z (fun w hs=>impl_IsStream ⟨_,_,_,_,_,Z,(hA0.s Pl.keeps hs),(hA1.s Pl.keeps hs),(hA2.s Pl.keeps hs),(hA3.s Pl.keeps hs),(hA4.s Pl.keeps hs)⟩ ⟨hb0,hb1,hb2,hb3,hb4,hb5⟩)<|?_
 refine NT Z Z<|MV Z Z<|?_
 refine rw_caseN (j:=8) Z (fun h1=>?_) (fun h1=>?_)
 ·refine SKP Z<|PT Z Z Z Z<|ND<|CT Z Z<|SQ<|RG<|AS Z Z<|ND<|RT Tryz.func12 Z Z<|?_
  simp [h1]
 refine ON Z Z Z<|FA Z tyF_impl_Stream_6 Z<|ON Z Z Z<|LD (i:=0) Z tyP_bool Z Z Z<|ON Z Z Z<|NT Z Z<|PF Z Z Z Z<|ND<|?_
 refine gw_condN Z (fun h2=>?_) (fun h2=>?_)
 ·refine SQ<|RG<|AS Z Z<|ND<|RT Tryz.func12 Z Z<|?_
  simp [h1,h2]
 refine SK<|SQ<|RG<|FA Z tyF_impl_Stream_1 Z<|LS (i:=0) [_,_,_,_,_,_,_,_,_,_,_,_] Z tyS_impl_Sender Z Z Z Z<|FA Z tyF_impl_Stream_2 Z<|FA Z tyF_impl_Credit_0 Z<|LD (i:=0) Z tyP_int Z Z Z<|CV1 Z fun_impl_NextPiece Z (fun w hs=>impl_NextPiece ⟨_,_,_,_,Z,(hA0.s Pl.keeps hs),(hA1.s Pl.keeps hs),(hA2.s Pl.keeps hs),(hA3.s Pl.keeps hs)⟩ ⟨hb0,hb1,hb2,hb3⟩ _ _)<|MV Z Z<|XT Z Z Z<|XT Z Z Z<|AL Z tyZ_impl_Piece<|fun b2=>?_
 refine ST (i:=0) [_,_,_] [_,_,_] tyS_impl_Piece.sz Z Z Z Z Z Z Z Z<|AS Z Z<|ND<|SQ<|RG<|MV Z Z<|AS Z Z<|ND<|RT Tryz.func12 Z Z<|?_
 simp [h1,h2]
set_option maxHeartbeats 4000000 in
set_option maxRecDepth 20000 in
theorem spec_WantsToSend {w : World} {cs : List Value} {x : Stream} (hv : RdStream w cs x) (hb : x.le 1048576) : CV Tryz.prog 21 [.agg cs.toArray] w (.bool (isStreamS x && x.canSend && nextOkS (isSenderS x.send) x.send 1 x.credit.limit)) := by
 obtain ⟨v0,v1,v2,v3,v4,rfl,k0,k1,k2,k3,k4⟩:=hv
 obtain ⟨A0,c0,rfl,hA0⟩:=k0
 obtain ⟨A1,c1,rfl,hA1⟩:=k1
 obtain ⟨A2,c2,rfl,hA2⟩:=k2
 obtain ⟨A3,c3,rfl,hA3⟩:=k3
 obtain ⟨A4,c4,rfl,hA4⟩:=k4
 obtain ⟨hb0,hb1,hb2,hb3,hb4,hb5⟩:=hb
 refine cv_of Tryz.func21 Z Z Z<|SQ<|RG<|BX [_,_,_,_,_,_,_,_,_,_,_,_,_,_,_,_,_,_,_,_,_,_,_,_,_,_,_,_,_,_,_,_,_,_,_,_,_,_,_] Z Z Z<|fun b1=>AS Z Z<|ND<|SQ<|SQ<|RG<|LS (i:=0) [_,_,_,_,_,_,_,_,_,_,_,_,_,_,_,_,_,_,_,_,_,_,_,_,_,_,_,_,_,_,_,_,_,_,_,_,_,_,_] Z tyS_impl_Stream Z Z Z Z<|CV1 Z fun_spec_IsStream Z (fun w hs=>spec_IsStream ⟨_,_,_,_,_,Z,(hA0.s Pl.keeps hs),(hA1.s Pl.keeps hs),(hA2.s Pl.keeps hs),(hA3.s Pl.keeps hs),(hA4.s Pl.keeps hs)⟩ ⟨hb0,hb1,hb2,hb3,hb4,hb5⟩)<|?_
 refine NT Z Z<|MV Z Z<|?_
 refine rw_caseN (j:=8) Z (fun h1=>?_) (fun h1=>?_)
 ·refine SKP Z<|PT Z Z Z Z<|ND<|CT Z Z<|SQ<|RG<|AS Z Z<|ND<|RT Tryz.func21 Z Z<|?_
  simp [h1]
 refine ON Z Z Z<|FA Z tyF_impl_Stream_6 Z<|ON Z Z Z<|LD (i:=0) Z tyP_bool Z Z Z<|ON Z Z Z<|NT Z Z<|PF Z Z Z Z<|ND<|?_
 refine gw_condN Z (fun h2=>?_) (fun h2=>?_)
 ·refine SQ<|RG<|AS Z Z<|ND<|RT Tryz.func21 Z Z<|?_
  simp [h1,h2]
 refine SK<|SQ<|RG<|FA Z tyF_impl_Stream_1 Z<|LS (i:=0) [_,_,_,_,_,_,_,_,_,_,_,_] Z tyS_impl_Sender Z Z Z Z<|FA Z tyF_impl_Stream_2 Z<|FA Z tyF_impl_Credit_0 Z<|LD (i:=0) Z tyP_int Z Z Z<|CN1 Z fun_spec_NextPiece Z (fun w hs=>spec_NextPiece ⟨_,_,_,_,Z,(hA0.s Pl.keeps hs),(hA1.s Pl.keeps hs),(hA2.s Pl.keeps hs),(hA3.s Pl.keeps hs)⟩ ⟨hb0,hb1,hb2,hb3⟩ _ _)<|fun v1 ch1 how1=>?_
 obtain ⟨p1,rfl,rfl⟩:=how1
 refine rw_F (F':=[]) (by simp only [aN])<|MV Z Z<|XT Z Z Z<|XT Z Z Z<|AL Z tyZ_impl_Piece<|fun b2=>ST (i:=0) [_,_,_] [_,_,_] tyS_impl_Piece.sz Z Z Z Z Z Z Z Z<|AS Z Z<|ND<|SQ<|RG<|MV Z Z<|AS Z Z<|ND<|RT Tryz.func21 Z Z<|?_
 simp [h1,h2]
end Go.Proofs.YtbhnekiclbfmgaaGreat
namespace Go.Proofs.YtbhnekiclbfmgaaGreat
open SL Go.RowKit
theorem impl_copyRing {w : World} {cs : List Value} {x : Ring} (hv : RdRing w cs x) (hb : x.le 1048576) : CN Tryz.prog 171 [.agg cs.toArray] w (OwV OwRing x) := by
 obtain ⟨v0,rfl,k0⟩:=hv
 obtain ⟨A0,c0,rfl,hA0⟩:=k0
 have hb0 : x.cells.length ≤ 1048576:=hb
 refine cn_of Tryz.func171 Z Z Z<|SQ<|RG<|BX [_,_,_,_] Z Z Z<|fun b1=>AL Z tyZ_impl_Ring<|fun b2=>ND<|SQ<|RG<|rw_slice0 Z tyM_S_int (PlO intC)<|fun v1 how1=>FA Z tyF_impl_Ring_3 Z<|LD (i:=1) Z tyP_S_int Z Z Z<|rw_appendP Z tyM_S_int eInt (fun _=>Z) Z Z how1 (fun w hs=>hA0.sat Pl.keeps hs) (.refl _) (by first | omega | (simp; omega))<|fun v2 ch2 how2=>?_
 obtain ⟨R3,rc3,rfl,hR3,hrd3⟩:=(OwA.s (l:=x.cells) how2).shape eInt
 refine FA Z tyF_impl_Ring_3 Z<|ST (i:=1) [_] [_,_,_,_] tyP_S_int.sz Z Z Z Z Z Z Z Z<|ND<|SQ<|RG<|LS (i:=1) [_,_,_,_] Z tyS_impl_Ring Z Z Z Z<|ST (i:=0) [_,_,_,_] [_,_,_,_] tyS_impl_Ring.sz Z Z Z Z Z Z Z Z<|ND<|?_
 refine ret_cnP (ch:=ch2) (G:=ch2 ++ ([])) (F':=[]) Tryz.func171 (res1 Tryz.func171 Z (rv_s (i:=0) [_,_,_,_] tyS_impl_Ring Z Z Z Z)) ?_ ?_ ?_
 ·exact ⟨_,rfl,_,_,rfl,(OwA.s (l:=x.cells) how2),rfl⟩
 ·exact (pg PR PR)
 ·simp only []
set_option maxHeartbeats 4000000 in
theorem impl_copySender {w : World} {cs : List Value} {x : Sender} (hv : RdSender w cs x) (hb : x.le 1048576) : CN Tryz.prog 146 [.agg cs.toArray] w (OwV OwSender x) := by
 obtain ⟨v0,v1,v2,v3,rfl,k0,k1,k2,k3⟩:=hv
 obtain ⟨A0,c0,rfl,hA0⟩:=k0
 obtain ⟨A1,c1,rfl,hA1⟩:=k1
 obtain ⟨A2,c2,rfl,hA2⟩:=k2
 obtain ⟨A3,c3,rfl,hA3⟩:=k3
 obtain ⟨hb0,hb1,hb2,hb3⟩:=hb
 refine cn_of Tryz.func146 Z Z Z<|SQ<|RG<|BX [_,_,_,_,_,_,_,_,_,_,_,_] Z Z Z<|fun b1=>AL Z tyZ_impl_Sender<|fun b2=>ND<|SQ<|RG<|FA Z tyF_impl_Sender_1 Z<|LS (i:=1) [_,_,_,_] Z tyS_impl_Ring Z Z Z Z<|CN1 Z fun_impl_copyRing Z (fun w hs=>impl_copyRing ⟨_,Z,(hA0.s Pl.keeps hs)⟩ (show _ ≤ _ from hb0))<|fun vv1 ch1 how1=>?_
 obtain ⟨cs1,rfl,v1_0,c1_0,rfl,h1_0,rfl⟩:=how1
 obtain ⟨R1_0,b1_0,rfl,hR1_0,hrd1_0⟩:=h1_0.shape eInt
 refine FA Z tyF_impl_Sender_1 Z<|rw_storeN (i:=1) [_,_,_,_] [_,_,_,_,_,_,_,_,_,_,_,_] [_,_] tyS_impl_Ring.sz Z Z Z Z Z Z Z Z Z<|ND<|SQ<|gw_draw' [dd 0,dd 1,dd 3,dd 4,dd 6,dd 7,(2,.add),dd 9,(5,.add),(8,.add)] [10,11,12,13,14] mixed Z (FD Z) (ts:=[_,_,_,_,_]) Z<|DT Z Z (fun _ q=>FA Z tyF_impl_Sender_2 Z q)<|DT Z Z (fun _ q=>LD (i:=1) Z tyP_S_impl_Range Z Z Z q)<|DT Z Z (fun _ q=>FA Z tyF_impl_Sender_3 Z q)<|?_
 refine DT Z Z (fun _ q=>LD (i:=1) Z tyP_S_impl_Range Z Z Z q)<|DT Z Z (fun _ q=>FA Z tyF_impl_Sender_4 Z q)<|DT Z Z (fun _ q=>LD (i:=1) Z tyP_S_impl_Range Z Z Z q)<|DA Z Z (fun _ q=>CN1 Z fun_impl_copyRanges Z (fun w hs=>impl_copyRanges (hA1.s Pl.keeps hs) (by omega)) q)<|fun v2 ch2 how2=>?_
 obtain ⟨R3,rc3,rfl,hR3,hrd3⟩:=(OwA.s (l:=x.pending) how2).shape eRange
 refine DT Z Z (fun _ q=>FA Z tyF_impl_Sender_2 Z q)<|DA Z Z (fun _ q=>CN1 Z fun_impl_copyRanges Z (fun w hs=>impl_copyRanges (hA2.s Pl.keeps hs) (by omega)) q)<|fun v4 ch4 how4=>?_
 obtain ⟨R5,rc5,rfl,hR5,hrd5⟩:=(OwA.s (l:=x.flight) how4).shape eRange
 refine DA Z Z (fun _ q=>CN1 Z fun_impl_copyRanges Z (fun w hs=>impl_copyRanges (hA3.s Pl.keeps hs) (by omega)) q)<|fun v6 ch6 how6=>?_
 obtain ⟨R7,rc7,rfl,hR7,hrd7⟩:=(OwA.s (l:=x.acked) how6).shape eRange
 refine dw_nil<|rw_storeN (i:=1) [_] [_,_,_,_,_,_,_,_,_,_,_,_] [_,_] tyP_S_impl_Range.sz Z Z Z Z Z Z Z Z Z<|FA Z tyF_impl_Sender_3 Z<|rw_storeN (i:=1) [_] [_,_,_,_,_,_,_,_,_,_,_,_] [_,_] tyP_S_impl_Range.sz Z Z Z Z Z Z Z Z Z<|FA Z tyF_impl_Sender_4 Z<|rw_storeN (i:=1) [_] [_,_,_,_,_,_,_,_,_,_,_,_] [_,_] tyP_S_impl_Range.sz Z Z Z Z Z Z Z Z Z<|ND<|SQ<|RG<|LS (i:=1) [_,_,_,_,_,_,_,_,_,_,_,_] Z tyS_impl_Sender Z Z Z Z<|?_
 refine rw_storeN (i:=0) [_,_,_,_,_,_,_,_,_,_,_,_] [_,_,_,_,_,_,_,_,_,_,_,_] [_,_] tyS_impl_Sender.sz Z Z Z Z Z Z Z Z Z<|ND<|?_
 refine ret_cnP (ch:=ch1 ++ (ch2 ++ (ch4 ++ (ch6)))) (G:=ch1 ++ (ch2 ++ (ch4 ++ (ch6 ++ ([]))))) (F':=[]) Tryz.func146 (res1 Tryz.func146 Z (rv_s (i:=0) [_,_,_,_,_,_,_,_,_,_,_,_] tyS_impl_Sender Z Z Z Z)) ?_ ?_ ?_
 ·exact ⟨_,rfl,_,_,_,_,_,_,_,_,rfl,h1_0,(OwA.s (l:=x.pending) how2),(OwA.s (l:=x.flight) how4),(OwA.s (l:=x.acked) how6),rfl⟩
 ·exact (pg (pp (pp (pp PR))) (pg (pp (pp PR)) (pg (pp PR) (pg PR PR))))
 ·simp only [List.append_assoc]
theorem impl_copyBuffer {w : World} {cs : List Value} {x : Buffer} (hv : RdBuffer w cs x) (hb : x.le 1048576) : CN Tryz.prog 172 [.agg cs.toArray] w (OwV OwBuffer x) := by
 obtain ⟨v0,rfl,k0⟩:=hv
 obtain ⟨A0,c0,rfl,hA0⟩:=k0
 obtain ⟨hb0,hb1⟩:=hb
 refine cn_of Tryz.func172 Z Z Z<|SQ<|RG<|BX [_,_] Z Z Z<|fun b1=>AL Z tyZ_impl_Buffer<|fun b2=>ND<|SQ<|gw_draw' [dd 0,dd 1,dd 3,dd 4,(2,.add),(5,.add)] [6,7] mixed Z (FD Z) (ts:=[_,_]) Z<|DT Z Z (fun _ q=>FA Z tyF_impl_Buffer_0 Z q)<|DT Z Z (fun _ q=>LD (i:=1) Z tyP_int Z Z Z q)<|DT Z Z (fun _ q=>FA Z tyF_impl_Buffer_1 Z q)<|DT Z Z (fun _ q=>LD (i:=1) Z tyP_S_impl_Chunk Z Z Z q)<|?_
 refine DA Z Z (fun _ q=>rw_slice0D Z tyM_S_impl_Chunk (PlO Chunk.cells) q)<|fun v1 ch1 how1=>?_
 obtain ⟨how1,rfl⟩:=how1
 refine DA Z Z (fun _ q=>rw_appendP Z tyM_S_impl_Chunk eChunk (fun _=>Z) Z Z how1 (fun w hs=>hA0.sat Pl.keeps hs) (.refl _) (by first | omega | (simp; omega)) q)<|fun v2 ch2 how2=>?_
 obtain ⟨R3,rc3,rfl,hR3,hrd3⟩:=(OwA.s (l:=x.chunks) how2).shape eChunk
 refine dw_nil<|rw_build [_,_] Z tyB_impl_Buffer tyZ_impl_Buffer Z Z<|ST (i:=0) [_,_] [_,_] tyS_impl_Buffer.sz Z Z Z Z Z Z Z Z<|ND<|?_
 refine ret_cnP (ch:=ch2) (G:=ch2 ++ ([])) (F':=[]) Tryz.func172 (res1 Tryz.func172 Z (rv_s (i:=0) [_,_] tyS_impl_Buffer Z Z Z Z)) ?_ ?_ ?_
 ·exact ⟨_,rfl,_,_,rfl,(OwA.s (l:=x.chunks) how2),rfl⟩
 ·exact (pg PR PR)
 ·simp only []
theorem impl_copyReceiver {w : World} {cs : List Value} {x : Receiver} (hv : RdReceiver w cs x) (hb : x.le 1048576) : CN Tryz.prog 147 [.agg cs.toArray] w (OwV OwReceiver x) := by
 obtain ⟨v0,rfl,k0⟩:=hv
 obtain ⟨A0,c0,rfl,hA0⟩:=k0
 obtain ⟨hb0,hb1⟩:=hb
 refine cn_of Tryz.func147 Z Z Z<|SQ<|RG<|BX [_,_,_,_,_,_] Z Z Z<|fun b1=>AL Z tyZ_impl_Receiver<|fun b2=>ND<|SQ<|RG<|FA Z tyF_impl_Receiver_1 Z<|LS (i:=1) [_,_] Z tyS_impl_Buffer Z Z Z Z<|CN1 Z fun_impl_copyBuffer Z (fun w hs=>impl_copyBuffer ⟨_,Z,(hA0.s Pl.keeps hs)⟩ ⟨hb0,hb1⟩)<|fun vv1 ch1 how1=>?_
 obtain ⟨cs1,rfl,v1_0,c1_0,rfl,h1_0,rfl⟩:=how1
 obtain ⟨R1_0,b1_0,rfl,hR1_0,hrd1_0⟩:=h1_0.shape eChunk
 refine FA Z tyF_impl_Receiver_1 Z<|ST (i:=1) [_,_] [_,_,_,_,_,_] tyS_impl_Buffer.sz Z Z Z Z Z Z Z Z<|ND<|SQ<|RG<|LS (i:=1) [_,_,_,_,_,_] Z tyS_impl_Receiver Z Z Z Z<|ST (i:=0) [_,_,_,_,_,_] [_,_,_,_,_,_] tyS_impl_Receiver.sz Z Z Z Z Z Z Z Z<|ND<|?_
 refine ret_cnP (ch:=ch1) (G:=ch1 ++ ([])) (F':=[]) Tryz.func147 (res1 Tryz.func147 Z (rv_s (i:=0) [_,_,_,_,_,_] tyS_impl_Receiver Z Z Z Z)) ?_ ?_ ?_
 ·exact ⟨_,rfl,_,_,rfl,h1_0,rfl⟩
 ·exact (pg PR PR)
 ·simp only []
set_option maxHeartbeats 4000000 in
theorem impl_copyStream {w : World} {cs : List Value} {x : Stream} (hv : RdStream w cs x) (hb : x.le 1048576) : CN Tryz.prog 96 [.agg cs.toArray] w (OwV OwStream x) := by
 obtain ⟨v0,v1,v2,v3,v4,rfl,k0,k1,k2,k3,k4⟩:=hv
 obtain ⟨A0,c0,rfl,hA0⟩:=k0
 obtain ⟨A1,c1,rfl,hA1⟩:=k1
 obtain ⟨A2,c2,rfl,hA2⟩:=k2
 obtain ⟨A3,c3,rfl,hA3⟩:=k3
 obtain ⟨A4,c4,rfl,hA4⟩:=k4
 obtain ⟨hb0,hb1,hb2,hb3,hb4,hb5⟩:=hb
 refine cn_of Tryz.func96 Z Z Z<|SQ<|RG<|BX [_,_,_,_,_,_,_,_,_,_,_,_,_,_,_,_,_,_,_,_,_,_,_,_,_,_,_,_,_,_,_,_,_,_,_,_,_,_,_] Z Z Z<|fun b1=>AL Z tyZ_impl_Stream<|fun b2=>ND<|SQ<|gw_draw' [dd 0,dd 1,dd 3,dd 4,(2,.add),dd 6,(5,.add)] [7,8,9] mixed Z (FD Z) (ts:=[_,_,_]) Z<|DT Z Z (fun _ q=>FA Z tyF_impl_Stream_1 Z q)<|DT Z Z (fun _ q=>LS (i:=1) [_,_,_,_,_,_,_,_,_,_,_,_] Z tyS_impl_Sender Z Z Z Z q)<|?_
 refine DT Z Z (fun _ q=>FA Z tyF_impl_Stream_3 Z q)<|DT Z Z (fun _ q=>LS (i:=1) [_,_,_,_,_,_] Z tyS_impl_Receiver Z Z Z Z q)<|DA Z Z (fun _ q=>CN1 Z fun_impl_copySender Z (fun w hs=>impl_copySender ⟨_,_,_,_,Z,(hA0.s Pl.keeps hs),(hA1.s Pl.keeps hs),(hA2.s Pl.keeps hs),(hA3.s Pl.keeps hs)⟩ ⟨hb0,hb1,hb2,hb3⟩) q)<|fun vv1 ch1 how1=>?_
 obtain ⟨cs1,rfl,v1_0,v1_1,v1_2,v1_3,c1_0,c1_1,c1_2,c1_3,rfl,h1_0,h1_1,h1_2,h1_3,rfl⟩:=how1
 refine dw_F (F':=c1_0 ++ (c1_1 ++ (c1_2 ++ (c1_3 ++ ([]))))) (by simp only [aA])<|?_
 obtain ⟨R1_0,b1_0,rfl,hR1_0,hrd1_0⟩:=h1_0.shape eInt
 obtain ⟨R1_1,b1_1,rfl,hR1_1,hrd1_1⟩:=h1_1.shape eRange
 obtain ⟨R1_2,b1_2,rfl,hR1_2,hrd1_2⟩:=h1_2.shape eRange
 obtain ⟨R1_3,b1_3,rfl,hR1_3,hrd1_3⟩:=h1_3.shape eRange
 refine DT Z Z (fun _ q=>FA Z tyF_impl_Stream_1 Z q)<|DA Z Z (fun _ q=>CN1 Z fun_impl_copyReceiver Z (fun w hs=>impl_copyReceiver ⟨_,Z,(hA4.s Pl.keeps hs)⟩ ⟨hb4,hb5⟩) q)<|fun vv2 ch2 how2=>?_
 obtain ⟨cs2,rfl,v2_0,c2_0,rfl,h2_0,rfl⟩:=how2
 obtain ⟨R2_0,b2_0,rfl,hR2_0,hrd2_0⟩:=h2_0.shape eChunk
 refine dw_nil<|rw_storeN (i:=1) [_,_,_,_,_,_,_,_,_,_,_,_] [_,_,_,_,_,_,_,_,_,_,_,_,_,_,_,_,_,_,_,_,_,_,_,_,_,_,_,_,_,_,_,_,_,_,_,_,_,_,_] [_,_] tyS_impl_Sender.sz Z Z Z Z Z Z Z Z Z<|FA Z tyF_impl_Stream_3 Z<|rw_storeN (i:=1) [_,_,_,_,_,_] [_,_,_,_,_,_,_,_,_,_,_,_,_,_,_,_,_,_,_,_,_,_,_,_,_,_,_,_,_,_,_,_,_,_,_,_,_,_,_] [_,_] tyS_impl_Receiver.sz Z Z Z Z Z Z Z Z Z<|ND<|SQ<|RG<|LS (i:=1) [_,_,_,_,_,_,_,_,_,_,_,_,_,_,_,_,_,_,_,_,_,_,_,_,_,_,_,_,_,_,_,_,_,_,_,_,_,_,_] Z tyS_impl_Stream Z Z Z Z<|?_
 refine rw_storeN (i:=0) [_,_,_,_,_,_,_,_,_,_,_,_,_,_,_,_,_,_,_,_,_,_,_,_,_,_,_,_,_,_,_,_,_,_,_,_,_,_,_] [_,_,_,_,_,_,_,_,_,_,_,_,_,_,_,_,_,_,_,_,_,_,_,_,_,_,_,_,_,_,_,_,_,_,_,_,_,_,_] [_,_] tyS_impl_Stream.sz Z Z Z Z Z Z Z Z Z<|ND<|?_
 refine ret_cnP (ch:=c1_0 ++ (c1_1 ++ (c1_2 ++ (c1_3 ++ (ch2))))) (G:=c1_0 ++ (c1_1 ++ (c1_2 ++ (c1_3 ++ (ch2 ++ ([])))))) (F':=[]) Tryz.func96 (res1 Tryz.func96 Z (rv_s (i:=0) [_,_,_,_,_,_,_,_,_,_,_,_,_,_,_,_,_,_,_,_,_,_,_,_,_,_,_,_,_,_,_,_,_,_,_,_,_,_,_] tyS_impl_Stream Z Z Z Z)) ?_ ?_ ?_
 ·exact ⟨_,rfl,_,_,_,_,_,_,_,_,_,_,rfl,h1_0,h1_1,h1_2,h1_3,h2_0,rfl⟩
 ·exact (pg (pp PR) (pg (pp PR) (pg (pp PR) (pg (pp PR) (pg PR PR)))))
 ·simp only [List.append_assoc]
set_option maxHeartbeats 2000000 in
theorem impl_copyStreams {w : World} {v : Value} {l : List Stream} (hv : RdS w 39 RdStream v l) (hb : l.length ≤ 1048576) (hall : ∀ x ∈ l, x.le 1048576) : CN Tryz.prog 95 [v] w (fun v ch => OwS 46 39 OwStream v l ch) := by
 obtain ⟨A,c,rfl,hA⟩:=hv
 refine cn_of Tryz.func95 Z Z Z<|SQ<|RG<|AS Z Z<|ND<|SQ<|RG<|rw_slice0 Z tyM_S_impl_Stream OwStream<|fun v1 how1=>AS Z Z<|ND<|SQ<|SQ<|RG<|MV Z Z<|rw_len Z tyE_S_impl_Stream Z<|MV Z Z<|ND<|BK<|?_
 refine gw_loopX (α:=Nat × Value × List Ck) (fun z_=>z_.1 ≤ l.length ∧ OwA 46 39 OwStream z_.2.1 (l.take z_.1) z_.2.2) (fun z_=>l.length - z_.1) (fun e z_=>(9,.int .i64 (z_.1 : Int)) :: (3,z_.2.1) :: e) (fun B _=>B) (fun F z_=>z_.2.2 ++ ([])) (0,v1,[]) [(2,_),(7,_),(8,_)] (Sub.consE Z Z (Sub.consE Z Z (Sub.cons (i:=2) Z (Sub.cons (i:=7) Z (Sub.cons (i:=8) Z (Sub.nil _)))))) Z Z ?_ ?_
 ·exact ⟨Nat.zero_le _,how1⟩
 ·rintro ⟨i,v,ch⟩ hI2 ih2
  dsimp only at hI2
  dsimp only
  obtain ⟨hle,hO⟩:=hI2
  refine SQ<|RG<|rw_lss Z Z Z<|ND<|SQ<|?_
  refine gw_cond Z (fun h1=>?_) (fun h1=>?_)
  ·have hi3:=lt_of_dec h1
   obtain ⟨x4,hx4⟩:=get_of_lt hi3
   have hd4:=drop_cons hx4
   refine SK<|SQ<|BK<|SQ<|RG<|?_
   obtain ⟨cse5_,hRe5_,hq5⟩:=hA.get hx4
   obtain ⟨ve5_0,ve5_1,ve5_2,ve5_3,ve5_4,rfl,ke5_0,ke5_1,ke5_2,ke5_3,ke5_4⟩:=hRe5_
   obtain ⟨Ae5_0,ce5_0,rfl,hAe5_0⟩:=ke5_0
   obtain ⟨Ae5_1,ce5_1,rfl,hAe5_1⟩:=ke5_1
   obtain ⟨Ae5_2,ce5_2,rfl,hAe5_2⟩:=ke5_2
   obtain ⟨Ae5_3,ce5_3,rfl,hAe5_3⟩:=ke5_3
   obtain ⟨Ae5_4,ce5_4,rfl,hAe5_4⟩:=ke5_4
   obtain ⟨hbe5_0,hbe5_1,hbe5_2,hbe5_3,hbe5_4,hbe5_5⟩:=hall x4 (List.mem_of_getElem? hx4)
   refine rw_indexAddr (i) Z tyE_S_impl_Stream Z Z Z (hA.some hi3) hi3<|rw_loadX_s [_,_,_,_,_,_,_,_,_,_,_,_,_,_,_,_,_,_,_,_,_,_,_,_,_,_,_,_,_,_,_,_,_,_,_,_,_,_,_] Z tyS_impl_Stream Z Z (fun w hs=>hq5.lds0 (n:=39) hs Z)<|AL Z tyZ_impl_Stream<|fun b1=>rw_storeN (i:=0) [_,_,_,_,_,_,_,_,_,_,_,_,_,_,_,_,_,_,_,_,_,_,_,_,_,_,_,_,_,_,_,_,_,_,_,_,_,_,_] [_,_,_,_,_,_,_,_,_,_,_,_,_,_,_,_,_,_,_,_,_,_,_,_,_,_,_,_,_,_,_,_,_,_,_,_,_,_,_] [_] tyS_impl_Stream.sz Z Z Z Z Z Z Z Z Z<|?_
   refine ND<|RG<|MV Z Z<|LS (i:=0) [_,_,_,_,_,_,_,_,_,_,_,_,_,_,_,_,_,_,_,_,_,_,_,_,_,_,_,_,_,_,_,_,_,_,_,_,_,_,_] Z tyS_impl_Stream Z Z Z Z<|CN1 Z fun_impl_copyStream Z (fun w hs=>impl_copyStream ⟨_,_,_,_,_,Z,(hAe5_0.s Pl.keeps hs),(hAe5_1.s Pl.keeps hs),(hAe5_2.s Pl.keeps hs),(hAe5_3.s Pl.keeps hs),(hAe5_4.s Pl.keeps hs)⟩ ⟨hbe5_0,hbe5_1,hbe5_2,hbe5_3,hbe5_4,hbe5_5⟩)<|fun vv6 ch6 how6=>?_
   obtain ⟨cs6,rfl,v6_0,v6_1,v6_2,v6_3,v6_4,c6_0,c6_1,c6_2,c6_3,c6_4,rfl,h6_0,h6_1,h6_2,h6_3,h6_4,rfl⟩:=how6
   refine rw_F (F':=c6_0 ++ (c6_1 ++ (c6_2 ++ (c6_3 ++ (c6_4 ++ (ch ++ ([]))))))) (by simp only [aA])<|?_
   obtain ⟨R6_0,b6_0,rfl,hR6_0,hrd6_0⟩:=h6_0.shape eInt
   obtain ⟨R6_1,b6_1,rfl,hR6_1,hrd6_1⟩:=h6_1.shape eRange
   obtain ⟨R6_2,b6_2,rfl,hR6_2,hrd6_2⟩:=h6_2.shape eRange
   obtain ⟨R6_3,b6_3,rfl,hR6_3,hrd6_3⟩:=h6_3.shape eRange
   obtain ⟨R6_4,b6_4,rfl,hR6_4,hrd6_4⟩:=h6_4.shape eChunk
   refine rw_slice (xs:=[(0,_)]) [_,_,_,_,_,_,_,_,_,_,_,_,_,_,_,_,_,_,_,_,_,_,_,_,_,_,_,_,_,_,_,_,_,_,_,_,_,_,_] Z tyM_S_impl_Stream Z Z Z Z<|fun b2=>?_
   have hpm8 : (c6_0 ++ (c6_1 ++ (c6_2 ++ (c6_3 ++ (c6_4 ++ (ch ++ ([]))))))).Perm (ch ++ ((c6_0 ++ (c6_1 ++ (c6_2 ++ (c6_3 ++ (c6_4))))) ++ ([]))):=by
    refine List.Perm.trans ((pg (pp (pp (pp (pp (pp PR))))) (pg PR (pg PR (pg PR (pg PR (pg PR PR)))))) : (c6_0 ++ (c6_1 ++ (c6_2 ++ (c6_3 ++ (c6_4 ++ (ch ++ ([]))))))).Perm (ch ++ (c6_0 ++ (c6_1 ++ (c6_2 ++ (c6_3 ++ (c6_4 ++ ([])))))))) (List.Perm.of_eq ?_)
    simp only [List.append_assoc]
   refine rw_append1 (i:=0) (a:=x4) (ch2:=c6_0 ++ (c6_1 ++ (c6_2 ++ (c6_3 ++ (c6_4))))) (F2:=[]) Z tyM_S_impl_Stream eStream Z Z Z hO ⟨_,_,_,_,_,_,_,_,_,_,Z,h6_0,h6_1,h6_2,h6_3,h6_4,Z⟩ hpm8 (by simp only [List.length_take]; omega)<|fun v7 ch7 how7=>AS Z Z<|ND<|IB<|RG<|rw_add Z Z Z<|MV Z Z<|ND<|gw_dropN 2<|?_
   refine gw_sub (Sub.consE (i:=9) Z (int_succ (by omega)) (Sub.consE (i:=3) Z Z (Sub.cons (i:=2) Z (Sub.cons (i:=7) Z (Sub.cons (i:=8) Z (Sub.nil _)))))) (ih2 (i + 1,v7,ch7) ?_ ?_)
   ·exact ⟨by omega,by rw [take_snoc hx4]; exact how7⟩
   ·show l.length - (i + 1) < l.length - i; omega
  have hn9:=nil_of_dec h1
  refine EX Z<|SQ<|RG<|MV Z Z<|AS Z Z<|ND<|?_
  refine ret_cn ch Tryz.func95 (res1 Tryz.func95 Z (rv_tmp Z)) ?_ ?_
  ·rw [take_all hn9] at hO; exact OwA.s hO
  ·simp
theorem impl_FindStream_1 {w : World} {q : Addr} {id : Int} {cs : List Value} {x : Stream} (hv : RdStream w cs x) (hq : At w q [.int .i64 id]) : CV Tryz.prog 100 [.agg cs.toArray, .pointer (some q)] w (.bool (x.id == id)) := by
 obtain ⟨v0,v1,v2,v3,v4,rfl,k0,k1,k2,k3,k4⟩:=hv
 obtain ⟨A0,c0,rfl,hA0⟩:=k0
 obtain ⟨A1,c1,rfl,hA1⟩:=k1
 obtain ⟨A2,c2,rfl,hA2⟩:=k2
 obtain ⟨A3,c3,rfl,hA3⟩:=k3
 obtain ⟨A4,c4,rfl,hA4⟩:=k4
 refine cv_of Tryz.func100 Z Z Z<|SQ<|RG<|BX [_,_,_,_,_,_,_,_,_,_,_,_,_,_,_,_,_,_,_,_,_,_,_,_,_,_,_,_,_,_,_,_,_,_,_,_,_,_,_] Z Z Z<|fun b1=>AS Z Z<|ND<|SQ<|RG<|FA Z tyF_impl_Stream_0 Z<|LD (i:=0) Z tyP_int Z Z Z<|rw_loadX _ Z tyP_int Z (fun w hs=>hq.ld0 hs Z)<|EQ1 Z Z Z<|AS Z Z<|ND<|RT Tryz.func100 Z Z<|?_
 rfl
theorem slices_IndexFunc_Stream {w : World} {v : Value} {l : List Stream} (hv : RdS w 39 RdStream v l) (hb : l.length ≤ 1048576) {q : Addr} {id : Int} (hq : At w q [.int .i64 id]) : CV Tryz.prog 97 [v, .func (.func 100) #[] #[.pointer (some q)]] w (.int .i64 (findStream l id)) := by
 obtain ⟨A,c,rfl,hA⟩:=hv
 refine cv_of Tryz.func97 Z Z Z<|SQ<|RG<|AS Z Z<|ND<|SQ<|SQ<|RG<|MV Z Z<|rw_len Z tyE_S_impl_Stream Z<|MV Z Z<|ND<|BK<|?_
 refine gw_loopC (α:=Nat) (fun z_=>z_ ≤ l.length ∧ findStream l id = findFrom id z_ (l.drop z_)) (fun z_=>l.length - z_) (fun e z_=>(8,.int .i64 (z_ : Int)) :: e) 0 [(0,_),(1,_),(7,_)] (Sub.consE Z Z (Sub.cons (i:=0) Z (Sub.cons (i:=1) Z (Sub.cons (i:=7) Z (Sub.nil _))))) ?_ ?_
 ·exact ⟨Nat.zero_le _,rfl⟩
 ·rintro i hI1 ih1
  try dsimp only
  obtain ⟨hle,hI⟩:=hI1
  refine SQ<|RG<|rw_lss Z Z Z<|ND<|SQ<|?_
  refine gw_cond Z (fun h1=>?_) (fun h1=>?_)
  ·have hi2:=lt_of_dec h1
   obtain ⟨x3,hx3⟩:=get_of_lt hi2
   have hd3:=drop_cons hx3
   refine SK<|SQ<|BK<|SQ<|RG<|MV Z Z<|AS Z Z<|ND<|SQ<|RG<|MV Z Z<|MV Z Z<|MV Z Z<|?_
   obtain ⟨cse4_,hRe4_,hq4⟩:=hA.get hx3
   obtain ⟨ve4_0,ve4_1,ve4_2,ve4_3,ve4_4,rfl,ke4_0,ke4_1,ke4_2,ke4_3,ke4_4⟩:=hRe4_
   obtain ⟨Ae4_0,ce4_0,rfl,hAe4_0⟩:=ke4_0
   obtain ⟨Ae4_1,ce4_1,rfl,hAe4_1⟩:=ke4_1
   obtain ⟨Ae4_2,ce4_2,rfl,hAe4_2⟩:=ke4_2
   obtain ⟨Ae4_3,ce4_3,rfl,hAe4_3⟩:=ke4_3
   obtain ⟨Ae4_4,ce4_4,rfl,hAe4_4⟩:=ke4_4
   refine rw_indexAddr (i) Z tyE_S_impl_Stream Z Z Z (hA.some hi2) hi2<|rw_loadX_s [_,_,_,_,_,_,_,_,_,_,_,_,_,_,_,_,_,_,_,_,_,_,_,_,_,_,_,_,_,_,_,_,_,_,_,_,_,_,_] Z tyS_impl_Stream Z Z (fun w hs=>hq4.lds0 (n:=39) hs Z)<|rw_cvF Z Z fun_impl_FindStream_1 Z (fun w hs=>impl_FindStream_1 ⟨_,_,_,_,_,Z,(hAe4_0.s Pl.keeps hs),(hAe4_1.s Pl.keeps hs),(hAe4_2.s Pl.keeps hs),(hAe4_3.s Pl.keeps hs),(hAe4_4.s Pl.keeps hs)⟩ (hq.sat hs))<|ND<|?_
   refine gw_cond Z (fun h2=>?_) (fun h2=>?_)
   ·refine SQ<|RG<|MV Z Z<|AS Z Z<|ND<|RT Tryz.func97 Z Z<|?_
    rw [hI,hd3]; simp [findFrom,h2]
   refine SK<|IB<|RG<|rw_add Z Z Z<|MV Z Z<|ND<|?_
   refine gw_sub (Sub.consE (i:=8) Z (int_succ (by omega)) (Sub.cons (i:=0) Z (Sub.cons (i:=1) Z (Sub.cons (i:=7) Z (Sub.nil _))))) (ih1 (i + 1) ?_ ?_)
   ·exact ⟨by omega,by rw [hI,hd3]; simp [findFrom,h2]⟩
   ·show l.length - (i + 1) < l.length - i; omega
  have hn5:=nil_of_dec h1
  refine EX Z<|SQ<|RG<|AS Z Z<|ND<|RT Tryz.func97 Z Z<|?_
  rw [hI,hn5]; rfl
theorem impl_FindStream {w : World} {v : Value} {l : List Stream} (hv : RdS w 39 RdStream v l) (hb : l.length ≤ 1048576) (id : Int) : CV Tryz.prog 31 [v, .int .i64 id] w (.int .i64 (findStream l id)) := by
 obtain ⟨A,c,rfl,hA⟩:=hv
 refine cv_of Tryz.func31 Z Z Z<|SQ<|RG<|BX [_] Z Z Z<|fun b1=>AS Z Z<|ND<|SQ<|RG<|MV Z Z<|rw_makeFunc Z Z<|CV1 Z fun_slices_IndexFunc_S_impl_Stream_impl_Stream Z (fun w hs=>slices_IndexFunc_Stream (hA.s RdStream.keeps hs) hb (Ck.In.at0 (c:=⟨b1,_,[_]⟩) (hs.at_ _ (ML (List.mem_of_getElem? (i:=0) Z)))))<|AS Z Z<|ND<|RT Tryz.func31 Z Z<|?_
 rfl
set_option maxRecDepth 20000 in
theorem slices_Insert_E {w : World} {A : Option Addr} {n c vb : Nat} {l : List Stream} {x : Stream} {row : List Value} {ch chx : List Ck} (hO : OwA 46 39 OwStream (.slice A n c) l ch) (hx : OwStream row x chx) (hn : n = l.length) (hb : n ≤ 1048576) (hin : ∀ c ∈ ((⟨vb, 46, row⟩ :: (ch ++ chx)) : List Ck), c.In w) (hnd : (((⟨vb, 46, row⟩ :: (ch ++ chx)) : List Ck).map Ck.b).Nodup) : CH Tryz.prog 99 [.slice A n c, .int .i64 (n : Int), .slice (some ⟨vb, 0, none⟩) 1 1] w (⟨vb, 46, row⟩ :: (ch ++ chx)) (fun v' ch' => OwA 46 39 OwStream v' (l ++ [x]) ch') := by
 refine ch_ofBF hin hnd Tryz.func99 Z Z Z<|gw_F (F':=ch ++ (chx ++ ([]))) (by simp only [aA])<|SQ<|RG<|AS Z Z<|ND<|SQ<|RG<|MV Z Z<|MV Z Z<|rw_sliceJ (i:=n) Z tyM_S_impl_Stream Z Z (by omega)<|fun vj=>ND<|SQ<|RG<|MV Z Z<|rw_len Z tyE_S_impl_Stream Z<|AS Z Z<|ND<|SQ<|SQ<|RG<|MV Z Z<|EQ1 Z Z Z<|ND<|CF Z (by decide)<|SK<|SQ<|RG<|?_
 refine MV Z Z<|rw_len Z tyE_S_impl_Stream Z<|AS Z Z<|ND<|SQ<|SQ<|RG<|MV Z Z<|MV Z Z<|EQ1 Z Z Z<|ND<|CT Z (beq_self_eq_true _)<|SQ<|RG<|MV Z Z<|MV Z Z<|rw_append1 (i:=0) (a:=x) (ch2:=chx) (F2:=[]) Z tyM_S_impl_Stream eStream Z Z Z hO hx (.refl _) (by omega)<|fun v' ch' how=>AS Z Z<|ND<|?_
 refine ret_ch ch' Tryz.func99 (res1 Tryz.func99 Z (rv_tmp Z)) ?_ ?_
 ·exact how
 ·simp
set_option maxHeartbeats 2000000 in
set_option maxRecDepth 20000 in
theorem slices_Insert_G {w : World} {g c vb : Nat} {l1 l2 : List Stream} {x : Stream} {c1 c2 row : List Value} {h1 h2 chx : List Ck} (hO1 : Ows OwStream l1 c1 h1) (hO2 : Ows OwStream l2 c2 h2) (hx : OwStream row x chx) (h0 : 0 < l2.length) (hb : l1.length + l2.length ≤ 1048576) (hc : l1.length + l2.length ≤ c) {rs : List Value} (hg : c < l1.length + l2.length + 1) (h3 : (c2 ++ rs).length = (c - l1.length) * 39) (hin : ∀ c ∈ ((⟨g, 46, c1 ++ (c2 ++ rs)⟩ :: ⟨vb, 46, row⟩ :: (h1 ++ (h2 ++ chx))) : List Ck), c.In w) (hnd : (((⟨g, 46, c1 ++ (c2 ++ rs)⟩ :: ⟨vb, 46, row⟩ :: (h1 ++ (h2 ++ chx))) : List Ck).map Ck.b).Nodup) : CH Tryz.prog 99 [.slice (some ⟨g, 0, none⟩) (l1.length + l2.length) c, .int .i64 (l1.length : Int), .slice (some ⟨vb, 0, none⟩) 1 1] w (⟨g, 46, c1 ++ (c2 ++ rs)⟩ :: ⟨vb, 46, row⟩ :: (h1 ++ (h2 ++ chx))) (fun v' ch' => OwA 46 39 OwStream v' (l1 ++ x :: l2) ch') := by
 refine ch_of2 hin hnd Tryz.func99 Z Z Z<|?_
 refine gw_F (F':=h1 ++ (h2 ++ (chx ++ ([])))) (by simp only [aA]) ?_
 have hl1 : c1.length = l1.length * 39:=hO1.length eStream
 have hl2 : c2.length = l2.length * 39:=hO2.length eStream
 have hlr : row.length = 39:=eStream.len hx
 refine SQ<|RG<|AS Z Z<|ND<|SQ<|RG<|MV Z Z<|MV Z Z<|rw_sliceJ (i:=l1.length) Z tyM_S_impl_Stream Z Z (by omega)<|fun vj=>ND<|SQ<|RG<|MV Z Z<|rw_len Z tyE_S_impl_Stream Z<|AS Z Z<|ND<|SQ<|SQ<|RG<|MV Z Z<|EQ1 Z Z Z<|ND<|CF Z (by decide)<|SK<|SQ<|RG<|MV Z Z<|rw_len Z tyE_S_impl_Stream Z<|AS Z Z<|ND<|SQ<|SQ<|RG<|MV Z Z<|MV Z Z<|EQ1 Z Z Z<|?_
 refine ND<|CF Z (beq_false_of_ne (by omega))<|SK<|SQ<|SQ<|RG<|MV Z Z<|MV Z Z<|rw_addK ((((l1.length + l2.length) + 1 : Nat)) : Int) Z Z Z (wadd Z (by omega))<|MV Z Z<|rw_cap Z tyE_S_impl_Stream Z<|rw_gtr Z Z Z<|ND<|CT Z (decide_eq_true (by omega))<|SQ<|RG<|MV Z Z<|MV Z Z<|rw_sliceHi (j:=l1.length) Z tyM_S_impl_Stream Z Z Z (by omega) (by omega)<|MV Z Z<|MV Z Z<|rw_addK ((((l1.length + l2.length) + 1 : Nat)) : Int) Z Z Z (wadd Z (by omega))<|?_
 refine MV Z Z<|rw_subK (((l2.length + 1 : Nat)) : Int) Z Z Z (wsub (by omega) (by omega))<|rw_appendZ (m:=l2.length + 1) (j:=0) (i:=l1.length) (olds:=c1) Z tyM_S_impl_Stream (show Tryz.prog.underlying 3 = some (.int .i64) by kernel_rfl) Z Z Z Z (cut_head hl1) hl1 (by omega) (by omega) (by omega)<|fun b2 cap mid g1 g2 g3=>?_
 obtain ⟨m1,m2,m3,rfl,hm1,hm2⟩:=split3 (mid:=mid) (p:=39) (q:=l2.length * 39) (by rw [g3]; omega)
 refine AS Z Z<|ND<|SQ<|RG<|MV Z Z<|MV Z Z<|rw_sliceLo (i:=l1.length) (l1.length * 39) Z tyM_S_impl_Stream Z Z Z (by omega) (by omega) (by omega)<|MV Z Z<|rw_copy (i:=0) row (c1 ++ (row ++ (m2 ++ m3))) Z tyM_S_impl_Stream Z Z Z (fun w hs j u hj=>lit_cell (hs.at_ _ (ML (List.mem_of_getElem? (i:=2) Z))) hj) (by rw [hlr]; simp only [Nat.min_def]; split <;> omega) (by simp only [List.length_append]; omega) (eStream.one hx) (splice_all (by omega) (by omega))<|ND<|SQ<|gw_draw' [dd 0,dd 1,dd 2,dd 3,dd 4,dd 5,dd 6,dd 7] [8] mixed Z (FD Z) (ts:=[_]) Z<|?_
 refine DM Z Z Z<|DM Z Z Z<|DM Z Z Z<|DT Z Z (fun _ q=>rw_addK (((l1.length + 1 : Nat)) : Int) Z Z Z (wadd Z (by omega)) q)<|DT Z Z (fun _ q=>rw_sliceLo (i:=l1.length + 1) ((l1.length + 1) * 39) Z tyM_S_impl_Stream Z Z Z (by omega) (by omega) (by omega) q)<|DM Z Z Z<|DM Z Z Z<|DT Z Z (fun _ q=>rw_sliceLo (i:=l1.length) (l1.length * 39) Z tyM_S_impl_Stream Z Z Z (by omega) (by omega) (by omega) q)<|?_
 refine dw_nil<|rw_copy (i:=0) c2 (c1 ++ (row ++ (c2 ++ m3))) Z tyM_S_impl_Stream Z Z Z (fun w hs j u hj=>mid_cell hl1 (hs.at_ _ (ML (List.mem_of_getElem? (i:=1) Z))) hj) (by rw [hl2]; simp only [Nat.min_def]; split <;> omega) (by simp only [List.length_append]; omega) (hO2.ones eStream) (splice_two hl1 hlr (by omega))<|ND<|SQ<|RG<|MV Z Z<|AS Z Z<|ND<|gw_FP (F':=(h1 ++ (chx ++ h2)) ++ ([])) (by simp only [List.append_nil]; exact List.perm_append_comm.append_left _)<|?_
 refine ret_ch (⟨b2,46,c1 ++ (row ++ (c2 ++ m3))⟩ :: (h1 ++ (chx ++ h2))) Tryz.func99 (res1 Tryz.func99 Z (rv_tmp Z)) ?_ ?_
 ·refine .inr ⟨b2,cap,c1 ++ (row ++ c2),m3,h1 ++ (chx ++ h2),?_,hO1.append (.cons hx hO2),by simp only [List.append_assoc,List.nil_append],?_,g2,?_⟩
  ·simp only [List.length_append,List.length_cons]; rfl
  ·simp only [List.length_append,List.length_cons]; omega
  ·simp only [List.length_append] at g3 ⊢; omega
 ·simp only [List.append_nil]; exact List.Sublist.cons_cons _ (List.Sublist.cons _ (List.Sublist.cons _ (List.Sublist.refl _)))
set_option maxHeartbeats 2000000 in
set_option maxRecDepth 20000 in
theorem slices_Insert_S {w : World} {g c vb : Nat} {l1 l2 : List Stream} {x : Stream} {c1 c2 row : List Value} {h1 h2 chx : List Ck} (hO1 : Ows OwStream l1 c1 h1) (hO2 : Ows OwStream l2 c2 h2) (hx : OwStream row x chx) (h0 : 0 < l2.length) (hb : l1.length + l2.length ≤ 1048576) (hc : l1.length + l2.length ≤ c) {r0 rs2 : List Value} (hg : l1.length + l2.length + 1 ≤ c) (hm : c ≤ maxLen) (hr0 : r0.length = 39) (h3 : rs2.length = (c - (l1.length + l2.length + 1)) * 39) (hin : ∀ c ∈ ((⟨g, 46, c1 ++ (c2 ++ (r0 ++ rs2))⟩ :: ⟨vb, 46, row⟩ :: (h1 ++ (h2 ++ chx))) : List Ck), c.In w) (hnd : (((⟨g, 46, c1 ++ (c2 ++ (r0 ++ rs2))⟩ :: ⟨vb, 46, row⟩ :: (h1 ++ (h2 ++ chx))) : List Ck).map Ck.b).Nodup) : CH Tryz.prog 99 [.slice (some ⟨g, 0, none⟩) (l1.length + l2.length) c, .int .i64 (l1.length : Int), .slice (some ⟨vb, 0, none⟩) 1 1] w (⟨g, 46, c1 ++ (c2 ++ (r0 ++ rs2))⟩ :: ⟨vb, 46, row⟩ :: (h1 ++ (h2 ++ chx))) (fun v' ch' => OwA 46 39 OwStream v' (l1 ++ x :: l2) ch') := by
 refine ch_of2 hin hnd Tryz.func99 Z Z Z<|?_
 refine gw_F (F':=h1 ++ (h2 ++ (chx ++ ([])))) (by simp only [aA]) ?_
 have hl1 : c1.length = l1.length * 39:=hO1.length eStream
 have hl2 : c2.length = l2.length * 39:=hO2.length eStream
 have hlr : row.length = 39:=eStream.len hx
 refine SQ<|RG<|AS Z Z<|ND<|SQ<|RG<|MV Z Z<|MV Z Z<|rw_sliceJ (i:=l1.length) Z tyM_S_impl_Stream Z Z (by omega)<|fun vj=>ND<|SQ<|RG<|MV Z Z<|rw_len Z tyE_S_impl_Stream Z<|AS Z Z<|ND<|SQ<|SQ<|RG<|MV Z Z<|EQ1 Z Z Z<|ND<|CF Z (by decide)<|SK<|SQ<|RG<|MV Z Z<|rw_len Z tyE_S_impl_Stream Z<|AS Z Z<|ND<|SQ<|SQ<|RG<|MV Z Z<|MV Z Z<|EQ1 Z Z Z<|?_
 refine ND<|CF Z (beq_false_of_ne (by omega))<|SK<|SQ<|SQ<|RG<|MV Z Z<|MV Z Z<|rw_addK ((((l1.length + l2.length) + 1 : Nat)) : Int) Z Z Z (wadd Z (by omega))<|MV Z Z<|rw_cap Z tyE_S_impl_Stream Z<|rw_gtr Z Z Z<|ND<|CF Z (decide_eq_false (by omega))<|SK<|SQ<|RG<|MV Z Z<|MV Z Z<|MV Z Z<|rw_addK ((((l1.length + l2.length) + 1 : Nat)) : Int) Z Z Z (wadd Z (by omega))<|rw_sliceHi (j:=(l1.length + l2.length) + 1) Z tyM_S_impl_Stream Z Z Z (by omega) (by omega)<|?_
 refine AS Z Z<|ND<|SQ<|SQ<|RG<|MV Z Z<|MV Z Z<|MV Z Z<|MV Z Z<|rw_addK (((l1.length + 1 : Nat)) : Int) Z Z Z (wadd Z (by omega))<|rw_sliceLo (i:=l1.length + 1) ((l1.length + 1) * 39) Z tyM_S_impl_Stream Z Z Z (by omega) (by omega) (by omega)<|rw_ext (v:=.bool false) Z Z (fun w hs=>run_apart (tR:=4) tyM_S_impl_Stream (show Tryz.prog.funcs[148]? = some Tryz.f148 from by kernel_rfl) (by kernel_rfl) (by kernel_rfl) (by kernel_rfl) (by kernel_rfl) (c1:=⟨vb,46,row⟩) (c2:=⟨g,46,c1 ++ (c2 ++ (r0 ++ rs2))⟩) (hs.at_ _ (ML (List.mem_of_getElem? (i:=1) Z))) (hs.at_ _ (ML (List.mem_of_getElem? (i:=0) Z))) (ne_of_nd hs) (by simp only [List.length_append]; omega) _ _ _ _ _ _)<|?_
 refine NT Z Z<|ND<|CT Z Z<|SQ<|gw_draw' [dd 0,dd 1,dd 2,dd 3,dd 4,dd 5,dd 6,dd 7] [8] mixed Z (FD Z) (ts:=[_]) Z<|DM Z Z Z<|DM Z Z Z<|DM Z Z Z<|DT Z Z (fun _ q=>rw_addK (((l1.length + 1 : Nat)) : Int) Z Z Z (wadd Z (by omega)) q)<|DT Z Z (fun _ q=>rw_sliceLo (i:=l1.length + 1) ((l1.length + 1) * 39) Z tyM_S_impl_Stream Z Z Z (by omega) (by omega) (by omega) q)<|?_
 refine DM Z Z Z<|DM Z Z Z<|DT Z Z (fun _ q=>rw_sliceLo (i:=l1.length) (l1.length * 39) Z tyM_S_impl_Stream Z Z Z (by omega) (by omega) (by omega) q)<|dw_nil<|rw_copy (i:=0) c2 (c1 ++ ((c2 ++ r0).take 39 ++ (c2 ++ rs2))) Z tyM_S_impl_Stream Z Z Z (fun w hs j u hj=>mid_cell hl1 (hs.at_ _ (ML (List.mem_of_getElem? (i:=0) Z))) hj) (by rw [hl2]; simp only [Nat.min_def]; split <;> omega) (by simp only [List.length_append]; omega) (hO2.ones eStream) (splice_shift hl1 hl2 hr0)<|?_
 refine ND<|SQ<|RG<|MV Z Z<|MV Z Z<|rw_sliceLo (i:=l1.length) (l1.length * 39) Z tyM_S_impl_Stream Z Z Z (by omega) (by omega) (by omega)<|MV Z Z<|rw_copy (i:=0) row (c1 ++ (row ++ (c2 ++ rs2))) Z tyM_S_impl_Stream Z Z Z (fun w hs j u hj=>lit_cell (hs.at_ _ (ML (List.mem_of_getElem? (i:=1) Z))) hj) (by rw [hlr]; simp only [Nat.min_def]; split <;> omega) (by simp only [List.length_append,List.length_take]; omega) (eStream.one hx) (splice_all (by omega) (by rw [List.length_take]; simp only [List.length_append]; omega))<|?_
 refine ND<|SQ<|RG<|MV Z Z<|AS Z Z<|ND<|gw_FP (F':=(h1 ++ (chx ++ h2)) ++ ([])) (by simp only [List.append_nil]; exact List.perm_append_comm.append_left _)<|?_
 refine ret_ch (⟨g,46,c1 ++ (row ++ (c2 ++ rs2))⟩ :: (h1 ++ (chx ++ h2))) Tryz.func99 (res1 Tryz.func99 Z (rv_tmp Z)) ?_ ?_
 ·refine .inr ⟨g,c,c1 ++ (row ++ c2),rs2,h1 ++ (chx ++ h2),?_,hO1.append (.cons hx hO2),by simp only [List.append_assoc,List.nil_append],?_,hm,?_⟩
  ·simp only [List.length_append,List.length_cons]; rfl
  ·simp only [List.length_append,List.length_cons]; omega
  ·simp only [List.length_append]; omega
 ·simp only [List.append_nil]; exact List.Sublist.cons_cons _ (List.Sublist.cons _ (List.Sublist.refl _))
theorem slices_Insert {w : World} {A : Option Addr} {n c vb i : Nat} {l : List Stream} {x : Stream} {row : List Value} {chL ch chx : List Ck} (hO : OwA 46 39 OwStream (.slice A n c) l ch) (hx : OwStream row x chx) (hL : chL = [⟨vb, 46, row⟩]) (hi : i ≤ l.length) (hb : l.length ≤ 1048576)
  (hin : ∀ c ∈ chL ++ (ch ++ chx),c.In w) (hnd : ((chL ++ (ch ++ chx)).map Ck.b).Nodup) :
  CH Tryz.prog 99 [.slice A n c,.int .i64 (i : Int),.slice (some ⟨vb,0,none⟩) 1 1] w (chL ++ (ch ++ chx)) (fun v' ch'=>OwA 46 39 OwStream v' (l.take i ++ x :: l.drop i) ch'):=by
 subst hL
 have hn : n = l.length:=by
  rcases hO with ⟨A',h1,rfl,_⟩ | ⟨g,cap,cs,rest,chs,h1,_⟩
  ·cases h1; rfl
  ·cases h1; rfl
 by_cases he : i = l.length
 ·have h:=slices_Insert_E (vb:=vb) hO hx hn (by omega) hin hnd
  subst he
  rw [List.take_length,List.drop_length]
  rw [hn] at h ⊢
  exact h
 ·rcases hO with ⟨A',h1,rfl,rfl⟩ | ⟨g,cap,cs,rest,chs,h1,h2,rfl,h3,h4,h5⟩
  ·exact absurd (Nat.le_zero.1 hi) he
  ·cases h1
   obtain ⟨c1,c2,k1,k2,rfl,rfl,g1,g2⟩:=h2.split i
   rw [List.nil_append,List.append_assoc c1 c2 rest] at hin hnd ⊢
   have hl1 : (l.take i).length = i:=by rw [List.length_take]; omega
   have hl2 : (l.drop i).length = l.length - i:=List.length_drop
   have hc1:=g1.length eStream
   have hc2:=g2.length eStream
   have hperm : (⟨g,46,c1 ++ (c2 ++ rest)⟩ :: ⟨vb,46,row⟩ :: (k1 ++ (k2 ++ chx)) : List Ck).Perm ([⟨vb,46,row⟩] ++ ((⟨g,46,c1 ++ (c2 ++ rest)⟩ :: (k1 ++ k2)) ++ chx)):=by
    simp only [List.cons_append,List.nil_append,List.append_assoc]
    exact List.Perm.swap _ _ _
   have hin':=fun c hc=>hin c (hperm.mem_iff.1 hc)
   have hnd':=(hperm.map Ck.b).nodup_iff.2 hnd
   have e : (l.take i).length + (l.drop i).length = l.length:=by omega
   rw [List.length_append,List.length_append] at h5
   by_cases hg : c < l.length + 1
   ·have h:=slices_Insert_G (vb:=vb) (l1:=l.take i) (l2:=l.drop i) (c:=c) g1 g2 hx (by omega) (by omega) (by omega) (by omega) (by rw [List.length_append]; omega) hin' hnd'
    rw [e,hl1] at h
    exact h.permG hperm
   ·obtain ⟨r0,rs2,m3,hr,hr1,hr2⟩:=split3 (mid:=rest) (p:=39) (q:=0) (by omega)
    have hm0 : rs2 = []:=List.eq_nil_of_length_eq_zero hr2
    subst hm0
    rw [List.nil_append] at hr
    subst hr
    rw [List.length_append] at h5
    have h:=slices_Insert_S (vb:=vb) (l1:=l.take i) (l2:=l.drop i) (c:=c) (r0:=r0) (rs2:=m3) g1 g2 hx (by omega) (by omega) (by omega) (by omega) h4 hr1 (by omega) hin' hnd'
    rw [e,hl1] at h
    exact h.permG hperm
theorem impl_PutStream_1 {w : World} {q : Addr} {id : Int} {cs3 : List Value} {cs : List Value} {x : Stream} (hv : RdStream w cs x) (hq : At w q (.int .i64 id :: cs3)) : CV Tryz.prog 98 [.agg cs.toArray, .pointer (some q)] w (.bool (decide (id < x.id))) := by
 obtain ⟨v0,v1,v2,v3,v4,rfl,k0,k1,k2,k3,k4⟩:=hv
 obtain ⟨A0,c0,rfl,hA0⟩:=k0
 obtain ⟨A1,c1,rfl,hA1⟩:=k1
 obtain ⟨A2,c2,rfl,hA2⟩:=k2
 obtain ⟨A3,c3,rfl,hA3⟩:=k3
 obtain ⟨A4,c4,rfl,hA4⟩:=k4
 refine cv_of Tryz.func98 Z Z Z<|SQ<|RG<|BX [_,_,_,_,_,_,_,_,_,_,_,_,_,_,_,_,_,_,_,_,_,_,_,_,_,_,_,_,_,_,_,_,_,_,_,_,_,_,_] Z Z Z<|fun b1=>AS Z Z<|ND<|SQ<|RG<|FA Z tyF_impl_Stream_0 Z<|LD (i:=0) Z tyP_int Z Z Z<|FX Z tyF_impl_Stream_0 Z<|rw_loadX _ Z tyP_int Z (fun w hs=>hq.ld hs Z)<|rw_gtr Z Z Z<|AS Z Z<|ND<|RT Tryz.func98 Z Z<|?_
 rfl
theorem slices_IndexFunc_gt {w : World} {v : Value} {l : List Stream} (hv : RdS w 39 RdStream v l) (hb : l.length ≤ 1048576) {q : Addr} {id : Int} {cs3 : List Value} (hq : At w q (.int .i64 id :: cs3)) : CV Tryz.prog 97 [v, .func (.func 98) #[] #[.pointer (some q)]] w (.int .i64 (gtFrom id 0 l)) := by
 obtain ⟨A,c,rfl,hA⟩:=hv
 refine cv_of Tryz.func97 Z Z Z<|SQ<|RG<|AS Z Z<|ND<|SQ<|SQ<|RG<|MV Z Z<|rw_len Z tyE_S_impl_Stream Z<|MV Z Z<|ND<|BK<|?_
 refine gw_loopC (α:=Nat) (fun z_=>z_ ≤ l.length ∧ gtFrom id 0 l = gtFrom id z_ (l.drop z_)) (fun z_=>l.length - z_) (fun e z_=>(8,.int .i64 (z_ : Int)) :: e) 0 [(0,_),(1,_),(7,_)] (Sub.consE Z Z (Sub.cons (i:=0) Z (Sub.cons (i:=1) Z (Sub.cons (i:=7) Z (Sub.nil _))))) ?_ ?_
 ·exact ⟨Nat.zero_le _,rfl⟩
 ·rintro i hI1 ih1
  try dsimp only
  obtain ⟨hle,hI⟩:=hI1
  refine SQ<|RG<|rw_lss Z Z Z<|ND<|SQ<|?_
  refine gw_cond Z (fun h1=>?_) (fun h1=>?_)
  ·have hi2:=lt_of_dec h1
   obtain ⟨x3,hx3⟩:=get_of_lt hi2
   have hd3:=drop_cons hx3
   refine SK<|SQ<|BK<|SQ<|RG<|MV Z Z<|AS Z Z<|ND<|SQ<|RG<|MV Z Z<|MV Z Z<|MV Z Z<|?_
   obtain ⟨cse4_,hRe4_,hq4⟩:=hA.get hx3
   obtain ⟨ve4_0,ve4_1,ve4_2,ve4_3,ve4_4,rfl,ke4_0,ke4_1,ke4_2,ke4_3,ke4_4⟩:=hRe4_
   obtain ⟨Ae4_0,ce4_0,rfl,hAe4_0⟩:=ke4_0
   obtain ⟨Ae4_1,ce4_1,rfl,hAe4_1⟩:=ke4_1
   obtain ⟨Ae4_2,ce4_2,rfl,hAe4_2⟩:=ke4_2
   obtain ⟨Ae4_3,ce4_3,rfl,hAe4_3⟩:=ke4_3
   obtain ⟨Ae4_4,ce4_4,rfl,hAe4_4⟩:=ke4_4
   refine rw_indexAddr (i) Z tyE_S_impl_Stream Z Z Z (hA.some hi2) hi2<|rw_loadX_s [_,_,_,_,_,_,_,_,_,_,_,_,_,_,_,_,_,_,_,_,_,_,_,_,_,_,_,_,_,_,_,_,_,_,_,_,_,_,_] Z tyS_impl_Stream Z Z (fun w hs=>hq4.lds0 (n:=39) hs Z)<|rw_cvF Z Z fun_impl_PutStream_1 Z (fun w hs=>impl_PutStream_1 ⟨_,_,_,_,_,Z,(hAe4_0.s Pl.keeps hs),(hAe4_1.s Pl.keeps hs),(hAe4_2.s Pl.keeps hs),(hAe4_3.s Pl.keeps hs),(hAe4_4.s Pl.keeps hs)⟩ (hq.sat hs))<|ND<|?_
   refine gw_cond Z (fun h2=>?_) (fun h2=>?_)
   ·refine SQ<|RG<|MV Z Z<|AS Z Z<|ND<|RT Tryz.func97 Z Z<|?_
    rw [hI,hd3]; simp [gtFrom,h2]
   refine SK<|IB<|RG<|rw_add Z Z Z<|MV Z Z<|ND<|?_
   refine gw_sub (Sub.consE (i:=8) Z (int_succ (by omega)) (Sub.cons (i:=0) Z (Sub.cons (i:=1) Z (Sub.cons (i:=7) Z (Sub.nil _))))) (ih1 (i + 1) ?_ ?_)
   ·exact ⟨by omega,by rw [hI,hd3]; simp [gtFrom,h2]⟩
   ·show l.length - (i + 1) < l.length - i; omega
  have hn5:=nil_of_dec h1
  refine EX Z<|SQ<|RG<|AS Z Z<|ND<|RT Tryz.func97 Z Z<|?_
  rw [hI,hn5]; rfl
set_option maxHeartbeats 2000000 in
theorem impl_copyStreams_A {w : World} {v : Value} {l : List Stream} (hv : RdS w 39 RdStream v l) (hb : l.length ≤ 1048576) (hall : ∀ x ∈ l, x.le 1048576) : CN Tryz.prog 95 [v] w (fun v ch => OwA 46 39 OwStream v l ch) := by
 obtain ⟨A,c,rfl,hA⟩:=hv
 refine cn_of Tryz.func95 Z Z Z<|SQ<|RG<|AS Z Z<|ND<|SQ<|RG<|rw_slice0 Z tyM_S_impl_Stream OwStream<|fun v1 how1=>AS Z Z<|ND<|SQ<|SQ<|RG<|MV Z Z<|rw_len Z tyE_S_impl_Stream Z<|MV Z Z<|ND<|BK<|?_
 refine gw_loopX (α:=Nat × Value × List Ck) (fun z_=>z_.1 ≤ l.length ∧ OwA 46 39 OwStream z_.2.1 (l.take z_.1) z_.2.2) (fun z_=>l.length - z_.1) (fun e z_=>(9,.int .i64 (z_.1 : Int)) :: (3,z_.2.1) :: e) (fun B _=>B) (fun F z_=>z_.2.2 ++ ([])) (0,v1,[]) [(2,_),(7,_),(8,_)] (Sub.consE Z Z (Sub.consE Z Z (Sub.cons (i:=2) Z (Sub.cons (i:=7) Z (Sub.cons (i:=8) Z (Sub.nil _)))))) Z Z ?_ ?_
 ·exact ⟨Nat.zero_le _,how1⟩
 ·rintro ⟨i,v,ch⟩ hI2 ih2
  dsimp only at hI2
  dsimp only
  obtain ⟨hle,hO⟩:=hI2
  refine SQ<|RG<|rw_lss Z Z Z<|ND<|SQ<|?_
  refine gw_cond Z (fun h1=>?_) (fun h1=>?_)
  ·have hi3:=lt_of_dec h1
   obtain ⟨x4,hx4⟩:=get_of_lt hi3
   have hd4:=drop_cons hx4
   refine SK<|SQ<|BK<|SQ<|RG<|?_
   obtain ⟨cse5_,hRe5_,hq5⟩:=hA.get hx4
   obtain ⟨ve5_0,ve5_1,ve5_2,ve5_3,ve5_4,rfl,ke5_0,ke5_1,ke5_2,ke5_3,ke5_4⟩:=hRe5_
   obtain ⟨Ae5_0,ce5_0,rfl,hAe5_0⟩:=ke5_0
   obtain ⟨Ae5_1,ce5_1,rfl,hAe5_1⟩:=ke5_1
   obtain ⟨Ae5_2,ce5_2,rfl,hAe5_2⟩:=ke5_2
   obtain ⟨Ae5_3,ce5_3,rfl,hAe5_3⟩:=ke5_3
   obtain ⟨Ae5_4,ce5_4,rfl,hAe5_4⟩:=ke5_4
   obtain ⟨hbe5_0,hbe5_1,hbe5_2,hbe5_3,hbe5_4,hbe5_5⟩:=hall x4 (List.mem_of_getElem? hx4)
   refine rw_indexAddr (i) Z tyE_S_impl_Stream Z Z Z (hA.some hi3) hi3<|rw_loadX_s [_,_,_,_,_,_,_,_,_,_,_,_,_,_,_,_,_,_,_,_,_,_,_,_,_,_,_,_,_,_,_,_,_,_,_,_,_,_,_] Z tyS_impl_Stream Z Z (fun w hs=>hq5.lds0 (n:=39) hs Z)<|AL Z tyZ_impl_Stream<|fun b1=>rw_storeN (i:=0) [_,_,_,_,_,_,_,_,_,_,_,_,_,_,_,_,_,_,_,_,_,_,_,_,_,_,_,_,_,_,_,_,_,_,_,_,_,_,_] [_,_,_,_,_,_,_,_,_,_,_,_,_,_,_,_,_,_,_,_,_,_,_,_,_,_,_,_,_,_,_,_,_,_,_,_,_,_,_] [_] tyS_impl_Stream.sz Z Z Z Z Z Z Z Z Z<|?_
   refine ND<|RG<|MV Z Z<|LS (i:=0) [_,_,_,_,_,_,_,_,_,_,_,_,_,_,_,_,_,_,_,_,_,_,_,_,_,_,_,_,_,_,_,_,_,_,_,_,_,_,_] Z tyS_impl_Stream Z Z Z Z<|CN1 Z fun_impl_copyStream Z (fun w hs=>impl_copyStream ⟨_,_,_,_,_,Z,(hAe5_0.s Pl.keeps hs),(hAe5_1.s Pl.keeps hs),(hAe5_2.s Pl.keeps hs),(hAe5_3.s Pl.keeps hs),(hAe5_4.s Pl.keeps hs)⟩ ⟨hbe5_0,hbe5_1,hbe5_2,hbe5_3,hbe5_4,hbe5_5⟩)<|fun vv6 ch6 how6=>?_
   obtain ⟨cs6,rfl,v6_0,v6_1,v6_2,v6_3,v6_4,c6_0,c6_1,c6_2,c6_3,c6_4,rfl,h6_0,h6_1,h6_2,h6_3,h6_4,rfl⟩:=how6
   refine rw_F (F':=c6_0 ++ (c6_1 ++ (c6_2 ++ (c6_3 ++ (c6_4 ++ (ch ++ ([]))))))) (by simp only [aA])<|?_
   obtain ⟨R6_0,b6_0,rfl,hR6_0,hrd6_0⟩:=h6_0.shape eInt
   obtain ⟨R6_1,b6_1,rfl,hR6_1,hrd6_1⟩:=h6_1.shape eRange
   obtain ⟨R6_2,b6_2,rfl,hR6_2,hrd6_2⟩:=h6_2.shape eRange
   obtain ⟨R6_3,b6_3,rfl,hR6_3,hrd6_3⟩:=h6_3.shape eRange
   obtain ⟨R6_4,b6_4,rfl,hR6_4,hrd6_4⟩:=h6_4.shape eChunk
   refine rw_slice (xs:=[(0,_)]) [_,_,_,_,_,_,_,_,_,_,_,_,_,_,_,_,_,_,_,_,_,_,_,_,_,_,_,_,_,_,_,_,_,_,_,_,_,_,_] Z tyM_S_impl_Stream Z Z Z Z<|fun b2=>?_
   have hpm8 : (c6_0 ++ (c6_1 ++ (c6_2 ++ (c6_3 ++ (c6_4 ++ (ch ++ ([]))))))).Perm (ch ++ ((c6_0 ++ (c6_1 ++ (c6_2 ++ (c6_3 ++ (c6_4))))) ++ ([]))):=by
    refine List.Perm.trans ((pg (pp (pp (pp (pp (pp PR))))) (pg PR (pg PR (pg PR (pg PR (pg PR PR)))))) : (c6_0 ++ (c6_1 ++ (c6_2 ++ (c6_3 ++ (c6_4 ++ (ch ++ ([]))))))).Perm (ch ++ (c6_0 ++ (c6_1 ++ (c6_2 ++ (c6_3 ++ (c6_4 ++ ([])))))))) (List.Perm.of_eq ?_)
    simp only [List.append_assoc]
   refine rw_append1 (i:=0) (a:=x4) (ch2:=c6_0 ++ (c6_1 ++ (c6_2 ++ (c6_3 ++ (c6_4))))) (F2:=[]) Z tyM_S_impl_Stream eStream Z Z Z hO ⟨_,_,_,_,_,_,_,_,_,_,Z,h6_0,h6_1,h6_2,h6_3,h6_4,Z⟩ hpm8 (by simp only [List.length_take]; omega)<|fun v7 ch7 how7=>AS Z Z<|ND<|IB<|RG<|rw_add Z Z Z<|MV Z Z<|ND<|gw_dropN 2<|?_
   refine gw_sub (Sub.consE (i:=9) Z (int_succ (by omega)) (Sub.consE (i:=3) Z Z (Sub.cons (i:=2) Z (Sub.cons (i:=7) Z (Sub.cons (i:=8) Z (Sub.nil _)))))) (ih2 (i + 1,v7,ch7) ?_ ?_)
   ·exact ⟨by omega,by rw [take_snoc hx4]; exact how7⟩
   ·show l.length - (i + 1) < l.length - i; omega
  have hn9:=nil_of_dec h1
  refine EX Z<|SQ<|RG<|MV Z Z<|AS Z Z<|ND<|?_
  refine ret_cn ch Tryz.func95 (res1 Tryz.func95 Z (rv_tmp Z)) ?_ ?_
  ·rw [take_all hn9] at hO; exact hO
  ·simp
set_option maxHeartbeats 4000000 in
set_option maxRecDepth 20000 in
theorem impl_PutStream_T {w : World} {v : Value} {l : List Stream} (hv : RdS w 39 RdStream v l) (hb : l.length ≤ 1048576) (hall : ∀ x ∈ l, x.le 1048576) {cs : List Value} {x : Stream} (hvx : RdStream w cs x) (hbx : x.le 1048576) {n : Nat} {y : Stream} (hf : findStream l x.id = (n : Int)) (hs_ : l[n]? = some y) : CN Tryz.prog 28 [v, .agg cs.toArray] w (fun v ch => OwS 46 39 OwStream v (l.set n x) ch) := by
 obtain ⟨A,c,rfl,hA⟩:=hv
 obtain ⟨vx_0,vx_1,vx_2,vx_3,vx_4,rfl,kx_0,kx_1,kx_2,kx_3,kx_4⟩:=hvx
 obtain ⟨Ax_0,cx_0,rfl,hAx_0⟩:=kx_0
 obtain ⟨Ax_1,cx_1,rfl,hAx_1⟩:=kx_1
 obtain ⟨Ax_2,cx_2,rfl,hAx_2⟩:=kx_2
 obtain ⟨Ax_3,cx_3,rfl,hAx_3⟩:=kx_3
 obtain ⟨Ax_4,cx_4,rfl,hAx_4⟩:=kx_4
 obtain ⟨hbx_0,hbx_1,hbx_2,hbx_3,hbx_4,hbx_5⟩:=hbx
 refine cn_of Tryz.func28 Z Z Z<|SQ<|RG<|BX [_,_,_,_,_,_,_,_,_,_,_,_,_,_,_,_,_,_,_,_,_,_,_,_,_,_,_,_,_,_,_,_,_,_,_,_,_,_,_] Z Z Z<|fun b1=>AS Z Z<|ND<|SQ<|RG<|MV Z Z<|CN1 Z fun_impl_copyStreams Z (fun w hs=>impl_copyStreams_A (hA.s RdStream.keeps hs) hb hall)<|fun v1 ch1 how1=>?_
 obtain ⟨R1,rc1,rfl,hR1,hrd1⟩:=(OwA.s how1).shape eStream
 refine AS Z Z<|ND<|SQ<|SQ<|RG<|MV Z Z<|FA Z tyF_impl_Stream_0 Z<|LD (i:=0) Z tyP_int Z Z Z<|CV1 Z fun_impl_FindStream Z (fun w hs=>impl_FindStream (hA.s RdStream.keeps hs) hb _)<|AS Z Z<|ND<|SQ<|RG<|MV Z Z<|rw_geq Z Z Z<|ND<|CT Z (at_pos hf)<|SQ<|RG<|MV Z Z<|MV Z Z<|LS (i:=0) [_,_,_,_,_,_,_,_,_,_,_,_,_,_,_,_,_,_,_,_,_,_,_,_,_,_,_,_,_,_,_,_,_,_,_,_,_,_,_] Z tyS_impl_Stream Z Z Z Z<|?_
 refine CN1 Z fun_impl_copyStream Z (fun w hs=>impl_copyStream ⟨_,_,_,_,_,Z,(hAx_0.s Pl.keeps hs),(hAx_1.s Pl.keeps hs),(hAx_2.s Pl.keeps hs),(hAx_3.s Pl.keeps hs),(hAx_4.s Pl.keeps hs)⟩ ⟨hbx_0,hbx_1,hbx_2,hbx_3,hbx_4,hbx_5⟩)<|fun vv2 ch2 how2=>?_
 obtain ⟨cs2,rfl,v2_0,v2_1,v2_2,v2_3,v2_4,c2_0,c2_1,c2_2,c2_3,c2_4,rfl,h2_0,h2_1,h2_2,h2_3,h2_4,rfl⟩:=how2
 refine rw_F (F':=c2_0 ++ (c2_1 ++ (c2_2 ++ (c2_3 ++ (c2_4 ++ (ch1 ++ ([]))))))) (by simp only [aA])<|?_
 obtain ⟨R2_0,b2_0,rfl,hR2_0,hrd2_0⟩:=h2_0.shape eInt
 obtain ⟨R2_1,b2_1,rfl,hR2_1,hrd2_1⟩:=h2_1.shape eRange
 obtain ⟨R2_2,b2_2,rfl,hR2_2,hrd2_2⟩:=h2_2.shape eRange
 obtain ⟨R2_3,b2_3,rfl,hR2_3,hrd2_3⟩:=h2_3.shape eRange
 obtain ⟨R2_4,b2_4,rfl,hR2_4,hrd2_4⟩:=h2_4.shape eChunk
 obtain ⟨g_,pre,rs,c1,mm,c2,h1,cy,h2,rfl,hnn,hO1,hmm,hO2,hch,g1,g2,g3⟩:=((OwA.s how1)).openAt hs_
 subst hch
 refine rw_perm (B':=_) (F':=(⟨g_,46,pre ++ ((c1 ++ (mm ++ c2)) ++ rs)⟩ :: (h1 ++ (cy ++ h2))) ++ (c2_0 ++ (c2_1 ++ (c2_2 ++ (c2_3 ++ (c2_4 ++ ([]))))))) (List.Perm.append_left _ (pg (pp (pp (pp (pp (pp PR))))) PR))<|rw_perm take_blk<|rw_F (F':=h1 ++ (cy ++ (h2 ++ (c2_0 ++ (c2_1 ++ (c2_2 ++ (c2_3 ++ (c2_4 ++ ([]))))))))) (by simp only [aA])<|?_
 have hl1 : c1.length = n * 39:=by rw [hO1.length eStream,List.length_take]; have:=(List.getElem?_eq_some_iff.1 hs_).1; congr 1; omega
 have hlm : mm.length = 39:=eStream.len hmm
 refine rw_indexAddrO (n) Z tyE_S_impl_Stream Z Z hf (by have:=(List.getElem?_eq_some_iff.1 hs_).1; omega)<|rw_storeX (i:=0) [_,_,_,_,_,_,_,_,_,_,_,_,_,_,_,_,_,_,_,_,_,_,_,_,_,_,_,_,_,_,_,_,_,_,_,_,_,_,_] (pre ++ ((c1 ++ ([_,_,_,_,_,_,_,_,_,_,_,_,_,_,_,_,_,_,_,_,_,_,_,_,_,_,_,_,_,_,_,_,_,_,_,_,_,_,_] ++ c2)) ++ rs)) tyS_impl_Stream.sz Z Z Z Z Z (by simp only [List.length_append]; omega) (fun u hu=>List.all_eq_true.1 (by rfl) u hu) (splice_el (by omega) (by rw [hlm]; rfl))<|ND<|SQ<|RG<|?_
 refine MV Z Z<|AS Z Z<|ND<|?_
 refine gw_FP (pg PR (pg (pp (pp PR)) (pg (pp (pp PR)) (pg (pp (pp PR)) (pg (pp (pp PR)) (pg (pp (pp PR)) (pg (pp PR) PR))))))) (gw_F (F':=(h1 ++ ((c2_0 ++ (c2_1 ++ (c2_2 ++ (c2_3 ++ (c2_4))))) ++ h2)) ++ (cy ++ ([]))) (by simp only [aA]) ?_)
 refine ret_cn (⟨g_,46,pre ++ ((c1 ++ (Stream.row x (.slice R2_0 x.send.ring.cells.length b2_0) (.slice R2_1 x.send.pending.length b2_1) (.slice R2_2 x.send.flight.length b2_2) (.slice R2_3 x.send.acked.length b2_3) (.slice R2_4 x.recv.buffer.chunks.length b2_4) ++ c2)) ++ rs)⟩ :: (h1 ++ ((c2_0 ++ (c2_1 ++ (c2_2 ++ (c2_3 ++ (c2_4))))) ++ h2))) Tryz.func28 (res1 Tryz.func28 Z (rv_tmp Z)) ?_ ?_
 ·rw [set_split hs_]
  refine OwS.closeG (hO1.append (.cons ⟨_,_,_,_,_,_,_,_,_,_,Z,h2_0,h2_1,h2_2,h2_3,h2_4,Z⟩ hO2)) ?_ g1 g2 ?_
  ·rw [List.length_append,List.length_cons,List.length_take,List.length_drop]; have:=(List.getElem?_eq_some_iff.1 hs_).1; omega
  ·rw [← g3]; simp only [List.length_append,hlm]; rfl
 ·exact List.Sublist.cons_cons _ ((List.sublist_append_left _ _).trans (List.sublist_append_right _ _))
set_option maxHeartbeats 4000000 in
set_option maxRecDepth 20000 in
theorem impl_PutStream_F1 {w : World} {v : Value} {l : List Stream} (hv : RdS w 39 RdStream v l) (hb : l.length ≤ 1048576) (hall : ∀ x ∈ l, x.le 1048576) {cs : List Value} {x : Stream} (hvx : RdStream w cs x) (hbx : x.le 1048576) (hf : findStream l x.id = -1) (hg : gtFrom x.id 0 l = -1) (hk : leHead x.id l = l.length) : CN Tryz.prog 28 [v, .agg cs.toArray] w (fun v ch => OwS 46 39 OwStream v (insGo x false l) ch) := by
 obtain ⟨A,c,rfl,hA⟩:=hv
 obtain ⟨vx_0,vx_1,vx_2,vx_3,vx_4,rfl,kx_0,kx_1,kx_2,kx_3,kx_4⟩:=hvx
 obtain ⟨Ax_0,cx_0,rfl,hAx_0⟩:=kx_0
 obtain ⟨Ax_1,cx_1,rfl,hAx_1⟩:=kx_1
 obtain ⟨Ax_2,cx_2,rfl,hAx_2⟩:=kx_2
 obtain ⟨Ax_3,cx_3,rfl,hAx_3⟩:=kx_3
 obtain ⟨Ax_4,cx_4,rfl,hAx_4⟩:=kx_4
 obtain ⟨hbx_0,hbx_1,hbx_2,hbx_3,hbx_4,hbx_5⟩:=hbx
 refine cn_of Tryz.func28 Z Z Z<|SQ<|RG<|BX [_,_,_,_,_,_,_,_,_,_,_,_,_,_,_,_,_,_,_,_,_,_,_,_,_,_,_,_,_,_,_,_,_,_,_,_,_,_,_] Z Z Z<|fun b1=>AS Z Z<|ND<|SQ<|RG<|MV Z Z<|CN1 Z fun_impl_copyStreams Z (fun w hs=>impl_copyStreams_A (hA.s RdStream.keeps hs) hb hall)<|fun v1 ch1 how1=>?_
 obtain ⟨R1,rc1,rfl,hR1,hrd1⟩:=(OwA.s how1).shape eStream
 refine AS Z Z<|ND<|SQ<|SQ<|RG<|MV Z Z<|FA Z tyF_impl_Stream_0 Z<|LD (i:=0) Z tyP_int Z Z Z<|CV1 Z fun_impl_FindStream Z (fun w hs=>impl_FindStream (hA.s RdStream.keeps hs) hb _)<|AS Z Z<|ND<|SQ<|RG<|MV Z Z<|rw_geq Z Z Z<|ND<|CF Z (at_neg hf)<|SK<|SQ<|RG<|MV Z Z<|rw_makeFunc Z Z<|CV1 Z fun_slices_IndexFunc_S_impl_Stream_impl_Stream Z (fun w hs=>slices_IndexFunc_gt (hA.s RdStream.keeps hs) hb (Ck.In.at0 (c:=⟨b1,_,.int .i64 x.id :: [_,_,_,_,_,_,_,_,_,_,_,_,_,_,_,_,_,_,_,_,_,_,_,_,_,_,_,_,_,_,_,_,_,_,_,_,_,_]⟩) (hs.at_ _ (ML (List.mem_of_getElem? (i:=0) Z)))))<|?_
 refine AS Z Z<|ND<|SQ<|SQ<|RG<|MV Z Z<|rw_lss Z Z Z<|ND<|CT Z (by rw [hg]; rfl)<|RG<|MV Z Z<|rw_len Z tyE_S_impl_Stream Z<|AS Z Z<|ND<|SQ<|RG<|MV Z Z<|MV Z Z<|LS (i:=0) [_,_,_,_,_,_,_,_,_,_,_,_,_,_,_,_,_,_,_,_,_,_,_,_,_,_,_,_,_,_,_,_,_,_,_,_,_,_,_] Z tyS_impl_Stream Z Z Z Z<|CN1 Z fun_impl_copyStream Z (fun w hs=>impl_copyStream ⟨_,_,_,_,_,Z,(hAx_0.s Pl.keeps hs),(hAx_1.s Pl.keeps hs),(hAx_2.s Pl.keeps hs),(hAx_3.s Pl.keeps hs),(hAx_4.s Pl.keeps hs)⟩ ⟨hbx_0,hbx_1,hbx_2,hbx_3,hbx_4,hbx_5⟩)<|fun vv2 ch2 how2=>?_
 obtain ⟨cs2,rfl,v2_0,v2_1,v2_2,v2_3,v2_4,c2_0,c2_1,c2_2,c2_3,c2_4,rfl,h2_0,h2_1,h2_2,h2_3,h2_4,rfl⟩:=how2
 refine rw_F (F':=c2_0 ++ (c2_1 ++ (c2_2 ++ (c2_3 ++ (c2_4 ++ (ch1 ++ ([]))))))) (by simp only [aA])<|?_
 obtain ⟨R2_0,b2_0,rfl,hR2_0,hrd2_0⟩:=h2_0.shape eInt
 obtain ⟨R2_1,b2_1,rfl,hR2_1,hrd2_1⟩:=h2_1.shape eRange
 obtain ⟨R2_2,b2_2,rfl,hR2_2,hrd2_2⟩:=h2_2.shape eRange
 obtain ⟨R2_3,b2_3,rfl,hR2_3,hrd2_3⟩:=h2_3.shape eRange
 obtain ⟨R2_4,b2_4,rfl,hR2_4,hrd2_4⟩:=h2_4.shape eChunk
 refine rw_slice1F (xs:=[(0,_)]) [_,_,_,_,_,_,_,_,_,_,_,_,_,_,_,_,_,_,_,_,_,_,_,_,_,_,_,_,_,_,_,_,_,_,_,_,_,_,_] Z tyM_S_impl_Stream Z Z Z<|fun v3 ch3 how3=>?_
 obtain ⟨bl3,rfl,hch3⟩:=how3
 have hpm4 : (ch3 ++ (c2_0 ++ (c2_1 ++ (c2_2 ++ (c2_3 ++ (c2_4 ++ (ch1 ++ ([])))))))).Perm ((ch3 ++ (ch1 ++ (c2_0 ++ (c2_1 ++ (c2_2 ++ (c2_3 ++ (c2_4))))))) ++ ([])):=by
  refine List.Perm.trans ((pg PR (pg (pp (pp (pp (pp (pp PR))))) (pg PR (pg PR (pg PR (pg PR (pg PR PR))))))) : (ch3 ++ (c2_0 ++ (c2_1 ++ (c2_2 ++ (c2_3 ++ (c2_4 ++ (ch1 ++ ([])))))))).Perm (ch3 ++ (ch1 ++ (c2_0 ++ (c2_1 ++ (c2_2 ++ (c2_3 ++ (c2_4 ++ ([]))))))))) (List.Perm.of_eq ?_)
  simp only [List.append_assoc]
 refine rw_ch (G:=ch3 ++ (ch1 ++ (c2_0 ++ (c2_1 ++ (c2_2 ++ (c2_3 ++ (c2_4))))))) (R:=[]) Z fun_slices_Insert_S_impl_Stream_impl_Stream (Z) hpm4 (fun w hs hin hnd=>slices_Insert (i:=l.length) (x:=x) how1 ⟨_,_,_,_,_,_,_,_,_,_,Z,h2_0,h2_1,h2_2,h2_3,h2_4,Z⟩ hch3 (Nat.le_refl _) hb hin hnd)<|fun vi chi howi=>AS Z Z<|ND<|?_
 refine ret_cn chi Tryz.func28 (res1 Tryz.func28 Z (rv_tmp Z)) ?_ ?_
 ·refine OwA.s ?_
  rw [← put_end x l hk]; rw [List.take_length,List.drop_length] at howi
  exact howi
 ·exact (List.sublist_append_left _ _).trans (List.sublist_append_right _ _)
set_option maxHeartbeats 4000000 in
set_option maxRecDepth 20000 in
theorem impl_PutStream_F2 {w : World} {v : Value} {l : List Stream} (hv : RdS w 39 RdStream v l) (hb : l.length ≤ 1048576) (hall : ∀ x ∈ l, x.le 1048576) {cs : List Value} {x : Stream} (hvx : RdStream w cs x) (hbx : x.le 1048576) (hf : findStream l x.id = -1) (hg : gtFrom x.id 0 l = (leHead x.id l : Int)) : CN Tryz.prog 28 [v, .agg cs.toArray] w (fun v ch => OwS 46 39 OwStream v (insGo x false l) ch) := by
 obtain ⟨A,c,rfl,hA⟩:=hv
 obtain ⟨vx_0,vx_1,vx_2,vx_3,vx_4,rfl,kx_0,kx_1,kx_2,kx_3,kx_4⟩:=hvx
 obtain ⟨Ax_0,cx_0,rfl,hAx_0⟩:=kx_0
 obtain ⟨Ax_1,cx_1,rfl,hAx_1⟩:=kx_1
 obtain ⟨Ax_2,cx_2,rfl,hAx_2⟩:=kx_2
 obtain ⟨Ax_3,cx_3,rfl,hAx_3⟩:=kx_3
 obtain ⟨Ax_4,cx_4,rfl,hAx_4⟩:=kx_4
 obtain ⟨hbx_0,hbx_1,hbx_2,hbx_3,hbx_4,hbx_5⟩:=hbx
 refine cn_of Tryz.func28 Z Z Z<|SQ<|RG<|BX [_,_,_,_,_,_,_,_,_,_,_,_,_,_,_,_,_,_,_,_,_,_,_,_,_,_,_,_,_,_,_,_,_,_,_,_,_,_,_] Z Z Z<|fun b1=>AS Z Z<|ND<|SQ<|RG<|MV Z Z<|CN1 Z fun_impl_copyStreams Z (fun w hs=>impl_copyStreams_A (hA.s RdStream.keeps hs) hb hall)<|fun v1 ch1 how1=>?_
 obtain ⟨R1,rc1,rfl,hR1,hrd1⟩:=(OwA.s how1).shape eStream
 refine AS Z Z<|ND<|SQ<|SQ<|RG<|MV Z Z<|FA Z tyF_impl_Stream_0 Z<|LD (i:=0) Z tyP_int Z Z Z<|CV1 Z fun_impl_FindStream Z (fun w hs=>impl_FindStream (hA.s RdStream.keeps hs) hb _)<|AS Z Z<|ND<|SQ<|RG<|MV Z Z<|rw_geq Z Z Z<|ND<|CF Z (at_neg hf)<|SK<|SQ<|RG<|MV Z Z<|rw_makeFunc Z Z<|CV1 Z fun_slices_IndexFunc_S_impl_Stream_impl_Stream Z (fun w hs=>slices_IndexFunc_gt (hA.s RdStream.keeps hs) hb (Ck.In.at0 (c:=⟨b1,_,.int .i64 x.id :: [_,_,_,_,_,_,_,_,_,_,_,_,_,_,_,_,_,_,_,_,_,_,_,_,_,_,_,_,_,_,_,_,_,_,_,_,_,_]⟩) (hs.at_ _ (ML (List.mem_of_getElem? (i:=0) Z)))))<|?_
 refine AS Z Z<|ND<|SQ<|SQ<|RG<|MV Z Z<|rw_lss Z Z Z<|ND<|CF Z (by rw [hg]; simp)<|SK<|SQ<|RG<|MV Z Z<|MV Z Z<|LS (i:=0) [_,_,_,_,_,_,_,_,_,_,_,_,_,_,_,_,_,_,_,_,_,_,_,_,_,_,_,_,_,_,_,_,_,_,_,_,_,_,_] Z tyS_impl_Stream Z Z Z Z<|CN1 Z fun_impl_copyStream Z (fun w hs=>impl_copyStream ⟨_,_,_,_,_,Z,(hAx_0.s Pl.keeps hs),(hAx_1.s Pl.keeps hs),(hAx_2.s Pl.keeps hs),(hAx_3.s Pl.keeps hs),(hAx_4.s Pl.keeps hs)⟩ ⟨hbx_0,hbx_1,hbx_2,hbx_3,hbx_4,hbx_5⟩)<|fun vv2 ch2 how2=>?_
 obtain ⟨cs2,rfl,v2_0,v2_1,v2_2,v2_3,v2_4,c2_0,c2_1,c2_2,c2_3,c2_4,rfl,h2_0,h2_1,h2_2,h2_3,h2_4,rfl⟩:=how2
 refine rw_F (F':=c2_0 ++ (c2_1 ++ (c2_2 ++ (c2_3 ++ (c2_4 ++ (ch1 ++ ([]))))))) (by simp only [aA])<|?_
 obtain ⟨R2_0,b2_0,rfl,hR2_0,hrd2_0⟩:=h2_0.shape eInt
 obtain ⟨R2_1,b2_1,rfl,hR2_1,hrd2_1⟩:=h2_1.shape eRange
 obtain ⟨R2_2,b2_2,rfl,hR2_2,hrd2_2⟩:=h2_2.shape eRange
 obtain ⟨R2_3,b2_3,rfl,hR2_3,hrd2_3⟩:=h2_3.shape eRange
 obtain ⟨R2_4,b2_4,rfl,hR2_4,hrd2_4⟩:=h2_4.shape eChunk
 refine rw_slice1F (xs:=[(0,_)]) [_,_,_,_,_,_,_,_,_,_,_,_,_,_,_,_,_,_,_,_,_,_,_,_,_,_,_,_,_,_,_,_,_,_,_,_,_,_,_] Z tyM_S_impl_Stream Z Z Z<|fun v3 ch3 how3=>?_
 obtain ⟨bl3,rfl,hch3⟩:=how3
 have hpm4 : (ch3 ++ (c2_0 ++ (c2_1 ++ (c2_2 ++ (c2_3 ++ (c2_4 ++ (ch1 ++ ([])))))))).Perm ((ch3 ++ (ch1 ++ (c2_0 ++ (c2_1 ++ (c2_2 ++ (c2_3 ++ (c2_4))))))) ++ ([])):=by
  refine List.Perm.trans ((pg PR (pg (pp (pp (pp (pp (pp PR))))) (pg PR (pg PR (pg PR (pg PR (pg PR PR))))))) : (ch3 ++ (c2_0 ++ (c2_1 ++ (c2_2 ++ (c2_3 ++ (c2_4 ++ (ch1 ++ ([])))))))).Perm (ch3 ++ (ch1 ++ (c2_0 ++ (c2_1 ++ (c2_2 ++ (c2_3 ++ (c2_4 ++ ([]))))))))) (List.Perm.of_eq ?_)
  simp only [List.append_assoc]
 refine rw_ch (G:=ch3 ++ (ch1 ++ (c2_0 ++ (c2_1 ++ (c2_2 ++ (c2_3 ++ (c2_4))))))) (R:=[]) Z fun_slices_Insert_S_impl_Stream_impl_Stream ((by rw [← hg]; rfl)) hpm4 (fun w hs hin hnd=>slices_Insert (i:=(leHead x.id l)) (x:=x) how1 ⟨_,_,_,_,_,_,_,_,_,_,Z,h2_0,h2_1,h2_2,h2_3,h2_4,Z⟩ hch3 (leHead_le _ _) hb hin hnd)<|fun vi chi howi=>AS Z Z<|ND<|?_
 refine ret_cn chi Tryz.func28 (res1 Tryz.func28 Z (rv_tmp Z)) ?_ ?_
 ·refine OwA.s ?_
  rw [ins_eq]
  exact howi
 ·exact (List.sublist_append_left _ _).trans (List.sublist_append_right _ _)
theorem impl_PutStream_F {w : World} {v : Value} {l : List Stream} (hv : RdS w 39 RdStream v l) (hb : l.length ≤ 1048576) (hall : ∀ x ∈ l, x.le 1048576) {cs : List Value} {x : Stream} (hvx : RdStream w cs x) (hbx : x.le 1048576) (hf : findStream l x.id = -1) : CN Tryz.prog 28 [v, .agg cs.toArray] w (fun v ch => OwS 46 39 OwStream v (insGo x false l) ch) := by
 rcases gt_cases x.id l with ⟨h1,h2⟩ | h1
 ·exact impl_PutStream_F1 hv hb hall hvx hbx hf h1 h2
 ·exact impl_PutStream_F2 hv hb hall hvx hbx hf h1
theorem spec_FindStream {w : World} {v : Value} {l : List Stream} (hv : RdS w 39 RdStream v l) (hb : l.length ≤ 1048576) (id : Int) : CV Tryz.prog 46 [v, .int .i64 id] w (.int .i64 (findStream l id)) := by
 obtain ⟨A,c,rfl,hA⟩:=hv
 refine cv_of Tryz.func46 Z Z Z<|SQ<|RG<|AS Z Z<|ND<|SQ<|SQ<|RG<|AS Z Z<|ND<|BK<|?_
 refine gw_loopC (α:=Nat) (fun z_=>z_ ≤ l.length ∧ findStream l id = findFrom id z_ (l.drop z_)) (fun z_=>l.length - z_) (fun e z_=>(5,.int .i64 (z_ : Int)) :: e) 0 [(0,_),(1,_)] (Sub.consE Z Z (Sub.cons (i:=0) Z (Sub.cons (i:=1) Z (Sub.nil _)))) ?_ ?_
 ·exact ⟨Nat.zero_le _,rfl⟩
 ·rintro i hI1 ih1
  try dsimp only
  obtain ⟨hle,hI⟩:=hI1
  refine SQ<|SQ<|RG<|MV Z Z<|MV Z Z<|rw_len Z tyE_S_impl_Stream Z<|rw_lss Z Z Z<|ND<|?_
  refine gw_cond Z (fun h1=>?_) (fun h1=>?_)
  ·have hi2:=lt_of_dec h1
   obtain ⟨x3,hx3⟩:=get_of_lt hi2
   have hd3:=drop_cons hx3
   refine SK<|SQ<|BK<|SQ<|RG<|MV Z Z<|MV Z Z<|?_
   obtain ⟨cse4_,hRe4_,hq4⟩:=hA.get hx3
   obtain ⟨ve4_0,ve4_1,ve4_2,ve4_3,ve4_4,rfl,ke4_0,ke4_1,ke4_2,ke4_3,ke4_4⟩:=hRe4_
   obtain ⟨Ae4_0,ce4_0,rfl,hAe4_0⟩:=ke4_0
   obtain ⟨Ae4_1,ce4_1,rfl,hAe4_1⟩:=ke4_1
   obtain ⟨Ae4_2,ce4_2,rfl,hAe4_2⟩:=ke4_2
   obtain ⟨Ae4_3,ce4_3,rfl,hAe4_3⟩:=ke4_3
   obtain ⟨Ae4_4,ce4_4,rfl,hAe4_4⟩:=ke4_4
   refine rw_indexAddr (i) Z tyE_S_impl_Stream Z Z Z (hA.some hi2) hi2<|FX Z tyF_impl_Stream_0 Z<|rw_loadX _ Z tyP_int Z (fun w hs=>hq4.ld hs Z)<|MV Z Z<|EQ1 Z Z Z<|ND<|?_
   refine gw_cond Z (fun h2=>?_) (fun h2=>?_)
   ·refine SQ<|RG<|MV Z Z<|AS Z Z<|ND<|RT Tryz.func46 Z Z<|?_
    rw [hI,hd3]; simp [findFrom,h2]
   refine SK<|IB<|RG<|MV Z Z<|rw_add Z Z Z<|AS Z Z<|ND<|?_
   refine gw_sub (Sub.consE (i:=5) Z (int_succ (by omega)) (Sub.cons (i:=0) Z (Sub.cons (i:=1) Z (Sub.nil _)))) (ih1 (i + 1) ?_ ?_)
   ·exact ⟨by omega,by rw [hI,hd3]; simp [findFrom,h2]⟩
   ·show l.length - (i + 1) < l.length - i; omega
  have hn5:=nil_of_dec h1
  refine EX Z<|SQ<|RG<|AS Z Z<|ND<|RT Tryz.func46 Z Z<|?_
  rw [hI,hn5]; rfl
theorem drop_set_nil {l : List Stream} {n i : Nat} {x : Stream} (h : l.drop i = []) : (l.set n x).drop i = [] := by
 rw [List.drop_eq_nil_iff] at h ⊢
 rw [List.length_set]; exact h
theorem ne_neg {i : Nat} {a : Int} (h : a = -1) : ((i : Int) == a) = false := by rw [h, beq_eq_false_iff_ne]; omega
set_option maxHeartbeats 4000000 in
set_option maxRecDepth 20000 in
theorem spec_PutStream_T {w : World} {v : Value} {l : List Stream} (hv : RdS w 39 RdStream v l) (hb : l.length ≤ 1048576) (hall : ∀ x ∈ l, x.le 1048576) {cs : List Value} {x : Stream} (hvx : RdStream w cs x) (hbx : x.le 1048576) {n : Nat} {y : Stream} (hf : findStream l x.id = (n : Int)) (hs_ : l[n]? = some y) : CN Tryz.prog 29 [v, .agg cs.toArray] w (fun v ch => OwA 46 39 OwStream v (l.set n x) ch) := by
 obtain ⟨A,c,rfl,hA⟩:=hv
 obtain ⟨vx_0,vx_1,vx_2,vx_3,vx_4,rfl,kx_0,kx_1,kx_2,kx_3,kx_4⟩:=hvx
 obtain ⟨Ax_0,cx_0,rfl,hAx_0⟩:=kx_0
 obtain ⟨Ax_1,cx_1,rfl,hAx_1⟩:=kx_1
 obtain ⟨Ax_2,cx_2,rfl,hAx_2⟩:=kx_2
 obtain ⟨Ax_3,cx_3,rfl,hAx_3⟩:=kx_3
 obtain ⟨Ax_4,cx_4,rfl,hAx_4⟩:=kx_4
 obtain ⟨hbx_0,hbx_1,hbx_2,hbx_3,hbx_4,hbx_5⟩:=hbx
 refine cn_of Tryz.func29 Z Z Z<|SQ<|RG<|BX [_,_,_,_,_,_,_,_,_,_,_,_,_,_,_,_,_,_,_,_,_,_,_,_,_,_,_,_,_,_,_,_,_,_,_,_,_,_,_] Z Z Z<|fun b1=>AS Z Z<|ND<|SQ<|RG<|rw_slice0 Z tyM_S_impl_Stream OwStream<|fun v1 how1=>AS Z Z<|ND<|SQ<|RG<|MV Z Z<|FA Z tyF_impl_Stream_0 Z<|LD (i:=0) Z tyP_int Z Z Z<|CV1 Z fun_spec_FindStream Z (fun w hs=>spec_FindStream (hA.s RdStream.keeps hs) hb _)<|AS Z Z<|?_
 refine ND<|SQ<|RG<|MV Z Z<|rw_geq Z Z Z<|AS Z Z<|ND<|SQ<|SQ<|RG<|AS Z Z<|ND<|BK<|?_
 refine gw_loopX (α:=Nat × Value × List Ck) (fun z_=>z_.1 ≤ l.length ∧ OwA 46 39 OwStream z_.2.1 ((l.set n x).take z_.1) z_.2.2) (fun z_=>l.length - z_.1) (fun e z_=>(8,.int .i64 (z_.1 : Int)) :: (5,z_.2.1) :: e) (fun B _=>B) (fun F z_=>z_.2.2 ++ ([])) (0,v1,[]) [(0,_),(3,_),(4,_),(6,_),(7,_)] (Sub.consE Z Z (Sub.consE Z Z (Sub.cons (i:=0) Z (Sub.cons (i:=3) Z (Sub.cons (i:=4) Z (Sub.cons (i:=6) Z (Sub.cons (i:=7) Z (Sub.nil _)))))))) Z Z ?_ ?_
 ·exact ⟨Nat.zero_le _,how1⟩
 ·rintro ⟨i,v,ch⟩ hI2 ih2
  dsimp only at hI2
  dsimp only
  obtain ⟨hle,hO⟩:=hI2
  refine SQ<|SQ<|RG<|MV Z Z<|MV Z Z<|rw_len Z tyE_S_impl_Stream Z<|rw_lss Z Z Z<|ND<|?_
  refine gw_cond Z (fun h1=>?_) (fun h1=>?_)
  ·have hi3:=lt_of_dec h1
   obtain ⟨x4,hx4⟩:=get_of_lt hi3
   have hd4:=drop_cons hx4
   refine SK<|SQ<|BK<|SQ<|RG<|MV Z Z<|MV Z Z<|?_
   obtain ⟨cse5_,hRe5_,hq5⟩:=hA.get hx4
   obtain ⟨ve5_0,ve5_1,ve5_2,ve5_3,ve5_4,rfl,ke5_0,ke5_1,ke5_2,ke5_3,ke5_4⟩:=hRe5_
   obtain ⟨Ae5_0,ce5_0,rfl,hAe5_0⟩:=ke5_0
   obtain ⟨Ae5_1,ce5_1,rfl,hAe5_1⟩:=ke5_1
   obtain ⟨Ae5_2,ce5_2,rfl,hAe5_2⟩:=ke5_2
   obtain ⟨Ae5_3,ce5_3,rfl,hAe5_3⟩:=ke5_3
   obtain ⟨Ae5_4,ce5_4,rfl,hAe5_4⟩:=ke5_4
   obtain ⟨hbe5_0,hbe5_1,hbe5_2,hbe5_3,hbe5_4,hbe5_5⟩:=hall x4 (List.mem_of_getElem? hx4)
   refine rw_indexAddr (i) Z tyE_S_impl_Stream Z Z Z (hA.some hi3) hi3<|rw_loadX_s [_,_,_,_,_,_,_,_,_,_,_,_,_,_,_,_,_,_,_,_,_,_,_,_,_,_,_,_,_,_,_,_,_,_,_,_,_,_,_] Z tyS_impl_Stream Z Z (fun w hs=>hq5.lds0 (n:=39) hs Z)<|CN1 Z fun_spec_l15Copy Z (fun w hs=>spec_l15Copy ⟨_,_,_,_,_,Z,(hAe5_0.s Pl.keeps hs),(hAe5_1.s Pl.keeps hs),(hAe5_2.s Pl.keeps hs),(hAe5_3.s Pl.keeps hs),(hAe5_4.s Pl.keeps hs)⟩ ⟨hbe5_0,hbe5_1,hbe5_2,hbe5_3,hbe5_4,hbe5_5⟩)<|fun vv6 ch6 how6=>?_
   obtain ⟨cs6,rfl,v6_0,v6_1,v6_2,v6_3,v6_4,c6_0,c6_1,c6_2,c6_3,c6_4,rfl,h6_0,h6_1,h6_2,h6_3,h6_4,rfl⟩:=how6
   refine rw_F (F':=c6_0 ++ (c6_1 ++ (c6_2 ++ (c6_3 ++ (c6_4 ++ (ch ++ ([]))))))) (by simp only [aA])<|?_
   obtain ⟨R6_0,b6_0,rfl,hR6_0,hrd6_0⟩:=h6_0.shape eInt
   obtain ⟨R6_1,b6_1,rfl,hR6_1,hrd6_1⟩:=h6_1.shape eRange
   obtain ⟨R6_2,b6_2,rfl,hR6_2,hrd6_2⟩:=h6_2.shape eRange
   obtain ⟨R6_3,b6_3,rfl,hR6_3,hrd6_3⟩:=h6_3.shape eRange
   obtain ⟨R6_4,b6_4,rfl,hR6_4,hrd6_4⟩:=h6_4.shape eChunk
   refine AL Z tyZ_impl_Stream<|fun b2=>rw_storeN (i:=0) [_,_,_,_,_,_,_,_,_,_,_,_,_,_,_,_,_,_,_,_,_,_,_,_,_,_,_,_,_,_,_,_,_,_,_,_,_,_,_] [_,_,_,_,_,_,_,_,_,_,_,_,_,_,_,_,_,_,_,_,_,_,_,_,_,_,_,_,_,_,_,_,_,_,_,_,_,_,_] [_,_] tyS_impl_Stream.sz Z Z Z Z Z Z Z Z Z<|ND<|SQ<|SQ<|RG<|MV Z Z<|MV Z Z<|EQ1 Z Z Z<|ND<|?_
   refine gw_cond Z (fun h2=>?_) (fun h2=>?_)
   ·refine RG<|LS (i:=1) [_,_,_,_,_,_,_,_,_,_,_,_,_,_,_,_,_,_,_,_,_,_,_,_,_,_,_,_,_,_,_,_,_,_,_,_,_,_,_] Z tyS_impl_Stream Z Z Z Z<|CN1 Z fun_spec_l15Copy Z (fun w hs=>spec_l15Copy ⟨_,_,_,_,_,Z,(hAx_0.s Pl.keeps hs),(hAx_1.s Pl.keeps hs),(hAx_2.s Pl.keeps hs),(hAx_3.s Pl.keeps hs),(hAx_4.s Pl.keeps hs)⟩ ⟨hbx_0,hbx_1,hbx_2,hbx_3,hbx_4,hbx_5⟩)<|fun vv7 ch7 how7=>?_
    obtain ⟨cs7,rfl,v7_0,v7_1,v7_2,v7_3,v7_4,c7_0,c7_1,c7_2,c7_3,c7_4,rfl,h7_0,h7_1,h7_2,h7_3,h7_4,rfl⟩:=how7
    refine rw_F (F':=c7_0 ++ (c7_1 ++ (c7_2 ++ (c7_3 ++ (c7_4 ++ (c6_0 ++ (c6_1 ++ (c6_2 ++ (c6_3 ++ (c6_4 ++ (ch ++ ([])))))))))))) (by simp only [aA])<|?_
    obtain ⟨R7_0,b7_0,rfl,hR7_0,hrd7_0⟩:=h7_0.shape eInt
    obtain ⟨R7_1,b7_1,rfl,hR7_1,hrd7_1⟩:=h7_1.shape eRange
    obtain ⟨R7_2,b7_2,rfl,hR7_2,hrd7_2⟩:=h7_2.shape eRange
    obtain ⟨R7_3,b7_3,rfl,hR7_3,hrd7_3⟩:=h7_3.shape eRange
    obtain ⟨R7_4,b7_4,rfl,hR7_4,hrd7_4⟩:=h7_4.shape eChunk
    refine rw_storeN (i:=0) [_,_,_,_,_,_,_,_,_,_,_,_,_,_,_,_,_,_,_,_,_,_,_,_,_,_,_,_,_,_,_,_,_,_,_,_,_,_,_] [_,_,_,_,_,_,_,_,_,_,_,_,_,_,_,_,_,_,_,_,_,_,_,_,_,_,_,_,_,_,_,_,_,_,_,_,_,_,_] [_,_] tyS_impl_Stream.sz Z Z Z Z Z Z Z Z Z<|ND<|RG<|MV Z Z<|LS (i:=0) [_,_,_,_,_,_,_,_,_,_,_,_,_,_,_,_,_,_,_,_,_,_,_,_,_,_,_,_,_,_,_,_,_,_,_,_,_,_,_] Z tyS_impl_Stream Z Z Z Z<|rw_slice1F (xs:=[(0,_)]) [_,_,_,_,_,_,_,_,_,_,_,_,_,_,_,_,_,_,_,_,_,_,_,_,_,_,_,_,_,_,_,_,_,_,_,_,_,_,_] Z tyM_S_impl_Stream Z Z Z<|fun v8 ch8 how8=>?_
    obtain ⟨bl8,rfl,hch8⟩:=how8
    have hpm10 : (ch8 ++ (c7_0 ++ (c7_1 ++ (c7_2 ++ (c7_3 ++ (c7_4 ++ (c6_0 ++ (c6_1 ++ (c6_2 ++ (c6_3 ++ (c6_4 ++ (ch ++ ([]))))))))))))).Perm (ch ++ ((c7_0 ++ (c7_1 ++ (c7_2 ++ (c7_3 ++ (c7_4))))) ++ (ch8 ++ (c6_0 ++ (c6_1 ++ (c6_2 ++ (c6_3 ++ (c6_4 ++ ([]))))))))):=by
     refine List.Perm.trans ((pg (pp (pp (pp (pp (pp (pp (pp (pp (pp (pp (pp PR))))))))))) (pg (pp PR) (pg (pp PR) (pg (pp PR) (pg (pp PR) (pg (pp PR) PR)))))) : (ch8 ++ (c7_0 ++ (c7_1 ++ (c7_2 ++ (c7_3 ++ (c7_4 ++ (c6_0 ++ (c6_1 ++ (c6_2 ++ (c6_3 ++ (c6_4 ++ (ch ++ ([]))))))))))))).Perm (ch ++ (c7_0 ++ (c7_1 ++ (c7_2 ++ (c7_3 ++ (c7_4 ++ (ch8 ++ (c6_0 ++ (c6_1 ++ (c6_2 ++ (c6_3 ++ (c6_4 ++ ([])))))))))))))) (List.Perm.of_eq ?_)
     simp only [List.append_assoc]
    refine rw_append1F (a:=x) (ch2:=c7_0 ++ (c7_1 ++ (c7_2 ++ (c7_3 ++ (c7_4))))) (F2:=ch8 ++ (c6_0 ++ (c6_1 ++ (c6_2 ++ (c6_3 ++ (c6_4 ++ ([]))))))) Z tyM_S_impl_Stream eStream Z Z (mem_ch hch8 (fun c hc=>ML hc)) hO ⟨_,_,_,_,_,_,_,_,_,_,Z,h7_0,h7_1,h7_2,h7_3,h7_4,Z⟩ hpm10 (by first | omega | (simp only [List.length_take,List.length_set]; omega))<|fun v9 ch9 how9=>AS Z Z<|ND<|IB<|RG<|MV Z Z<|rw_add Z Z Z<|AS Z Z<|ND<|?_
    refine gw_dropF (F':=ch9 ++ ([])) (List.Sublist.append_left (List.nil_sublist _) _)<|gw_dropN 1<|?_
    refine gw_sub (Sub.consE (i:=8) Z (int_succ (by omega)) (Sub.consE (i:=5) Z Z (Sub.cons (i:=0) Z (Sub.cons (i:=3) Z (Sub.cons (i:=4) Z (Sub.cons (i:=6) Z (Sub.cons (i:=7) Z (Sub.nil _)))))))) (ih2 (i + 1,v9,ch9) ?_ ?_)
    ·exact ⟨by omega,by rw [take_snoc (set_take' hx4 (by rw [← hf]; exact h2))]; exact how9⟩
    ·show l.length - (i + 1) < l.length - i; omega
   refine SQ<|gw_draw' [dd 0,dd 1,dd 2,dd 3,dd 4,dd 5,dd 6,dd 7,dd 8,dd 9] [10,11] mixed Z (FD Z) (ts:=[_,_]) Z<|DM Z Z Z<|DT Z Z (fun _ q=>NT Z Z q)<|DM Z Z Z<|dw_lit (j:=37) Z (not_T (at_pos hf))<|DSK Z<|dw_nil<|OF Z Z Z Z<|PF Z Z Z Z<|ND<|CF Z Z<|SK<|RG<|MV Z Z<|LS (i:=0) [_,_,_,_,_,_,_,_,_,_,_,_,_,_,_,_,_,_,_,_,_,_,_,_,_,_,_,_,_,_,_,_,_,_,_,_,_,_,_] Z tyS_impl_Stream Z Z Z Z<|?_
   refine rw_slice1F (xs:=[(0,_)]) [_,_,_,_,_,_,_,_,_,_,_,_,_,_,_,_,_,_,_,_,_,_,_,_,_,_,_,_,_,_,_,_,_,_,_,_,_,_,_] Z tyM_S_impl_Stream Z Z Z<|fun v11 ch11 how11=>?_
   obtain ⟨bl11,rfl,hch11⟩:=how11
   have hpm13 : (ch11 ++ (c6_0 ++ (c6_1 ++ (c6_2 ++ (c6_3 ++ (c6_4 ++ (ch ++ ([])))))))).Perm (ch ++ ((c6_0 ++ (c6_1 ++ (c6_2 ++ (c6_3 ++ (c6_4))))) ++ (ch11 ++ ([])))):=by
    refine List.Perm.trans ((pg (pp (pp (pp (pp (pp (pp PR)))))) (pg (pp PR) (pg (pp PR) (pg (pp PR) (pg (pp PR) (pg (pp PR) PR)))))) : (ch11 ++ (c6_0 ++ (c6_1 ++ (c6_2 ++ (c6_3 ++ (c6_4 ++ (ch ++ ([])))))))).Perm (ch ++ (c6_0 ++ (c6_1 ++ (c6_2 ++ (c6_3 ++ (c6_4 ++ (ch11 ++ ([]))))))))) (List.Perm.of_eq ?_)
    simp only [List.append_assoc]
   refine rw_append1F (a:=x4) (ch2:=c6_0 ++ (c6_1 ++ (c6_2 ++ (c6_3 ++ (c6_4))))) (F2:=ch11 ++ ([])) Z tyM_S_impl_Stream eStream Z Z (mem_ch hch11 (fun c hc=>ML hc)) hO ⟨_,_,_,_,_,_,_,_,_,_,Z,h6_0,h6_1,h6_2,h6_3,h6_4,Z⟩ hpm13 (by first | omega | (simp only [List.length_take,List.length_set]; omega))<|fun v12 ch12 how12=>AS Z Z<|ND<|IB<|RG<|MV Z Z<|rw_add Z Z Z<|AS Z Z<|ND<|?_
   refine gw_dropF (F':=ch12 ++ ([])) (List.Sublist.append_left (List.nil_sublist _) _)<|gw_dropN 1<|?_
   refine gw_sub (Sub.consE (i:=8) Z (int_succ (by omega)) (Sub.consE (i:=5) Z Z (Sub.cons (i:=0) Z (Sub.cons (i:=3) Z (Sub.cons (i:=4) Z (Sub.cons (i:=6) Z (Sub.cons (i:=7) Z (Sub.nil _)))))))) (ih2 (i + 1,v12,ch12) ?_ ?_)
   ·exact ⟨by omega,by rw [take_snoc (set_take hx4 (by rw [← hf]; exact h2))]; exact how12⟩
   ·show l.length - (i + 1) < l.length - i; omega
  have hn14:=nil_of_dec h1
  refine EX Z<|SQ<|SQ<|RG<|MV Z Z<|NT Z Z<|ND<|CF Z (not_T (at_pos hf))<|SK<|SQ<|RG<|MV Z Z<|AS Z Z<|ND<|?_
  refine ret_cn ch Tryz.func29 (res1 Tryz.func29 Z (rv_tmp Z)) ?_ ?_
  ·rw [take_all (drop_set_nil hn14)] at hO; exact hO
  ·exact (List.sublist_append_left _ _).trans (List.sublist_append_right _ _)
set_option maxHeartbeats 4000000 in
set_option maxRecDepth 20000 in
theorem spec_PutStream_F {w : World} {v : Value} {l : List Stream} (hv : RdS w 39 RdStream v l) (hb : l.length ≤ 1048576) (hall : ∀ x ∈ l, x.le 1048576) {cs : List Value} {x : Stream} (hvx : RdStream w cs x) (hbx : x.le 1048576) (hf : findStream l x.id = -1) : CN Tryz.prog 29 [v, .agg cs.toArray] w (fun v ch => OwA 46 39 OwStream v (insGo x false l) ch) := by
 obtain ⟨A,c,rfl,hA⟩:=hv
 obtain ⟨vx_0,vx_1,vx_2,vx_3,vx_4,rfl,kx_0,kx_1,kx_2,kx_3,kx_4⟩:=hvx
 obtain ⟨Ax_0,cx_0,rfl,hAx_0⟩:=kx_0
 obtain ⟨Ax_1,cx_1,rfl,hAx_1⟩:=kx_1
 obtain ⟨Ax_2,cx_2,rfl,hAx_2⟩:=kx_2
 obtain ⟨Ax_3,cx_3,rfl,hAx_3⟩:=kx_3
 obtain ⟨Ax_4,cx_4,rfl,hAx_4⟩:=kx_4
 obtain ⟨hbx_0,hbx_1,hbx_2,hbx_3,hbx_4,hbx_5⟩:=hbx
 refine cn_of Tryz.func29 Z Z Z<|SQ<|RG<|BX [_,_,_,_,_,_,_,_,_,_,_,_,_,_,_,_,_,_,_,_,_,_,_,_,_,_,_,_,_,_,_,_,_,_,_,_,_,_,_] Z Z Z<|fun b1=>AS Z Z<|ND<|SQ<|RG<|rw_slice0 Z tyM_S_impl_Stream OwStream<|fun v1 how1=>AS Z Z<|ND<|SQ<|RG<|MV Z Z<|FA Z tyF_impl_Stream_0 Z<|LD (i:=0) Z tyP_int Z Z Z<|CV1 Z fun_spec_FindStream Z (fun w hs=>spec_FindStream (hA.s RdStream.keeps hs) hb _)<|AS Z Z<|?_
 refine ND<|SQ<|RG<|MV Z Z<|rw_geq Z Z Z<|AS Z Z<|ND<|SQ<|SQ<|RG<|AS Z Z<|ND<|BK<|?_
 refine gw_loopX (α:=Nat × Value × List Ck × List Stream × Bool) (fun z_=>z_.1 ≤ l.length ∧ OwA 46 39 OwStream z_.2.1 z_.2.2.2.1 z_.2.2.1 ∧ insGo x false l = z_.2.2.2.1 ++ insGo x z_.2.2.2.2 (l.drop z_.1) ∧ z_.2.2.2.1.length ≤ 2 * z_.1) (fun z_=>l.length - z_.1) (fun e z_=>(8,.int .i64 (z_.1 : Int)) :: (5,z_.2.1) :: (7,.bool z_.2.2.2.2) :: e) (fun B _=>B) (fun F z_=>z_.2.2.1 ++ ([])) (0,v1,[],[],decide (0 ≤ findStream l x.id)) [(0,_),(3,_),(4,_),(6,_)] (Sub.consE Z Z (Sub.consE Z Z (Sub.consE Z Z (Sub.cons (i:=0) Z (Sub.cons (i:=3) Z (Sub.cons (i:=4) Z (Sub.cons (i:=6) Z (Sub.nil _)))))))) Z Z ?_ ?_
 ·exact ⟨Nat.zero_le _,how1,by rw [at_neg hf]; rfl,Nat.zero_le _⟩
 ·rintro ⟨i,v,ch,o,pl⟩ hI2 ih2
  dsimp only at hI2
  dsimp only
  obtain ⟨hle,hO,hI,hlo⟩:=hI2
  refine SQ<|SQ<|RG<|MV Z Z<|MV Z Z<|rw_len Z tyE_S_impl_Stream Z<|rw_lss Z Z Z<|ND<|?_
  refine gw_cond Z (fun h1=>?_) (fun h1=>?_)
  ·have hi3:=lt_of_dec h1
   obtain ⟨x4,hx4⟩:=get_of_lt hi3
   have hd4:=drop_cons hx4
   refine SK<|SQ<|BK<|SQ<|RG<|MV Z Z<|MV Z Z<|?_
   obtain ⟨cse5_,hRe5_,hq5⟩:=hA.get hx4
   obtain ⟨ve5_0,ve5_1,ve5_2,ve5_3,ve5_4,rfl,ke5_0,ke5_1,ke5_2,ke5_3,ke5_4⟩:=hRe5_
   obtain ⟨Ae5_0,ce5_0,rfl,hAe5_0⟩:=ke5_0
   obtain ⟨Ae5_1,ce5_1,rfl,hAe5_1⟩:=ke5_1
   obtain ⟨Ae5_2,ce5_2,rfl,hAe5_2⟩:=ke5_2
   obtain ⟨Ae5_3,ce5_3,rfl,hAe5_3⟩:=ke5_3
   obtain ⟨Ae5_4,ce5_4,rfl,hAe5_4⟩:=ke5_4
   obtain ⟨hbe5_0,hbe5_1,hbe5_2,hbe5_3,hbe5_4,hbe5_5⟩:=hall x4 (List.mem_of_getElem? hx4)
   refine rw_indexAddr (i) Z tyE_S_impl_Stream Z Z Z (hA.some hi3) hi3<|rw_loadX_s [_,_,_,_,_,_,_,_,_,_,_,_,_,_,_,_,_,_,_,_,_,_,_,_,_,_,_,_,_,_,_,_,_,_,_,_,_,_,_] Z tyS_impl_Stream Z Z (fun w hs=>hq5.lds0 (n:=39) hs Z)<|CN1 Z fun_spec_l15Copy Z (fun w hs=>spec_l15Copy ⟨_,_,_,_,_,Z,(hAe5_0.s Pl.keeps hs),(hAe5_1.s Pl.keeps hs),(hAe5_2.s Pl.keeps hs),(hAe5_3.s Pl.keeps hs),(hAe5_4.s Pl.keeps hs)⟩ ⟨hbe5_0,hbe5_1,hbe5_2,hbe5_3,hbe5_4,hbe5_5⟩)<|fun vv6 ch6 how6=>?_
   obtain ⟨cs6,rfl,v6_0,v6_1,v6_2,v6_3,v6_4,c6_0,c6_1,c6_2,c6_3,c6_4,rfl,h6_0,h6_1,h6_2,h6_3,h6_4,rfl⟩:=how6
   refine rw_F (F':=c6_0 ++ (c6_1 ++ (c6_2 ++ (c6_3 ++ (c6_4 ++ (ch ++ ([]))))))) (by simp only [aA])<|?_
   obtain ⟨R6_0,b6_0,rfl,hR6_0,hrd6_0⟩:=h6_0.shape eInt
   obtain ⟨R6_1,b6_1,rfl,hR6_1,hrd6_1⟩:=h6_1.shape eRange
   obtain ⟨R6_2,b6_2,rfl,hR6_2,hrd6_2⟩:=h6_2.shape eRange
   obtain ⟨R6_3,b6_3,rfl,hR6_3,hrd6_3⟩:=h6_3.shape eRange
   obtain ⟨R6_4,b6_4,rfl,hR6_4,hrd6_4⟩:=h6_4.shape eChunk
   refine AL Z tyZ_impl_Stream<|fun b2=>rw_storeN (i:=0) [_,_,_,_,_,_,_,_,_,_,_,_,_,_,_,_,_,_,_,_,_,_,_,_,_,_,_,_,_,_,_,_,_,_,_,_,_,_,_] [_,_,_,_,_,_,_,_,_,_,_,_,_,_,_,_,_,_,_,_,_,_,_,_,_,_,_,_,_,_,_,_,_,_,_,_,_,_,_] [_,_] tyS_impl_Stream.sz Z Z Z Z Z Z Z Z Z<|ND<|SQ<|SQ<|RG<|MV Z Z<|MV Z Z<|EQ1 Z Z Z<|ND<|CF Z (ne_neg hf)<|SQ<|gw_draw' [dd 0,dd 1,dd 2,dd 3,dd 4,dd 5,dd 6,dd 7,dd 8,dd 9] [10,11] mixed Z (FD Z) (ts:=[_,_]) Z<|?_
   refine DM Z Z Z<|DT Z Z (fun _ q=>NT Z Z q)<|DM Z Z Z<|?_
   refine dw_caseN (j:=37) Z (fun h2=>?_) (fun h2=>?_)
   ·refine DT Z Z (fun _ q=>ON Z Z Z (MV Z Z q))<|DT Z Z (fun _ q=>ON Z Z Z (MV Z Z q))<|DT Z Z (fun _ q=>ON Z Z Z (rw_indexAddr (i) Z tyE_S_impl_Stream Z Z Z (hA.some hi3) hi3 q))<|DT Z Z (fun _ q=>ON Z Z Z (FX Z tyF_impl_Stream_0 Z q))<|DT Z Z (fun _ q=>ON Z Z Z (rw_loadX _ Z tyP_int Z (fun w hs=>hq5.ld hs Z) q))<|DT Z Z (fun _ q=>ON Z Z Z (FA Z tyF_impl_Stream_0 Z q))<|?_
    refine DT Z Z (fun _ q=>ON Z Z Z (LD (i:=1) Z tyP_int Z Z Z q))<|dw_nil<|ON Z Z Z<|rw_gtr Z Z Z<|PT Z Z Z Z<|ND<|?_
    refine gw_cond Z (fun h3=>?_) (fun h3=>?_)
    ·refine SQ<|RG<|LS (i:=1) [_,_,_,_,_,_,_,_,_,_,_,_,_,_,_,_,_,_,_,_,_,_,_,_,_,_,_,_,_,_,_,_,_,_,_,_,_,_,_] Z tyS_impl_Stream Z Z Z Z<|CN1 Z fun_spec_l15Copy Z (fun w hs=>spec_l15Copy ⟨_,_,_,_,_,Z,(hAx_0.s Pl.keeps hs),(hAx_1.s Pl.keeps hs),(hAx_2.s Pl.keeps hs),(hAx_3.s Pl.keeps hs),(hAx_4.s Pl.keeps hs)⟩ ⟨hbx_0,hbx_1,hbx_2,hbx_3,hbx_4,hbx_5⟩)<|fun vv7 ch7 how7=>?_
     obtain ⟨cs7,rfl,v7_0,v7_1,v7_2,v7_3,v7_4,c7_0,c7_1,c7_2,c7_3,c7_4,rfl,h7_0,h7_1,h7_2,h7_3,h7_4,rfl⟩:=how7
     refine rw_F (F':=c7_0 ++ (c7_1 ++ (c7_2 ++ (c7_3 ++ (c7_4 ++ (c6_0 ++ (c6_1 ++ (c6_2 ++ (c6_3 ++ (c6_4 ++ (ch ++ ([])))))))))))) (by simp only [aA])<|?_
     obtain ⟨R7_0,b7_0,rfl,hR7_0,hrd7_0⟩:=h7_0.shape eInt
     obtain ⟨R7_1,b7_1,rfl,hR7_1,hrd7_1⟩:=h7_1.shape eRange
     obtain ⟨R7_2,b7_2,rfl,hR7_2,hrd7_2⟩:=h7_2.shape eRange
     obtain ⟨R7_3,b7_3,rfl,hR7_3,hrd7_3⟩:=h7_3.shape eRange
     obtain ⟨R7_4,b7_4,rfl,hR7_4,hrd7_4⟩:=h7_4.shape eChunk
     refine AL Z tyZ_impl_Stream<|fun b3=>rw_storeN (i:=0) [_,_,_,_,_,_,_,_,_,_,_,_,_,_,_,_,_,_,_,_,_,_,_,_,_,_,_,_,_,_,_,_,_,_,_,_,_,_,_] [_,_,_,_,_,_,_,_,_,_,_,_,_,_,_,_,_,_,_,_,_,_,_,_,_,_,_,_,_,_,_,_,_,_,_,_,_,_,_] [_,_,_] tyS_impl_Stream.sz Z Z Z Z Z Z Z Z Z<|ND<|SQ<|RG<|MV Z Z<|LS (i:=0) [_,_,_,_,_,_,_,_,_,_,_,_,_,_,_,_,_,_,_,_,_,_,_,_,_,_,_,_,_,_,_,_,_,_,_,_,_,_,_] Z tyS_impl_Stream Z Z Z Z<|rw_slice1F (xs:=[(0,_)]) [_,_,_,_,_,_,_,_,_,_,_,_,_,_,_,_,_,_,_,_,_,_,_,_,_,_,_,_,_,_,_,_,_,_,_,_,_,_,_] Z tyM_S_impl_Stream Z Z Z<|fun v8 ch8 how8=>?_
     obtain ⟨bl8,rfl,hch8⟩:=how8
     have hpm10 : (ch8 ++ (c7_0 ++ (c7_1 ++ (c7_2 ++ (c7_3 ++ (c7_4 ++ (c6_0 ++ (c6_1 ++ (c6_2 ++ (c6_3 ++ (c6_4 ++ (ch ++ ([]))))))))))))).Perm (ch ++ ((c7_0 ++ (c7_1 ++ (c7_2 ++ (c7_3 ++ (c7_4))))) ++ (ch8 ++ (c6_0 ++ (c6_1 ++ (c6_2 ++ (c6_3 ++ (c6_4 ++ ([]))))))))):=by
      refine List.Perm.trans ((pg (pp (pp (pp (pp (pp (pp (pp (pp (pp (pp (pp PR))))))))))) (pg (pp PR) (pg (pp PR) (pg (pp PR) (pg (pp PR) (pg (pp PR) PR)))))) : (ch8 ++ (c7_0 ++ (c7_1 ++ (c7_2 ++ (c7_3 ++ (c7_4 ++ (c6_0 ++ (c6_1 ++ (c6_2 ++ (c6_3 ++ (c6_4 ++ (ch ++ ([]))))))))))))).Perm (ch ++ (c7_0 ++ (c7_1 ++ (c7_2 ++ (c7_3 ++ (c7_4 ++ (ch8 ++ (c6_0 ++ (c6_1 ++ (c6_2 ++ (c6_3 ++ (c6_4 ++ ([])))))))))))))) (List.Perm.of_eq ?_)
      simp only [List.append_assoc]
     refine rw_append1F (a:=x) (ch2:=c7_0 ++ (c7_1 ++ (c7_2 ++ (c7_3 ++ (c7_4))))) (F2:=ch8 ++ (c6_0 ++ (c6_1 ++ (c6_2 ++ (c6_3 ++ (c6_4 ++ ([]))))))) Z tyM_S_impl_Stream eStream Z Z (mem_ch hch8 (fun c hc=>ML hc)) hO ⟨_,_,_,_,_,_,_,_,_,_,Z,h7_0,h7_1,h7_2,h7_3,h7_4,Z⟩ hpm10 (by first | omega | (simp only [List.length_take,List.length_set,List.length_append,List.length_cons,List.length_nil]; omega))<|fun v9 ch9 how9=>AS Z Z<|ND<|RG<|AS Z Z<|ND<|RG<|MV Z Z<|LS (i:=1) [_,_,_,_,_,_,_,_,_,_,_,_,_,_,_,_,_,_,_,_,_,_,_,_,_,_,_,_,_,_,_,_,_,_,_,_,_,_,_] Z tyS_impl_Stream Z Z Z Z<|?_
     refine rw_slice1F (xs:=[(0,_)]) [_,_,_,_,_,_,_,_,_,_,_,_,_,_,_,_,_,_,_,_,_,_,_,_,_,_,_,_,_,_,_,_,_,_,_,_,_,_,_] Z tyM_S_impl_Stream Z Z Z<|fun v11 ch11 how11=>?_
     obtain ⟨bl11,rfl,hch11⟩:=how11
     have hpm13 : (ch11 ++ (ch9 ++ (ch8 ++ (c6_0 ++ (c6_1 ++ (c6_2 ++ (c6_3 ++ (c6_4 ++ ([]))))))))).Perm (ch9 ++ ((c6_0 ++ (c6_1 ++ (c6_2 ++ (c6_3 ++ (c6_4))))) ++ (ch11 ++ (ch8 ++ ([]))))):=by
      refine List.Perm.trans ((pg (pp PR) (pg (pp (pp PR)) (pg (pp (pp PR)) (pg (pp (pp PR)) (pg (pp (pp PR)) (pg (pp (pp PR)) PR)))))) : (ch11 ++ (ch9 ++ (ch8 ++ (c6_0 ++ (c6_1 ++ (c6_2 ++ (c6_3 ++ (c6_4 ++ ([]))))))))).Perm (ch9 ++ (c6_0 ++ (c6_1 ++ (c6_2 ++ (c6_3 ++ (c6_4 ++ (ch11 ++ (ch8 ++ ([])))))))))) (List.Perm.of_eq ?_)
      simp only [List.append_assoc]
     refine rw_append1F (a:=x4) (ch2:=c6_0 ++ (c6_1 ++ (c6_2 ++ (c6_3 ++ (c6_4))))) (F2:=ch11 ++ (ch8 ++ ([]))) Z tyM_S_impl_Stream eStream Z Z (mem_ch hch11 (fun c hc=>ML hc)) how9 ⟨_,_,_,_,_,_,_,_,_,_,Z,h6_0,h6_1,h6_2,h6_3,h6_4,Z⟩ hpm13 (by first | omega | (simp only [List.length_append,List.length_cons,List.length_nil]; omega))<|fun v12 ch12 how12=>AS Z Z<|ND<|IB<|RG<|MV Z Z<|rw_add Z Z Z<|AS Z Z<|ND<|?_
     refine gw_dropF (F':=ch12 ++ ([])) (List.Sublist.append_left (List.nil_sublist _) _)<|gw_dropN 2<|?_
     refine gw_sub (Sub.consE (i:=8) Z (int_succ (by omega)) (Sub.consE (i:=5) Z Z (Sub.consE (i:=7) Z Z (Sub.cons (i:=0) Z (Sub.cons (i:=3) Z (Sub.cons (i:=4) Z (Sub.cons (i:=6) Z (Sub.nil _)))))))) (ih2 (i + 1,v12,ch12,((o ++ [x]) ++ [x4]),true) ?_ ?_)
     ·exact ⟨by omega,how12,by rw [hI,hd4]; simp [insGo,ins_true,h2,h3],by simp only [List.length_append,List.length_cons,List.length_nil]; omega⟩
     ·show l.length - (i + 1) < l.length - i; omega
    refine SK<|RG<|MV Z Z<|LS (i:=0) [_,_,_,_,_,_,_,_,_,_,_,_,_,_,_,_,_,_,_,_,_,_,_,_,_,_,_,_,_,_,_,_,_,_,_,_,_,_,_] Z tyS_impl_Stream Z Z Z Z<|rw_slice1F (xs:=[(0,_)]) [_,_,_,_,_,_,_,_,_,_,_,_,_,_,_,_,_,_,_,_,_,_,_,_,_,_,_,_,_,_,_,_,_,_,_,_,_,_,_] Z tyM_S_impl_Stream Z Z Z<|fun v14 ch14 how14=>?_
    obtain ⟨bl14,rfl,hch14⟩:=how14
    have hpm16 : (ch14 ++ (c6_0 ++ (c6_1 ++ (c6_2 ++ (c6_3 ++ (c6_4 ++ (ch ++ ([])))))))).Perm (ch ++ ((c6_0 ++ (c6_1 ++ (c6_2 ++ (c6_3 ++ (c6_4))))) ++ (ch14 ++ ([])))):=by
     refine List.Perm.trans ((pg (pp (pp (pp (pp (pp (pp PR)))))) (pg (pp PR) (pg (pp PR) (pg (pp PR) (pg (pp PR) (pg (pp PR) PR)))))) : (ch14 ++ (c6_0 ++ (c6_1 ++ (c6_2 ++ (c6_3 ++ (c6_4 ++ (ch ++ ([])))))))).Perm (ch ++ (c6_0 ++ (c6_1 ++ (c6_2 ++ (c6_3 ++ (c6_4 ++ (ch14 ++ ([]))))))))) (List.Perm.of_eq ?_)
     simp only [List.append_assoc]
    refine rw_append1F (a:=x4) (ch2:=c6_0 ++ (c6_1 ++ (c6_2 ++ (c6_3 ++ (c6_4))))) (F2:=ch14 ++ ([])) Z tyM_S_impl_Stream eStream Z Z (mem_ch hch14 (fun c hc=>ML hc)) hO ⟨_,_,_,_,_,_,_,_,_,_,Z,h6_0,h6_1,h6_2,h6_3,h6_4,Z⟩ hpm16 (by first | omega | (simp only [List.length_take,List.length_set,List.length_append,List.length_cons,List.length_nil]; omega))<|fun v15 ch15 how15=>AS Z Z<|ND<|IB<|RG<|MV Z Z<|rw_add Z Z Z<|AS Z Z<|ND<|?_
    refine gw_dropF (F':=ch15 ++ ([])) (List.Sublist.append_left (List.nil_sublist _) _)<|gw_dropN 1<|?_
    refine gw_sub (Sub.consE (i:=8) Z (int_succ (by omega)) (Sub.consE (i:=5) Z Z (Sub.consE (i:=7) Z Z (Sub.cons (i:=0) Z (Sub.cons (i:=3) Z (Sub.cons (i:=4) Z (Sub.cons (i:=6) Z (Sub.nil _)))))))) (ih2 (i + 1,v15,ch15,(o ++ [x4]),pl) ?_ ?_)
    ·exact ⟨by omega,how15,by rw [hI,hd4]; simp [insGo,ins_true,h2,h3],by simp only [List.length_append,List.length_cons,List.length_nil]; omega⟩
    ·show l.length - (i + 1) < l.length - i; omega
   refine DSK Z<|dw_nil<|OF Z Z Z Z<|PF Z Z Z Z<|ND<|CF Z Z<|SK<|RG<|MV Z Z<|LS (i:=0) [_,_,_,_,_,_,_,_,_,_,_,_,_,_,_,_,_,_,_,_,_,_,_,_,_,_,_,_,_,_,_,_,_,_,_,_,_,_,_] Z tyS_impl_Stream Z Z Z Z<|rw_slice1F (xs:=[(0,_)]) [_,_,_,_,_,_,_,_,_,_,_,_,_,_,_,_,_,_,_,_,_,_,_,_,_,_,_,_,_,_,_,_,_,_,_,_,_,_,_] Z tyM_S_impl_Stream Z Z Z<|fun v17 ch17 how17=>?_
   obtain ⟨bl17,rfl,hch17⟩:=how17
   have hpm19 : (ch17 ++ (c6_0 ++ (c6_1 ++ (c6_2 ++ (c6_3 ++ (c6_4 ++ (ch ++ ([])))))))).Perm (ch ++ ((c6_0 ++ (c6_1 ++ (c6_2 ++ (c6_3 ++ (c6_4))))) ++ (ch17 ++ ([])))):=by
    refine List.Perm.trans ((pg (pp (pp (pp (pp (pp (pp PR)))))) (pg (pp PR) (pg (pp PR) (pg (pp PR) (pg (pp PR) (pg (pp PR) PR)))))) : (ch17 ++ (c6_0 ++ (c6_1 ++ (c6_2 ++ (c6_3 ++ (c6_4 ++ (ch ++ ([])))))))).Perm (ch ++ (c6_0 ++ (c6_1 ++ (c6_2 ++ (c6_3 ++ (c6_4 ++ (ch17 ++ ([]))))))))) (List.Perm.of_eq ?_)
    simp only [List.append_assoc]
   refine rw_append1F (a:=x4) (ch2:=c6_0 ++ (c6_1 ++ (c6_2 ++ (c6_3 ++ (c6_4))))) (F2:=ch17 ++ ([])) Z tyM_S_impl_Stream eStream Z Z (mem_ch hch17 (fun c hc=>ML hc)) hO ⟨_,_,_,_,_,_,_,_,_,_,Z,h6_0,h6_1,h6_2,h6_3,h6_4,Z⟩ hpm19 (by first | omega | (simp only [List.length_take,List.length_set,List.length_append,List.length_cons,List.length_nil]; omega))<|fun v18 ch18 how18=>AS Z Z<|ND<|IB<|RG<|MV Z Z<|rw_add Z Z Z<|AS Z Z<|ND<|?_
   refine gw_dropF (F':=ch18 ++ ([])) (List.Sublist.append_left (List.nil_sublist _) _)<|gw_dropN 1<|?_
   refine gw_sub (Sub.consE (i:=8) Z (int_succ (by omega)) (Sub.consE (i:=5) Z Z (Sub.consE (i:=7) Z Z (Sub.cons (i:=0) Z (Sub.cons (i:=3) Z (Sub.cons (i:=4) Z (Sub.cons (i:=6) Z (Sub.nil _)))))))) (ih2 (i + 1,v18,ch18,(o ++ [x4]),pl) ?_ ?_)
   ·exact ⟨by omega,how18,by rw [hI,hd4]; simp [insGo,ins_true,h2],by simp only [List.length_append,List.length_cons,List.length_nil]; omega⟩
   ·show l.length - (i + 1) < l.length - i; omega
  have hn20:=nil_of_dec h1
  refine EX Z<|SQ<|SQ<|RG<|MV Z Z<|NT Z Z<|ND<|?_
  refine gw_condN Z (fun h4=>?_) (fun h4=>?_)
  ·refine SQ<|RG<|LS (i:=0) [_,_,_,_,_,_,_,_,_,_,_,_,_,_,_,_,_,_,_,_,_,_,_,_,_,_,_,_,_,_,_,_,_,_,_,_,_,_,_] Z tyS_impl_Stream Z Z Z Z<|CN1 Z fun_spec_l15Copy Z (fun w hs=>spec_l15Copy ⟨_,_,_,_,_,Z,(hAx_0.s Pl.keeps hs),(hAx_1.s Pl.keeps hs),(hAx_2.s Pl.keeps hs),(hAx_3.s Pl.keeps hs),(hAx_4.s Pl.keeps hs)⟩ ⟨hbx_0,hbx_1,hbx_2,hbx_3,hbx_4,hbx_5⟩)<|fun vv21 ch21 how21=>?_
   obtain ⟨cs21,rfl,v21_0,v21_1,v21_2,v21_3,v21_4,c21_0,c21_1,c21_2,c21_3,c21_4,rfl,h21_0,h21_1,h21_2,h21_3,h21_4,rfl⟩:=how21
   refine rw_F (F':=c21_0 ++ (c21_1 ++ (c21_2 ++ (c21_3 ++ (c21_4 ++ (ch ++ ([]))))))) (by simp only [aA])<|?_
   obtain ⟨R21_0,b21_0,rfl,hR21_0,hrd21_0⟩:=h21_0.shape eInt
   obtain ⟨R21_1,b21_1,rfl,hR21_1,hrd21_1⟩:=h21_1.shape eRange
   obtain ⟨R21_2,b21_2,rfl,hR21_2,hrd21_2⟩:=h21_2.shape eRange
   obtain ⟨R21_3,b21_3,rfl,hR21_3,hrd21_3⟩:=h21_3.shape eRange
   obtain ⟨R21_4,b21_4,rfl,hR21_4,hrd21_4⟩:=h21_4.shape eChunk
   refine AL Z tyZ_impl_Stream<|fun b4=>rw_storeN (i:=0) [_,_,_,_,_,_,_,_,_,_,_,_,_,_,_,_,_,_,_,_,_,_,_,_,_,_,_,_,_,_,_,_,_,_,_,_,_,_,_] [_,_,_,_,_,_,_,_,_,_,_,_,_,_,_,_,_,_,_,_,_,_,_,_,_,_,_,_,_,_,_,_,_,_,_,_,_,_,_] [_,_] tyS_impl_Stream.sz Z Z Z Z Z Z Z Z Z<|ND<|RG<|MV Z Z<|LS (i:=0) [_,_,_,_,_,_,_,_,_,_,_,_,_,_,_,_,_,_,_,_,_,_,_,_,_,_,_,_,_,_,_,_,_,_,_,_,_,_,_] Z tyS_impl_Stream Z Z Z Z<|rw_slice1F (xs:=[(0,_)]) [_,_,_,_,_,_,_,_,_,_,_,_,_,_,_,_,_,_,_,_,_,_,_,_,_,_,_,_,_,_,_,_,_,_,_,_,_,_,_] Z tyM_S_impl_Stream Z Z Z<|fun v22 ch22 how22=>?_
   obtain ⟨bl22,rfl,hch22⟩:=how22
   have hpm24 : (ch22 ++ (c21_0 ++ (c21_1 ++ (c21_2 ++ (c21_3 ++ (c21_4 ++ (ch ++ ([])))))))).Perm (ch ++ ((c21_0 ++ (c21_1 ++ (c21_2 ++ (c21_3 ++ (c21_4))))) ++ (ch22 ++ ([])))):=by
    refine List.Perm.trans ((pg (pp (pp (pp (pp (pp (pp PR)))))) (pg (pp PR) (pg (pp PR) (pg (pp PR) (pg (pp PR) (pg (pp PR) PR)))))) : (ch22 ++ (c21_0 ++ (c21_1 ++ (c21_2 ++ (c21_3 ++ (c21_4 ++ (ch ++ ([])))))))).Perm (ch ++ (c21_0 ++ (c21_1 ++ (c21_2 ++ (c21_3 ++ (c21_4 ++ (ch22 ++ ([]))))))))) (List.Perm.of_eq ?_)
    simp only [List.append_assoc]
   refine rw_append1F (a:=x) (ch2:=c21_0 ++ (c21_1 ++ (c21_2 ++ (c21_3 ++ (c21_4))))) (F2:=ch22 ++ ([])) Z tyM_S_impl_Stream eStream Z Z (mem_ch hch22 (fun c hc=>ML hc)) hO ⟨_,_,_,_,_,_,_,_,_,_,Z,h21_0,h21_1,h21_2,h21_3,h21_4,Z⟩ hpm24 (by first | omega | (simp only [List.length_take,List.length_set,List.length_append,List.length_cons,List.length_nil]; omega))<|fun v23 ch23 how23=>AS Z Z<|ND<|SQ<|RG<|MV Z Z<|AS Z Z<|ND<|?_
   refine ret_cn ch23 Tryz.func29 (res1 Tryz.func29 Z (rv_tmp Z)) ?_ ?_
   ·rw [hI,hn20,h4]
    simpa [insGo] using how23
   ·exact (List.sublist_append_left _ _).trans (List.sublist_append_right _ _)
  refine SK<|SQ<|RG<|MV Z Z<|AS Z Z<|ND<|?_
  refine ret_cn ch Tryz.func29 (res1 Tryz.func29 Z (rv_tmp Z)) ?_ ?_
  ·rw [hI,hn20,h4]
   simpa [insGo] using hO
  ·exact (List.sublist_append_left _ _).trans (List.sublist_append_right _ _)
theorem spec_PutStream {w : World} {v : Value} {l : List Stream} (hv : RdS w 39 RdStream v l) (hb : l.length ≤ 1048576) (hall : ∀ x ∈ l, x.le 1048576) {cs : List Value} {x : Stream} (hvx : RdStream w cs x) (hbx : x.le 1048576) : CN Tryz.prog 29 [v, .agg cs.toArray] w (fun v ch => OwA 46 39 OwStream v (putS l x) ch) := by
 rcases find_cases l x.id with h | ⟨n,s,h1,h2⟩
 ·rw [putS_F h]; exact spec_PutStream_F hv hb hall hvx hbx h
 ·rw [putS_T h1]; exact spec_PutStream_T hv hb hall hvx hbx h1 h2
theorem impl_PutStream {w : World} {v : Value} {l : List Stream} (hv : RdS w 39 RdStream v l) (hb : l.length ≤ 1048576) (hall : ∀ x ∈ l, x.le 1048576) {cs : List Value} {x : Stream} (hvx : RdStream w cs x) (hbx : x.le 1048576) : CN Tryz.prog 28 [v, .agg cs.toArray] w (fun v ch => OwS 46 39 OwStream v (putS l x) ch) := by
 rcases find_cases l x.id with h | ⟨n,s,h1,h2⟩
 ·rw [putS_F h]; exact impl_PutStream_F hv hb hall hvx hbx h
 ·rw [putS_T h1]; exact impl_PutStream_T hv hb hall hvx hbx h1 h2
theorem slices_EqualFunc_Stream {w : World} {v : Value} {l : List Stream} (hv : RdS w 39 RdStream v l) (hb : l.length ≤ 1048576) (hall : ∀ y ∈ l, y.le 1048576) {v1 : Value} {l1 : List Stream} (hv1 : RdS w 39 RdStream v1 l1) : CV Tryz.prog 107 [v, v1, (.func (.func 24) #[] #[])] w (.bool (eqTables l l1)) := by
 obtain ⟨A,c,rfl,hA⟩:=hv
 obtain ⟨A1,c1,rfl,hA1⟩:=hv1
 refine cv_of Tryz.func107 Z Z Z<|SQ<|RG<|AS Z Z<|ND<|SQ<|SQ<|RG<|MV Z Z<|rw_len Z tyE_S_impl_Stream Z<|MV Z Z<|rw_len Z tyE_S_impl_Stream Z<|rw_neq Z Z Z<|ND<|?_
 refine gw_condN Z (fun h1=>?_) (fun h1=>?_)
 ·have hlne1:=len_ne_of h1
  refine SQ<|RG<|AS Z Z<|ND<|RT Tryz.func107 Z Z<|?_
  rw [eqTables_len _ _ hlne1]
 have hlen2:=len_eq_of h1
 refine SK<|SQ<|SQ<|RG<|MV Z Z<|rw_len Z tyE_S_impl_Stream Z<|MV Z Z<|ND<|BK<|?_
 refine gw_loopC (α:=Nat) (fun z_=>z_ ≤ l.length ∧ eqTables l l1 = eqTables (l.drop z_) (l1.drop z_)) (fun z_=>l.length - z_) (fun e z_=>(17,.int .i64 (z_ : Int)) :: e) 0 [(1,_),(2,_),(15,_),(16,_)] (Sub.consE Z Z (Sub.cons (i:=1) Z (Sub.cons (i:=2) Z (Sub.cons (i:=15) Z (Sub.cons (i:=16) Z (Sub.nil _)))))) ?_ ?_
 ·exact ⟨Nat.zero_le _,rfl⟩
 ·rintro i hI3 ih3
  try dsimp only
  obtain ⟨hle,hI⟩:=hI3
  refine SQ<|RG<|rw_lss Z Z Z<|ND<|SQ<|?_
  refine gw_cond Z (fun h2=>?_) (fun h2=>?_)
  ·have hi4:=lt_of_dec h2
   obtain ⟨x5,hx5⟩:=get_of_lt hi4
   have hd5:=drop_cons hx5
   refine SK<|SQ<|BK<|SQ<|RG<|MV Z Z<|?_
   obtain ⟨cse6_,hRe6_,hq6⟩:=hA.get hx5
   obtain ⟨ve6_0,ve6_1,ve6_2,ve6_3,ve6_4,rfl,ke6_0,ke6_1,ke6_2,ke6_3,ke6_4⟩:=hRe6_
   obtain ⟨Ae6_0,ce6_0,rfl,hAe6_0⟩:=ke6_0
   obtain ⟨Ae6_1,ce6_1,rfl,hAe6_1⟩:=ke6_1
   obtain ⟨Ae6_2,ce6_2,rfl,hAe6_2⟩:=ke6_2
   obtain ⟨Ae6_3,ce6_3,rfl,hAe6_3⟩:=ke6_3
   obtain ⟨Ae6_4,ce6_4,rfl,hAe6_4⟩:=ke6_4
   obtain ⟨hbe6_0,hbe6_1,hbe6_2,hbe6_3,hbe6_4,hbe6_5⟩:=hall x5 (List.mem_of_getElem? hx5)
   refine rw_indexAddr (i) Z tyE_S_impl_Stream Z Z Z (hA.some hi4) hi4<|rw_loadX_s [_,_,_,_,_,_,_,_,_,_,_,_,_,_,_,_,_,_,_,_,_,_,_,_,_,_,_,_,_,_,_,_,_,_,_,_,_,_,_] Z tyS_impl_Stream Z Z (fun w hs=>hq6.lds0 (n:=39) hs Z)<|AL Z tyZ_impl_Stream<|fun b1=>AS Z Z<|rw_storeN (i:=0) [_,_,_,_,_,_,_,_,_,_,_,_,_,_,_,_,_,_,_,_,_,_,_,_,_,_,_,_,_,_,_,_,_,_,_,_,_,_,_] [_,_,_,_,_,_,_,_,_,_,_,_,_,_,_,_,_,_,_,_,_,_,_,_,_,_,_,_,_,_,_,_,_,_,_,_,_,_,_] [_] tyS_impl_Stream.sz Z Z Z Z Z Z Z Z Z<|?_
   refine ND<|SQ<|RG<|MV Z Z<|MV Z Z<|?_
   have hi7 : i < l1.length:=by omega
   obtain ⟨x8,hx8⟩:=get_of_lt hi7
   have hd8:=drop_cons hx8
   obtain ⟨cse9_,hRe9_,hq9⟩:=hA1.get hx8
   obtain ⟨ve9_0,ve9_1,ve9_2,ve9_3,ve9_4,rfl,ke9_0,ke9_1,ke9_2,ke9_3,ke9_4⟩:=hRe9_
   obtain ⟨Ae9_0,ce9_0,rfl,hAe9_0⟩:=ke9_0
   obtain ⟨Ae9_1,ce9_1,rfl,hAe9_1⟩:=ke9_1
   obtain ⟨Ae9_2,ce9_2,rfl,hAe9_2⟩:=ke9_2
   obtain ⟨Ae9_3,ce9_3,rfl,hAe9_3⟩:=ke9_3
   obtain ⟨Ae9_4,ce9_4,rfl,hAe9_4⟩:=ke9_4
   refine rw_indexAddr (i) Z tyE_S_impl_Stream Z Z Z (hA1.some hi7) hi7<|rw_loadX_s [_,_,_,_,_,_,_,_,_,_,_,_,_,_,_,_,_,_,_,_,_,_,_,_,_,_,_,_,_,_,_,_,_,_,_,_,_,_,_] Z tyS_impl_Stream Z Z (fun w hs=>hq9.lds0 (n:=39) hs Z)<|AL Z tyZ_impl_Stream<|fun b2=>rw_storeN (i:=0) [_,_,_,_,_,_,_,_,_,_,_,_,_,_,_,_,_,_,_,_,_,_,_,_,_,_,_,_,_,_,_,_,_,_,_,_,_,_,_] [_,_,_,_,_,_,_,_,_,_,_,_,_,_,_,_,_,_,_,_,_,_,_,_,_,_,_,_,_,_,_,_,_,_,_,_,_,_,_] [_,_] tyS_impl_Stream.sz Z Z Z Z Z Z Z Z Z<|?_
   refine ND<|SQ<|RG<|MV Z Z<|LS (i:=1) [_,_,_,_,_,_,_,_,_,_,_,_,_,_,_,_,_,_,_,_,_,_,_,_,_,_,_,_,_,_,_,_,_,_,_,_,_,_,_] Z tyS_impl_Stream Z Z Z Z<|LS (i:=0) [_,_,_,_,_,_,_,_,_,_,_,_,_,_,_,_,_,_,_,_,_,_,_,_,_,_,_,_,_,_,_,_,_,_,_,_,_,_,_] Z tyS_impl_Stream Z Z Z Z<|rw_cvF Z Z fun_impl_EqualStreams Z (fun w hs=>impl_EqualStreams ⟨_,_,_,_,_,Z,(hAe6_0.s Pl.keeps hs),(hAe6_1.s Pl.keeps hs),(hAe6_2.s Pl.keeps hs),(hAe6_3.s Pl.keeps hs),(hAe6_4.s Pl.keeps hs)⟩ ⟨hbe6_0,hbe6_1,hbe6_2,hbe6_3,hbe6_4,hbe6_5⟩ ⟨_,_,_,_,_,Z,(hAe9_0.s Pl.keeps hs),(hAe9_1.s Pl.keeps hs),(hAe9_2.s Pl.keeps hs),(hAe9_3.s Pl.keeps hs),(hAe9_4.s Pl.keeps hs)⟩)<|?_
   refine NT Z Z<|ND<|?_
   refine gw_condN Z (fun h3=>?_) (fun h3=>?_)
   ·refine SQ<|RG<|AS Z Z<|ND<|RT Tryz.func107 Z Z<|?_
    rw [hI,hd5,hd8]; simp [eqTables,h3]
   refine SK<|IB<|RG<|rw_add Z Z Z<|MV Z Z<|ND<|gw_dropN 2<|?_
   refine gw_sub (Sub.consE (i:=17) Z (int_succ (by omega)) (Sub.cons (i:=1) Z (Sub.cons (i:=2) Z (Sub.cons (i:=15) Z (Sub.cons (i:=16) Z (Sub.nil _)))))) (ih3 (i + 1) ?_ ?_)
   ·exact ⟨by omega,by rw [hI,hd5,hd8]; simp [eqTables,h3]⟩
   ·show l.length - (i + 1) < l.length - i; omega
  have hn10:=nil_of_dec h2
  refine EX Z<|SQ<|RG<|AS Z Z<|ND<|RT Tryz.func107 Z Z<|?_
  rw [hI,hn10,drop_nil_of hlen2 hn10]; rfl
theorem impl_EqualTables {w : World} {v : Value} {l : List Stream} (hv : RdS w 39 RdStream v l) (hb : l.length ≤ 1048576) (hall : ∀ y ∈ l, y.le 1048576) {v1 : Value} {l1 : List Stream} (hv1 : RdS w 39 RdStream v1 l1) : CV Tryz.prog 47 [v, v1] w (.bool (eqTables l l1)) := by
 obtain ⟨A,c,rfl,hA⟩:=hv
 obtain ⟨A1,c1,rfl,hA1⟩:=hv1
 refine cv_of Tryz.func47 Z Z Z<|SQ<|RG<|AS Z Z<|ND<|SQ<|RG<|MV Z Z<|MV Z Z<|CV1 Z fun_slices_EqualFunc_S_impl_Stream_S_impl_Stream_impl_Stream_impl_Stream Z (fun w hs=>slices_EqualFunc_Stream (hA.s RdStream.keeps hs) hb hall (hA1.s RdStream.keeps hs) )<|AS Z Z<|ND<|RT Tryz.func47 Z Z<|?_
 rfl
theorem spec_EqualTables {w : World} {v : Value} {l : List Stream} (hv : RdS w 39 RdStream v l) (hb : l.length ≤ 1048576) (hall : ∀ y ∈ l, y.le 1048576) {v1 : Value} {l1 : List Stream} (hv1 : RdS w 39 RdStream v1 l1) : CV Tryz.prog 30 [v, v1] w (.bool (eqTables l l1)) := by
 obtain ⟨A,c,rfl,hA⟩:=hv
 obtain ⟨A1,c1,rfl,hA1⟩:=hv1
 refine cv_of Tryz.func30 Z Z Z<|SQ<|RG<|AS Z Z<|ND<|SQ<|SQ<|RG<|MV Z Z<|rw_len Z tyE_S_impl_Stream Z<|MV Z Z<|rw_len Z tyE_S_impl_Stream Z<|rw_neq Z Z Z<|ND<|?_
 refine gw_condN Z (fun h1=>?_) (fun h1=>?_)
 ·have hlne1:=len_ne_of h1
  refine SQ<|RG<|AS Z Z<|ND<|RT Tryz.func30 Z Z<|?_
  rw [eqTables_len _ _ hlne1]
 have hlen2:=len_eq_of h1
 refine SK<|SQ<|SQ<|RG<|AS Z Z<|ND<|BK<|?_
 refine gw_loopC (α:=Nat) (fun z_=>z_ ≤ l.length ∧ eqTables l l1 = eqTables (l.drop z_) (l1.drop z_)) (fun z_=>l.length - z_) (fun e z_=>(5,.int .i64 (z_ : Int)) :: e) 0 [(0,_),(1,_)] (Sub.consE Z Z (Sub.cons (i:=0) Z (Sub.cons (i:=1) Z (Sub.nil _)))) ?_ ?_
 ·exact ⟨Nat.zero_le _,rfl⟩
 ·rintro i hI3 ih3
  try dsimp only
  obtain ⟨hle,hI⟩:=hI3
  refine SQ<|SQ<|RG<|MV Z Z<|MV Z Z<|rw_len Z tyE_S_impl_Stream Z<|rw_lss Z Z Z<|ND<|?_
  refine gw_cond Z (fun h2=>?_) (fun h2=>?_)
  ·have hi4:=lt_of_dec h2
   obtain ⟨x5,hx5⟩:=get_of_lt hi4
   have hd5:=drop_cons hx5
   refine SK<|SQ<|BK<|SQ<|gw_draw' [dd 0,dd 1,dd 2,dd 3,dd 4,dd 5,dd 6,dd 7] [8,9] mixed Z (FD Z) (ts:=[_,_]) Z<|DM Z Z Z<|DM Z Z Z<|?_
   obtain ⟨cse6_,hRe6_,hq6⟩:=hA.get hx5
   obtain ⟨ve6_0,ve6_1,ve6_2,ve6_3,ve6_4,rfl,ke6_0,ke6_1,ke6_2,ke6_3,ke6_4⟩:=hRe6_
   obtain ⟨Ae6_0,ce6_0,rfl,hAe6_0⟩:=ke6_0
   obtain ⟨Ae6_1,ce6_1,rfl,hAe6_1⟩:=ke6_1
   obtain ⟨Ae6_2,ce6_2,rfl,hAe6_2⟩:=ke6_2
   obtain ⟨Ae6_3,ce6_3,rfl,hAe6_3⟩:=ke6_3
   obtain ⟨Ae6_4,ce6_4,rfl,hAe6_4⟩:=ke6_4
   obtain ⟨hbe6_0,hbe6_1,hbe6_2,hbe6_3,hbe6_4,hbe6_5⟩:=hall x5 (List.mem_of_getElem? hx5)
   refine DT Z Z (fun _ q=>rw_indexAddr (i) Z tyE_S_impl_Stream Z Z Z (hA.some hi4) hi4 q)<|DT Z Z (fun _ q=>rw_loadX_s [_,_,_,_,_,_,_,_,_,_,_,_,_,_,_,_,_,_,_,_,_,_,_,_,_,_,_,_,_,_,_,_,_,_,_,_,_,_,_] Z tyS_impl_Stream Z Z (fun w hs=>hq6.lds0 (n:=39) hs Z) q)<|DM Z Z Z<|DM Z Z Z<|?_
   have hi7 : i < l1.length:=by omega
   obtain ⟨x8,hx8⟩:=get_of_lt hi7
   have hd8:=drop_cons hx8
   obtain ⟨cse9_,hRe9_,hq9⟩:=hA1.get hx8
   obtain ⟨ve9_0,ve9_1,ve9_2,ve9_3,ve9_4,rfl,ke9_0,ke9_1,ke9_2,ke9_3,ke9_4⟩:=hRe9_
   obtain ⟨Ae9_0,ce9_0,rfl,hAe9_0⟩:=ke9_0
   obtain ⟨Ae9_1,ce9_1,rfl,hAe9_1⟩:=ke9_1
   obtain ⟨Ae9_2,ce9_2,rfl,hAe9_2⟩:=ke9_2
   obtain ⟨Ae9_3,ce9_3,rfl,hAe9_3⟩:=ke9_3
   obtain ⟨Ae9_4,ce9_4,rfl,hAe9_4⟩:=ke9_4
   refine DT Z Z (fun _ q=>rw_indexAddr (i) Z tyE_S_impl_Stream Z Z Z (hA1.some hi7) hi7 q)<|DT Z Z (fun _ q=>rw_loadX_s [_,_,_,_,_,_,_,_,_,_,_,_,_,_,_,_,_,_,_,_,_,_,_,_,_,_,_,_,_,_,_,_,_,_,_,_,_,_,_] Z tyS_impl_Stream Z Z (fun w hs=>hq9.lds0 (n:=39) hs Z) q)<|dw_nil<|CV1 Z fun_spec_EqualStreams Z (fun w hs=>spec_EqualStreams ⟨_,_,_,_,_,Z,(hAe6_0.s Pl.keeps hs),(hAe6_1.s Pl.keeps hs),(hAe6_2.s Pl.keeps hs),(hAe6_3.s Pl.keeps hs),(hAe6_4.s Pl.keeps hs)⟩ ⟨hbe6_0,hbe6_1,hbe6_2,hbe6_3,hbe6_4,hbe6_5⟩ ⟨_,_,_,_,_,Z,(hAe9_0.s Pl.keeps hs),(hAe9_1.s Pl.keeps hs),(hAe9_2.s Pl.keeps hs),(hAe9_3.s Pl.keeps hs),(hAe9_4.s Pl.keeps hs)⟩)<|?_
   refine NT Z Z<|ND<|?_
   refine gw_condN Z (fun h3=>?_) (fun h3=>?_)
   ·refine SQ<|RG<|AS Z Z<|ND<|RT Tryz.func30 Z Z<|?_
    rw [hI,hd5,hd8]; simp [eqTables,h3]
   refine SK<|IB<|RG<|MV Z Z<|rw_add Z Z Z<|AS Z Z<|ND<|?_
   refine gw_sub (Sub.consE (i:=5) Z (int_succ (by omega)) (Sub.cons (i:=0) Z (Sub.cons (i:=1) Z (Sub.nil _)))) (ih3 (i + 1) ?_ ?_)
   ·exact ⟨by omega,by rw [hI,hd5,hd8]; simp [eqTables,h3]⟩
   ·show l.length - (i + 1) < l.length - i; omega
  have hn10:=nil_of_dec h2
  refine EX Z<|SQ<|RG<|AS Z Z<|ND<|RT Tryz.func30 Z Z<|?_
  rw [hI,hn10,drop_nil_of hlen2 hn10]; rfl
end Go.Proofs.YtbhnekiclbfmgaaGreat
