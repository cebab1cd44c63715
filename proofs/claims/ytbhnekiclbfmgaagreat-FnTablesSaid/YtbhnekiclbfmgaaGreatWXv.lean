/- Walks: draws. -/
import Derived.Test.YtbhnekiclbfmgaaGreatWXa
import Derived.Test.YtbhnekiclbfmgaaGreatWXd
import Derived.Test.YtbhnekiclbfmgaaGreatWXs
import Derived.Test.YtbhnekiclbfmgaaGreatFactsX
import Derived.Test.YtbhnekiclbfmgaaGreatNxt
namespace Go.Proofs.YtbhnekiclbfmgaaGreat
open SL Go.RowKit
theorem spec_EncodeFixed1 {k : Nat} (hk : k ≤ 255) (w : World) : CV Tryz.prog 180 [.int .i64 (k : Int), .int .i64 1] w (.string (mkS [UInt8.ofNat k])) := by
 refine cv_of Tryz.func180 Z Z Z<|SQ<|RG<|AS Z Z<|ND<|SQ<|SQ<|RG<|MV Z Z<|CV1 Z fun_spec_l1In Z (fun w hs=>spec_l1In _ _ _ w)<|NT Z Z<|MV Z Z<|ON Z Z Z<|MV Z Z<|ON Z Z Z<|rw_lss Z Z Z<|PF Z Z Z Z<|ND<|CF Z (decide_eq_false (by omega))<|SK<|SQ<|RG<|AS Z Z<|ND<|SQ<|SQ<|RG<|AS Z Z<|ND<|BK<|gw_loop1<|SQ<|SQ<|RG<|MV Z Z<|?_
 refine MV Z Z<|rw_lss Z Z Z<|ND<|CT Z Z<|SK<|SQ<|BK<|SQ<|RG<|MV Z Z<|rw_rem Z Z Z (by decide)<|rw_convI Z tyCI_int_uint8 Z<|rw_slice (xs:=[(0,_)]) [_] Z tyM_S_uint8 Z Z Z Z<|fun b1=>rw_convB (i:=0) [UInt8.ofNat k] Z tyCB_S_uint8_string Z Z Z (byte_cells hk)<|MV Z Z<|rw_catS Z Z Z (by first | omega | (simp; done) | (simp; omega)) (by first | omega | (simp; done) | (simp; omega))<|AS Z Z<|ND<|RG<|MV Z Z<|rw_quoe 0 Z Z Z (by decide) (byte_quo hk)<|?_
 refine AS Z Z<|ND<|IB<|RG<|MV Z Z<|rw_addK 1 Z Z Z Z<|AS Z Z<|ND<|gw_again<|SQ<|SQ<|RG<|MV Z Z<|MV Z Z<|rw_lss Z Z Z<|ND<|CF Z Z<|EX Z<|SQ<|SQ<|RG<|MV Z Z<|rw_gtr Z Z Z<|ND<|CF Z Z<|SK<|SQ<|RG<|MV Z Z<|AS Z Z<|ND<|RT Tryz.func180 Z Z<|?_
 rfl
theorem spec_l2Byte (n_ : Int) (w : World) : CV Tryz.prog 167 [.int .i64 n_] w (.string (mkS [bytOf n_])) := by
 refine cv_of Tryz.func167 Z Z Z<|SQ<|RG<|AS Z Z<|ND<|SQ<|RG<|MV Z Z<|rw_and Z Z Z<|?_
 obtain ⟨k,hk0,hk⟩:=and_nat n_
 rw [hk0]
 refine CV1 Z fun_spec_EncodeFixed Z (fun w hs=>spec_EncodeFixed1 hk w)<|AS Z Z<|ND<|RT Tryz.func167 Z Z<|?_
 rw [bytOf_eq hk0]
set_option maxHeartbeats 2000000 in
set_option maxRecDepth 20000 in
theorem spec_PeekRing {w : World} {cs : List Value} {x : Ring} (hv : RdRing w cs x) (hb : x.le 1048576) (o m : Int) : CN Tryz.prog 142 [.agg cs.toArray, .int .i64 o, .int .i64 m] w (fun v ch => ∃ D ok, v = .tuple #[.string (mkS D), .bool ok] ∧ D.length ≤ 64 ∧ ch = []) := by
 obtain ⟨v0,rfl,k0⟩:=hv
 obtain ⟨A0,c0,rfl,hA0⟩:=k0
 have hb0 : x.cells.length ≤ 1048576:=hb
 refine cn_of Tryz.func142 Z Z Z<|SQ<|RG<|BX [_,_,_,_] Z Z Z<|fun b1=>AS Z Z<|AS Z Z<|ND<|SQ<|SQ<|RG<|LS (i:=0) [_,_,_,_] Z tyS_impl_Ring Z Z Z Z<|CV1 Z fun_spec_IsRing Z (fun w hs=>spec_IsRing ⟨_,Z,(hA0.s Pl.keeps hs)⟩ (show _ ≤ _ from hb0))<|NT Z Z<|MV Z Z<|?_
 refine rw_caseN (j:=13) Z (fun h1=>?_) (fun h1=>?_)
 ·refine SKP Z<|PT Z Z Z Z<|MV Z Z<|SKP Z<|PT Z Z Z Z<|MV Z Z<|SKP Z<|PT Z Z Z Z<|MV Z Z<|SKP Z<|PT Z Z Z Z<|ND<|CT Z Z<|SQ<|RG<|AS Z Z<|AS Z Z<|ND<|?_
  refine ret_cn [] Tryz.func142 (res2 Tryz.func142 Z (rv_tmp Z) (rv_tmp Z)) ?_ ?_
  ·exact ⟨[],_,rfl,by simp,rfl⟩
  ·simp
 refine ON Z Z Z<|MV Z Z<|ON Z Z Z<|FA Z tyF_impl_Ring_1 Z<|ON Z Z Z<|LD (i:=0) Z tyP_int Z Z Z<|ON Z Z Z<|rw_lss Z Z Z<|PF Z Z Z Z<|MV Z Z<|?_
 refine rw_caseL (j:=19) Z (fun h2=>?_) (fun h2=>?_)
 ·refine SKP Z<|PT Z Z Z Z<|MV Z Z<|SKP Z<|PT Z Z Z Z<|MV Z Z<|SKP Z<|PT Z Z Z Z<|ND<|CT Z Z<|SQ<|RG<|AS Z Z<|AS Z Z<|ND<|?_
  refine ret_cn [] Tryz.func142 (res2 Tryz.func142 Z (rv_tmp Z) (rv_tmp Z)) ?_ ?_
  ·exact ⟨[],_,rfl,by simp,rfl⟩
  ·simp
 refine ON Z Z Z<|MV Z Z<|ON Z Z Z<|rw_lss Z Z Z<|PF Z Z Z Z<|MV Z Z<|?_
 refine rw_caseL (j:=23) Z (fun h3=>?_) (fun h3=>?_)
 ·refine SKP Z<|PT Z Z Z Z<|MV Z Z<|SKP Z<|PT Z Z Z Z<|ND<|CT Z Z<|SQ<|RG<|AS Z Z<|AS Z Z<|ND<|?_
  refine ret_cn [] Tryz.func142 (res2 Tryz.func142 Z (rv_tmp Z) (rv_tmp Z)) ?_ ?_
  ·exact ⟨[],_,rfl,by simp,rfl⟩
  ·simp
 refine ON Z Z Z<|MV Z Z<|ON Z Z Z<|FA Z tyF_impl_Ring_2 Z<|ON Z Z Z<|LD (i:=0) Z tyP_int Z Z Z<|ON Z Z Z<|rw_gtr Z Z Z<|PF Z Z Z Z<|MV Z Z<|?_
 refine rw_caseL (j:=29) Z (fun h4=>?_) (fun h4=>?_)
 ·refine SKP Z<|PT Z Z Z Z<|ND<|CT Z Z<|SQ<|RG<|AS Z Z<|AS Z Z<|ND<|?_
  refine ret_cn [] Tryz.func142 (res2 Tryz.func142 Z (rv_tmp Z) (rv_tmp Z)) ?_ ?_
  ·exact ⟨[],_,rfl,by simp,rfl⟩
  ·simp
 refine ON Z Z Z<|MV Z Z<|ON Z Z Z<|FA Z tyF_impl_Ring_2 Z<|ON Z Z Z<|LD (i:=0) Z tyP_int Z Z Z<|ON Z Z Z<|MV Z Z<|ON Z Z Z<|rw_sub Z Z Z<|ON Z Z Z<|rw_gtr Z Z Z<|PF Z Z Z Z<|ND<|?_
 refine gw_cond Z (fun h5=>?_) (fun h5=>?_)
 ·refine SQ<|RG<|AS Z Z<|AS Z Z<|ND<|?_
  refine ret_cn [] Tryz.func142 (res2 Tryz.func142 Z (rv_tmp Z) (rv_tmp Z)) ?_ ?_
  ·exact ⟨[],_,rfl,by simp,rfl⟩
  ·simp
 refine SK<|SQ<|RG<|AS Z Z<|ND<|SQ<|SQ<|RG<|AS Z Z<|ND<|BK<|?_
 have hring_:=h1
 have hpk_:=peek_ok hring_ h2 h3 h4 h5
 refine gw_loopC (α:=Nat × List UInt8) (fun z_=>(z_.1 : Int) ≤ m ∧ z_.2.length ≤ z_.1) (fun z_=>m.toNat - z_.1) (fun e z_=>(9,.int .i64 (z_.1 : Int)) :: (8,.string ⟨z_.2.toArray⟩) :: e) (0,[]) [(1,_),(2,_),(3,_),(6,_),(7,_)] (Sub.consE Z Z (Sub.consE Z Z (Sub.cons (i:=1) Z (Sub.cons (i:=2) Z (Sub.cons (i:=3) Z (Sub.cons (i:=6) Z (Sub.cons (i:=7) Z (Sub.nil _)))))))) ?_ ?_
 ·exact ⟨hpk_.2.1,Nat.le_refl _⟩
 ·rintro ⟨i,s⟩ hI1 ih1
  dsimp only at hI1
  dsimp only
  obtain ⟨hle,hsl⟩:=hI1
  refine SQ<|SQ<|RG<|MV Z Z<|MV Z Z<|rw_lss Z Z Z<|ND<|?_
  refine gw_cond Z (fun h6=>?_) (fun h6=>?_)
  ·obtain ⟨k2,hk2,hkl2⟩:=peek_at hring_ hpk_ h6
   refine SK<|SQ<|BK<|gw_draw' [dd 0,dd 1,dd 2,dd 3,dd 4,dd 5,dd 6,dd 7,dd 8,dd 9,dd 10,dd 11] [12,13] mixed Z (FD Z) (ts:=[_,_]) Z<|DM Z Z Z<|DT Z Z (fun _ q=>FA Z tyF_impl_Ring_3 Z q)<|DT Z Z (fun _ q=>LD (i:=0) Z tyP_S_int Z Z Z q)<|DM Z Z Z<|DM Z Z Z<|DT Z Z (fun _ q=>rw_add Z Z Z q)<|DT Z Z (fun _ q=>FA Z tyF_impl_Ring_0 Z q)<|?_
   refine DT Z Z (fun _ q=>LD (i:=0) Z tyP_int Z Z Z q)<|DT Z Z (fun _ q=>rw_rem Z Z Z (ring_nz hring_) q)<|?_
   obtain ⟨x3,hx3⟩:=get_of_lt hkl2
   have hd3:=drop_cons hx3
   have hq4:=hA0.plain hx3
   refine DT Z Z (fun _ q=>rw_indexAddr (k2) Z tyE_S_int Z Z hk2 (hA0.some hkl2) hkl2 q)<|DT Z Z (fun _ q=>rw_loadX _ Z tyP_int Z (fun w hs=>hq4.ld0 hs Z) q)<|DT Z Z (fun _ q=>CV1 Z fun_spec_l2Byte Z (fun w hs=>spec_l2Byte _ w) q)<|dw_nil<|rw_catS Z Z Z (by first | omega | (simp; done) | (simp; omega)) (by first | omega | (simp; done) | (simp; omega))<|AS Z Z<|ND<|IB<|RG<|MV Z Z<|rw_add Z Z Z<|AS Z Z<|ND<|?_
   refine gw_sub (Sub.consE (i:=9) Z (int_succ (by omega)) (Sub.consE (i:=8) Z Z (Sub.cons (i:=1) Z (Sub.cons (i:=2) Z (Sub.cons (i:=3) Z (Sub.cons (i:=6) Z (Sub.cons (i:=7) Z (Sub.nil _)))))))) (ih1 (i + 1,(s ++ [bytOf _])) ?_ ?_)
   ·exact ⟨by have:=of_decide_eq_true h6; omega,by simp only [List.length_append,List.length_cons,List.length_nil]; omega⟩
   ·show m.toNat - (i + 1) < m.toNat - i; have:=of_decide_eq_true h6; omega
  refine EX Z<|SQ<|RG<|MV Z Z<|AS Z Z<|AS Z Z<|ND<|?_
  refine ret_cn [] Tryz.func142 (res2 Tryz.func142 Z (rv_tmp Z) (rv_tmp Z)) ?_ ?_
  ·exact ⟨s,_,rfl,by omega,rfl⟩
  ·simp
end Go.Proofs.YtbhnekiclbfmgaaGreat
namespace Go.Proofs.YtbhnekiclbfmgaaGreat
open SL Go.RowKit
set_option maxHeartbeats 4000000 in
set_option maxRecDepth 20000 in
theorem spec_NextPiece {w : World} {cs : List Value} {x : Sender} (hv : RdSender w cs x) (hb : x.le 1048576) (m lim : Int) : CN Tryz.prog 86 [.agg cs.toArray, .int .i64 m, .int .i64 lim] w (fun v ch => ∃ p : Piece, v = .tuple #[.agg p.cells.toArray, .bool (nextOkS (isSenderS x) x m lim)] ∧ ch = []) := by
 obtain ⟨v0,v1,v2,v3,rfl,k0,k1,k2,k3⟩:=hv
 obtain ⟨A0,c0,rfl,hA0⟩:=k0
 obtain ⟨A1,c1,rfl,hA1⟩:=k1
 obtain ⟨A2,c2,rfl,hA2⟩:=k2
 obtain ⟨A3,c3,rfl,hA3⟩:=k3
 obtain ⟨hb0,hb1,hb2,hb3⟩:=hb
 refine cn_of Tryz.func86 Z Z Z<|SQ<|RG<|BX [_,_,_,_,_,_,_,_,_,_,_,_] Z Z Z<|fun b1=>AL Z tyZ_impl_Piece<|fun b2=>AS Z Z<|ND<|SQ<|SQ<|RG<|LS (i:=1) [_,_,_,_,_,_,_,_,_,_,_,_] Z tyS_impl_Sender Z Z Z Z<|CV1 Z fun_spec_IsSender Z (fun w hs=>spec_IsSender ⟨_,_,_,_,Z,(hA0.s Pl.keeps hs),(hA1.s Pl.keeps hs),(hA2.s Pl.keeps hs),(hA3.s Pl.keeps hs)⟩ ⟨hb0,hb1,hb2,hb3⟩)<|NT Z Z<|MV Z Z<|?_
 refine rw_caseN (j:=16) Z (fun h1=>?_) (fun h1=>?_)
 ·refine SKP Z<|PT Z Z Z Z<|ND<|CT Z Z<|SQ<|RG<|rw_build [_,_,_] Z tyB_impl_Piece tyZ_impl_Piece Z Z<|ST (i:=0) [_,_,_] [_,_,_] tyS_impl_Piece.sz Z Z Z Z Z Z Z Z<|AS Z Z<|ND<|?_
  have hok_ : nextOkS (isSenderS x) x m lim = false:=by simp [nextOkS,h1]
  refine ret_cn [] Tryz.func86 (res2 Tryz.func86 Z (rv_s (i:=0) [_,_,_] tyS_impl_Piece Z Z Z Z) (rv_tmp Z)) ?_ ?_
  ·exact ⟨⟨_,_,_⟩,by rw [hok_]; rfl,rfl⟩
  ·simp
 refine ON Z Z Z<|FA Z tyF_impl_Sender_0 Z<|ON Z Z Z<|LD (i:=1) Z tyP_int Z Z Z<|ON Z Z Z<|rw_gtr Z Z Z<|PF Z Z Z Z<|ND<|?_
 refine gw_cond Z (fun h2=>?_) (fun h2=>?_)
 ·refine SQ<|RG<|rw_build [_,_,_] Z tyB_impl_Piece tyZ_impl_Piece Z Z<|ST (i:=0) [_,_,_] [_,_,_] tyS_impl_Piece.sz Z Z Z Z Z Z Z Z<|AS Z Z<|ND<|?_
  have hok_ : nextOkS (isSenderS x) x m lim = false:=by simp [nextOkS,h1,h2]
  refine ret_cn [] Tryz.func86 (res2 Tryz.func86 Z (rv_s (i:=0) [_,_,_] tyS_impl_Piece Z Z Z Z) (rv_tmp Z)) ?_ ?_
  ·exact ⟨⟨_,_,_⟩,by rw [hok_]; rfl,rfl⟩
  ·simp
 refine SK<|SQ<|RG<|FA Z tyF_impl_Sender_5 Z<|LD (i:=1) Z tyP_int Z Z Z<|FA Z tyF_impl_Sender_6 Z<|LD (i:=1) Z tyP_int Z Z Z<|EQ1 Z Z Z<|rw_build [_,_,_] Z tyB_impl_Piece tyZ_impl_Piece Z Z<|AL Z tyZ_impl_Piece<|fun b3=>ST (i:=0) [_,_,_] [_,_,_] tyS_impl_Piece.sz Z Z Z Z Z Z Z Z<|ND<|SQ<|SQ<|RG<|FA Z tyF_impl_Sender_2 Z<|LD (i:=2) Z tyP_S_impl_Range Z Z Z<|rw_len Z tyE_S_impl_Range Z<|?_
 refine rw_gtr Z Z Z<|ND<|?_
 refine gw_cond Z (fun h3=>?_) (fun h3=>?_)
 ·have hps1 : 0 < x.pending.length:=by simpa using h3
  refine SQ<|RG<|FA Z tyF_impl_Sender_2 Z<|LD (i:=2) Z tyP_S_impl_Range Z Z Z<|?_
  have hi2 : 0 < x.pending.length:=by omega
  obtain ⟨x3,hx3⟩:=get_of_lt hi2
  have hd3:=drop_cons hx3
  have hq4:=hA1.plain hx3
  refine rw_indexAddr (0) Z tyE_S_impl_Range Z Z Z (hA1.some hi2) hi2<|rw_loadX_s [_,_] Z tyS_impl_Range Z Z (fun w hs=>hq4.lds0 (n:=2) hs Z)<|AL Z tyZ_impl_Range<|fun b4=>ST (i:=0) [_,_] [_,_] tyS_impl_Range.sz Z Z Z Z Z Z Z Z<|ND<|SQ<|RG<|FA Z tyF_impl_Range_1 Z<|LD (i:=0) Z tyP_int Z Z Z<|MV Z Z<|rw_min Z Z Z<|AS Z Z<|ND<|SQ<|SQ<|RG<|MV Z Z<|FA Z tyF_impl_Range_0 Z<|LD (i:=0) Z tyP_int Z Z Z<|?_
  refine rw_leq Z Z Z<|ND<|?_
  refine gw_cond Z (fun h4=>?_) (fun h4=>?_)
  ·refine SQ<|RG<|rw_build [_,_,_] Z tyB_impl_Piece tyZ_impl_Piece Z Z<|ST (i:=2) [_,_,_] [_,_,_] tyS_impl_Piece.sz Z Z Z Z Z Z Z Z<|AS Z Z<|ND<|?_
   have hok_ : nextOkS (isSenderS x) x m lim = false:=by rw [nextOkS_cons hx3]; simp [nextHigh,h1,h2,h4]
   refine ret_cn [] Tryz.func86 (res2 Tryz.func86 Z (rv_s (i:=2) [_,_,_] tyS_impl_Piece Z Z Z Z) (rv_tmp Z)) ?_ ?_
   ·exact ⟨⟨_,_,_⟩,by rw [hok_]; rfl,rfl⟩
   ·simp
  refine SK<|SQ<|SQ<|RG<|MV Z Z<|MV Z Z<|FA Z tyF_impl_Range_0 Z<|LD (i:=0) Z tyP_int Z Z Z<|rw_sub Z Z Z<|rw_lss Z Z Z<|ND<|?_
  refine gw_cond Z (fun h5=>?_) (fun h5=>?_)
  ·refine RG<|FA Z tyF_impl_Range_0 Z<|LD (i:=0) Z tyP_int Z Z Z<|MV Z Z<|rw_max Z Z Z<|rw_add Z Z Z<|AS Z Z<|ND<|SQ<|SQ<|RG<|MV Z Z<|FA Z tyF_impl_Range_0 Z<|LD (i:=0) Z tyP_int Z Z Z<|rw_leq Z Z Z<|ND<|?_
   refine gw_cond Z (fun h6=>?_) (fun h6=>?_)
   ·refine SQ<|RG<|rw_build [_,_,_] Z tyB_impl_Piece tyZ_impl_Piece Z Z<|ST (i:=2) [_,_,_] [_,_,_] tyS_impl_Piece.sz Z Z Z Z Z Z Z Z<|AS Z Z<|ND<|?_
    have hok_ : nextOkS (isSenderS x) x m lim = false:=by rw [nextOkS_cons hx3]; simp [nextHigh,h1,h2,h4,h5,h6]
    refine ret_cn [] Tryz.func86 (res2 Tryz.func86 Z (rv_s (i:=2) [_,_,_] tyS_impl_Piece Z Z Z Z) (rv_tmp Z)) ?_ ?_
    ·exact ⟨⟨_,_,_⟩,by rw [hok_]; rfl,rfl⟩
    ·simp
   refine SK<|SQ<|RG<|FA Z tyF_impl_Sender_1 Z<|LS (i:=3) [_,_,_,_] Z tyS_impl_Ring Z Z Z Z<|FA Z tyF_impl_Range_0 Z<|LD (i:=0) Z tyP_int Z Z Z<|MV Z Z<|FA Z tyF_impl_Range_0 Z<|LD (i:=0) Z tyP_int Z Z Z<|rw_sub Z Z Z<|CN1 Z fun_spec_PeekRing Z (fun w hs=>spec_PeekRing ⟨_,Z,(hA0.s Pl.keeps hs)⟩ hb0 _ _)<|fun v5 ch5 how5=>?_
   obtain ⟨D5,ok5,rfl,hD5,rfl⟩:=how5
   refine rw_F (F':=[]) (by simp only [aN])<|MV Z Z<|XT Z Z Z<|XT Z Z Z<|AS Z Z<|AS Z Z<|ND<|SQ<|RG<|FA Z tyF_impl_Range_0 Z<|LD (i:=0) Z tyP_int Z Z Z<|MV Z Z<|FA Z tyF_impl_Piece_2 Z<|LD (i:=1) Z tyP_bool Z Z Z<|MV Z Z<|?_
   refine rw_caseL (j:=78) Z (fun h7=>?_) (fun h7=>?_)
   ·refine ON Z Z Z<|MV Z Z<|ON Z Z Z<|FA Z tyF_impl_Sender_5 Z<|ON Z Z Z<|LD (i:=3) Z tyP_int Z Z Z<|ON Z Z Z<|EQ1 Z Z Z<|PT Z Z Z Z<|rw_build [_,_,_] Z tyB_impl_Piece tyZ_impl_Piece Z Z<|ST (i:=2) [_,_,_] [_,_,_] tyS_impl_Piece.sz Z Z Z Z Z Z Z Z<|AS Z Z<|ND<|?_
    have hok_ : nextOkS (isSenderS x) x m lim = true:=by rw [nextOkS_cons hx3]; simp [nextHigh,h1,h2,h4,h5,h6]
    refine ret_cn [] Tryz.func86 (res2 Tryz.func86 Z (rv_s (i:=2) [_,_,_] tyS_impl_Piece Z Z Z Z) (rv_tmp Z)) ?_ ?_
    ·exact ⟨⟨_,_,_⟩,by rw [hok_]; rfl,rfl⟩
    ·simp
   refine SKP Z<|PF Z Z Z Z<|rw_build [_,_,_] Z tyB_impl_Piece tyZ_impl_Piece Z Z<|ST (i:=2) [_,_,_] [_,_,_] tyS_impl_Piece.sz Z Z Z Z Z Z Z Z<|AS Z Z<|ND<|?_
   have hok_ : nextOkS (isSenderS x) x m lim = true:=by rw [nextOkS_cons hx3]; simp [nextHigh,h1,h2,h4,h5,h6]
   refine ret_cn [] Tryz.func86 (res2 Tryz.func86 Z (rv_s (i:=2) [_,_,_] tyS_impl_Piece Z Z Z Z) (rv_tmp Z)) ?_ ?_
   ·exact ⟨⟨_,_,_⟩,by rw [hok_]; rfl,rfl⟩
   ·simp
  refine SK<|SQ<|SQ<|RG<|MV Z Z<|FA Z tyF_impl_Range_0 Z<|LD (i:=0) Z tyP_int Z Z Z<|rw_leq Z Z Z<|ND<|?_
  refine gw_cond Z (fun h8=>?_) (fun h8=>?_)
  ·refine SQ<|RG<|rw_build [_,_,_] Z tyB_impl_Piece tyZ_impl_Piece Z Z<|ST (i:=2) [_,_,_] [_,_,_] tyS_impl_Piece.sz Z Z Z Z Z Z Z Z<|AS Z Z<|ND<|?_
   have hok_ : nextOkS (isSenderS x) x m lim = false:=by rw [nextOkS_cons hx3]; exact absurd h8 (by simp [h4])
   refine ret_cn [] Tryz.func86 (res2 Tryz.func86 Z (rv_s (i:=2) [_,_,_] tyS_impl_Piece Z Z Z Z) (rv_tmp Z)) ?_ ?_
   ·exact ⟨⟨_,_,_⟩,by rw [hok_]; rfl,rfl⟩
   ·simp
  refine SK<|SQ<|RG<|FA Z tyF_impl_Sender_1 Z<|LS (i:=3) [_,_,_,_] Z tyS_impl_Ring Z Z Z Z<|FA Z tyF_impl_Range_0 Z<|LD (i:=0) Z tyP_int Z Z Z<|MV Z Z<|FA Z tyF_impl_Range_0 Z<|LD (i:=0) Z tyP_int Z Z Z<|rw_sub Z Z Z<|CN1 Z fun_spec_PeekRing Z (fun w hs=>spec_PeekRing ⟨_,Z,(hA0.s Pl.keeps hs)⟩ hb0 _ _)<|fun v6 ch6 how6=>?_
  obtain ⟨D6,ok6,rfl,hD6,rfl⟩:=how6
  refine rw_F (F':=[]) (by simp only [aN])<|MV Z Z<|XT Z Z Z<|XT Z Z Z<|AS Z Z<|AS Z Z<|ND<|SQ<|RG<|FA Z tyF_impl_Range_0 Z<|LD (i:=0) Z tyP_int Z Z Z<|MV Z Z<|FA Z tyF_impl_Piece_2 Z<|LD (i:=1) Z tyP_bool Z Z Z<|MV Z Z<|?_
  refine rw_caseL (j:=78) Z (fun h9=>?_) (fun h9=>?_)
  ·refine ON Z Z Z<|MV Z Z<|ON Z Z Z<|FA Z tyF_impl_Sender_5 Z<|ON Z Z Z<|LD (i:=3) Z tyP_int Z Z Z<|ON Z Z Z<|EQ1 Z Z Z<|PT Z Z Z Z<|rw_build [_,_,_] Z tyB_impl_Piece tyZ_impl_Piece Z Z<|ST (i:=2) [_,_,_] [_,_,_] tyS_impl_Piece.sz Z Z Z Z Z Z Z Z<|AS Z Z<|ND<|?_
   have hok_ : nextOkS (isSenderS x) x m lim = true:=by rw [nextOkS_cons hx3]; simp [nextHigh,h1,h2,h4,h5]
   refine ret_cn [] Tryz.func86 (res2 Tryz.func86 Z (rv_s (i:=2) [_,_,_] tyS_impl_Piece Z Z Z Z) (rv_tmp Z)) ?_ ?_
   ·exact ⟨⟨_,_,_⟩,by rw [hok_]; rfl,rfl⟩
   ·simp
  refine SKP Z<|PF Z Z Z Z<|rw_build [_,_,_] Z tyB_impl_Piece tyZ_impl_Piece Z Z<|ST (i:=2) [_,_,_] [_,_,_] tyS_impl_Piece.sz Z Z Z Z Z Z Z Z<|AS Z Z<|ND<|?_
  have hok_ : nextOkS (isSenderS x) x m lim = true:=by rw [nextOkS_cons hx3]; simp [nextHigh,h1,h2,h4,h5]
  refine ret_cn [] Tryz.func86 (res2 Tryz.func86 Z (rv_s (i:=2) [_,_,_] tyS_impl_Piece Z Z Z Z) (rv_tmp Z)) ?_ ?_
  ·exact ⟨⟨_,_,_⟩,by rw [hok_]; rfl,rfl⟩
  ·simp
 have hz7 : x.pending = []:=by simpa using h3
 refine SK<|SQ<|SQ<|RG<|FA Z tyF_impl_Piece_2 Z<|LD (i:=0) Z tyP_bool Z Z Z<|NT Z Z<|ND<|?_
 refine gw_condN Z (fun h10=>?_) (fun h10=>?_)
 ·refine SQ<|RG<|rw_build [_,_,_] Z tyB_impl_Piece tyZ_impl_Piece Z Z<|ST (i:=1) [_,_,_] [_,_,_] tyS_impl_Piece.sz Z Z Z Z Z Z Z Z<|AS Z Z<|ND<|?_
  have hok_ : nextOkS (isSenderS x) x m lim = false:=by rw [nextOkS_nil hz7]; simp [h1,h2,h10]
  refine ret_cn [] Tryz.func86 (res2 Tryz.func86 Z (rv_s (i:=1) [_,_,_] tyS_impl_Piece Z Z Z Z) (rv_tmp Z)) ?_ ?_
  ·exact ⟨⟨_,_,_⟩,by rw [hok_]; rfl,rfl⟩
  ·simp
 refine SK<|SQ<|RG<|LS (i:=0) [_,_,_] Z tyS_impl_Piece Z Z Z Z<|ST (i:=1) [_,_,_] [_,_,_] tyS_impl_Piece.sz Z Z Z Z Z Z Z Z<|AS Z Z<|ND<|?_
 have hok_ : nextOkS (isSenderS x) x m lim = true:=by rw [nextOkS_nil hz7]; simp [h1,h2,h10]
 refine ret_cn [] Tryz.func86 (res2 Tryz.func86 Z (rv_s (i:=1) [_,_,_] tyS_impl_Piece Z Z Z Z) (rv_tmp Z)) ?_ ?_
 ·exact ⟨⟨_,_,_⟩,by rw [hok_]; rfl,rfl⟩
 ·simp
end Go.Proofs.YtbhnekiclbfmgaaGreat
namespace Go.Proofs.YtbhnekiclbfmgaaGreat
open SL Go.RowKit
set_option maxHeartbeats 4000000 in
set_option maxRecDepth 20000 in
theorem spec_l9Some {w : World} {b cp i : Nat} {A : Option Addr} {l : List UInt8} {h : Int} {ch : List Ck} (hX : RdbX byC w A l ((cur b A l.length cp i h :: ch).map Ck.b)) (hi : i ≤ l.length) {cs : List Value} {x : Sender} (hO : OwSender cs x ch) {K : Nat} (hF : FineS K x) (hK : K ≤ 200) (hin : ∀ c ∈ (cur b A l.length cp i h :: ch), c.In w) (hnd : ((cur b A l.length cp i h :: ch).map Ck.b).Nodup) : CH Tryz.prog 185 [.pointer (some ⟨b, 0, none⟩), .agg cs.toArray] w (cur b A l.length cp i h :: ch) (Drew (fun p : Piece => .agg p.cells.toArray) (fun _ => True) b A l.length cp ch) := by
 obtain ⟨vx_0,vx_1,vx_2,vx_3,cx_0,cx_1,cx_2,cx_3,rfl,hx_0,hx_1,hx_2,hx_3,rfl⟩:=hO
 obtain ⟨Rx_0,bx_0,rfl,hRx_0,hrdx_0⟩:=hx_0.shape eInt
 obtain ⟨Rx_1,bx_1,rfl,hRx_1,hrdx_1⟩:=hx_1.shape eRange
 obtain ⟨Rx_2,bx_2,rfl,hRx_2,hrdx_2⟩:=hx_2.shape eRange
 obtain ⟨Rx_3,bx_3,rfl,hRx_3,hrdx_3⟩:=hx_3.shape eRange
 obtain ⟨hb0,hb1,hb2,hb3⟩:=FineS.le hF (by omega)
 obtain ⟨_,hlf_,_⟩:=FineS.lens hF (by omega)
 have hlf2_ : x.flight.length ≤ 201:=by have h1:=hF.f.len hF.hf (by have:=hF.e0; omega); have:=hF.eK; omega
 refine ch_of hin hnd Tryz.func185 Z Z Z<|gw_F (F':=[cur b A l.length cp i h] ++ (cx_0 ++ (cx_1 ++ (cx_2 ++ (cx_3 ++ ([])))))) (by simp only [List.cons_append,List.nil_append,List.append_nil])<|SQ<|RG<|BX [_,_,_,_,_,_,_,_,_,_,_,_] Z Z Z<|fun b1=>AL Z tyZ_impl_Piece<|fun b2=>ND<|SQ<|SQ<|RG<|FA Z tyF_impl_Sender_3 Z<|LD (i:=1) Z tyP_S_impl_Range Z Z Z<|rw_len Z tyE_S_impl_Range Z<|EQ1 Z Z Z<|ND<|?_
 refine gw_cond Z (fun h1=>?_) (fun h1=>?_)
 ·refine SQ<|RG<|FA Z tyF_impl_Sender_5 Z<|LD (i:=1) Z tyP_int Z Z Z<|rw_max Z Z Z<|FA Z tyF_impl_Sender_6 Z<|LD (i:=1) Z tyP_int Z Z Z<|EQ1 Z Z Z<|rw_build [_,_,_] Z tyB_impl_Piece tyZ_impl_Piece Z Z<|ST (i:=0) [_,_,_] [_,_,_] tyS_impl_Piece.sz Z Z Z Z Z Z Z Z<|ND<|?_
  refine gw_FP (pg PR (pg PR (pg PR (pg PR (pg PR PR))))) (gw_F (F':=(cur b A l.length cp i h :: (cx_0 ++ (cx_1 ++ (cx_2 ++ (cx_3))))) ++ ([])) (by simp only [nA,aN,cA]) ?_)
  refine ret_ch (cur b A l.length cp i h :: (cx_0 ++ (cx_1 ++ (cx_2 ++ (cx_3))))) Tryz.func185 (res1 Tryz.func185 Z (rv_s (i:=0) [_,_,_] tyS_impl_Piece Z Z Z Z)) ?_ ?_
  ·exact ⟨⟨_,_,_⟩,_,_,rfl,trivial,hi,rfl⟩
  ·exact (List.sublist_append_left _ _).trans (List.sublist_append_right _ _)
 have hpos_:=pos_of_ne h1
 refine SK<|SQ<|gw_draw' [(0,.detB),(1,.detB),dd 2,dd 3,dd 4,dd 5,(6,.chg),dd 7,dd 8,(9,(.free 132 [.int .i64 0,.int .i64 0]))] [10] mixed Z (free_detB (free_detB (free_det (free_det (free_det (free_det (free_chg (free_det (free_det (free_new Z Z tyZ_impl_Range free_nil)))))))))) (ts:=[_]) Z<|dw_detB Z Z (fun _ q=>FA Z tyF_impl_Sender_3 Z q)<|dw_detB Z Z (fun _ q=>LD (i:=1) Z tyP_S_impl_Range Z Z Z q)<|DM Z Z Z<|?_
 refine DT Z Z (fun _ q=>FA Z tyF_impl_Sender_3 Z q)<|DT Z Z (fun _ q=>LD (i:=1) Z tyP_S_impl_Range Z Z Z q)<|DT Z Z (fun _ q=>rw_len Z tyE_S_impl_Range Z q)<|dw_chg Z Z (fun _ q=>rw_ch (G:=[cur b A l.length cp i h]) (R:=cx_0 ++ (cx_1 ++ (cx_2 ++ (cx_3 ++ ([]))))) Z fun_spec_l1Below Z ((pg PR PR)) (fun w hs hin hnd=>spec_l1Below ((RdbX.own hX hs (pg PR PR)).b) hi (n:=x.flight.length) hpos_ (by omega) hin hnd) q)<|fun v1 ch1 how1=>?_
 obtain ⟨x1,i1,k1,rfl,hx1,hi1,rfl⟩:=how1
 obtain ⟨x2,hx2⟩:=get_of_lt hx1
 have hd2:=drop_cons hx2
 refine DT Z Z (fun _ q=>rw_indexAddr (x1) Z tyE_S_impl_Range Z Z Z (hRx_2 (Nat.zero_lt_of_lt hx1)) hx1 q)<|DT Z Z (fun _ q=>rw_loadX_s [_,_] Z tyS_impl_Range Z Z (fun w hs=>((hrdx_2 _ (fun c hc=>hs.at_ c (MR (MR (MR (MR (ML hc))))))).plain hx2).cut0 (n:=2) Z) q)<|dw_free Z Z<|fun b3=>dw_nil<|rw_take<|ST (i:=0) [_,_] [_,_] tyS_impl_Range.sz Z Z Z Z Z Z Z Z<|ND<|SQ<|RG<|FA Z tyF_impl_Sender_1 Z<|LS (i:=2) [_,_,_,_] Z tyS_impl_Ring Z Z Z Z<|?_
 refine FA Z tyF_impl_Range_0 Z<|LD (i:=0) Z tyP_int Z Z Z<|FA Z tyF_impl_Range_1 Z<|LD (i:=0) Z tyP_int Z Z Z<|FA Z tyF_impl_Range_0 Z<|LD (i:=0) Z tyP_int Z Z Z<|rw_sub Z Z Z<|CN1 Z fun_spec_PeekRing Z (fun w hs=>spec_PeekRing ⟨_,Z,⟨_,_,Z,hrdx_0 _ (fun c hc=>hs.at_ c (MR (MR (ML hc))))⟩⟩ hb0 _ _)<|fun v3 ch3 how3=>?_
 obtain ⟨D3,ok3,rfl,hD3,rfl⟩:=how3
 refine rw_F (F':=[cur b A l.length cp i1 k1] ++ (cx_0 ++ (cx_1 ++ (cx_2 ++ (cx_3 ++ ([])))))) (by simp only [nA,aN,cA])<|MV Z Z<|XT Z Z Z<|XT Z Z Z<|AS Z Z<|AS Z Z<|ND<|SQ<|gw_draw' [(0,.detB),(1,.detB),(2,.detB),dd 3,dd 4,dd 5,dd 6,dd 7,dd 8,dd 9,dd 10,dd 11,dd 12,dd 13,dd 14,(15,.chg),dd 16] [17,18] mixed Z (FD Z) (ts:=[_,_]) Z<|dw_detB Z Z (fun _ q=>FA Z tyF_impl_Range_0 Z q)<|?_
 refine dw_detB Z Z (fun _ q=>LD (i:=0) Z tyP_int Z Z Z q)<|dw_detB Z Z (fun _ q=>MV Z Z q)<|DT Z Z (fun _ q=>FA Z tyF_impl_Sender_6 Z q)<|DT Z Z (fun _ q=>LD (i:=2) Z tyP_int Z Z Z q)<|DT Z Z (fun _ q=>EQ1 Z Z Z q)<|DM Z Z Z<|?_
 refine dw_caseL (j:=47) Z (fun h2=>?_) (fun h2=>?_)
 ·refine DT Z Z (fun _ q=>ON Z Z Z (FA Z tyF_impl_Range_1 Z q))<|DT Z Z (fun _ q=>ON Z Z Z (LD (i:=0) Z tyP_int Z Z Z q))<|DT Z Z (fun _ q=>ON Z Z Z (FA Z tyF_impl_Sender_5 Z q))<|DT Z Z (fun _ q=>ON Z Z Z (LD (i:=2) Z tyP_int Z Z Z q))<|DT Z Z (fun _ q=>ON Z Z Z (EQ1 Z Z Z q))<|DT Z Z (fun _ q=>PT Z Z Z Z q)<|DM Z Z Z<|?_
  refine dw_caseL (j:=54) Z (fun h3=>?_) (fun h3=>?_)
  ·refine DT Z Z (fun _ q=>ON Z Z Z (MV Z Z q))<|dw_chg Z Z (fun _ q=>ON Z Z Z (rw_ch (G:=[cur b A l.length cp i1 k1]) (R:=cx_0 ++ (cx_1 ++ (cx_2 ++ (cx_3 ++ ([]))))) Z fun_spec_l1Once Z ((pg PR PR)) (fun w hs hin hnd=>spec_l1Once ((RdbX.own hX hs (pg PR PR)).b) hi1 (n:=2) (by first | decide | omega) (by first | decide | omega) hin hnd) q))<|fun v4 ch4 how4=>?_
   obtain ⟨x4,i4,k4,rfl,hx4,hi4,rfl⟩:=how4
   refine DT Z Z (fun _ q=>PT Z Z Z Z q)<|dw_nil<|rw_build [_,_,_] Z tyB_impl_Piece tyZ_impl_Piece Z Z<|ST (i:=1) [_,_,_] [_,_,_] tyS_impl_Piece.sz Z Z Z Z Z Z Z Z<|ND<|?_
   refine gw_FP (pg PR (pg PR (pg PR (pg PR (pg PR PR))))) (gw_F (F':=(cur b A l.length cp i4 k4 :: (cx_0 ++ (cx_1 ++ (cx_2 ++ (cx_3))))) ++ ([])) (by simp only [nA,aN,cA]) ?_)
   refine ret_ch (cur b A l.length cp i4 k4 :: (cx_0 ++ (cx_1 ++ (cx_2 ++ (cx_3))))) Tryz.func185 (res1 Tryz.func185 Z (rv_s (i:=1) [_,_,_] tyS_impl_Piece Z Z Z Z)) ?_ ?_
   ·exact ⟨⟨_,_,_⟩,_,_,rfl,trivial,hi4,rfl⟩
   ·exact (List.sublist_append_left _ _).trans (List.sublist_append_right _ _)
  refine DSK Z<|DT Z Z (fun _ q=>PF Z Z Z Z q)<|dw_nil<|rw_build [_,_,_] Z tyB_impl_Piece tyZ_impl_Piece Z Z<|ST (i:=1) [_,_,_] [_,_,_] tyS_impl_Piece.sz Z Z Z Z Z Z Z Z<|ND<|?_
  refine gw_FP (pg PR (pg PR (pg PR (pg PR (pg PR PR))))) (gw_F (F':=(cur b A l.length cp i1 k1 :: (cx_0 ++ (cx_1 ++ (cx_2 ++ (cx_3))))) ++ ([])) (by simp only [nA,aN,cA]) ?_)
  refine ret_ch (cur b A l.length cp i1 k1 :: (cx_0 ++ (cx_1 ++ (cx_2 ++ (cx_3))))) Tryz.func185 (res1 Tryz.func185 Z (rv_s (i:=1) [_,_,_] tyS_impl_Piece Z Z Z Z)) ?_ ?_
  ·exact ⟨⟨_,_,_⟩,_,_,rfl,trivial,hi1,rfl⟩
  ·exact (List.sublist_append_left _ _).trans (List.sublist_append_right _ _)
 refine DSK Z<|DT Z Z (fun _ q=>PF Z Z Z Z q)<|DM Z Z Z<|DSK Z<|DT Z Z (fun _ q=>PF Z Z Z Z q)<|dw_nil<|rw_build [_,_,_] Z tyB_impl_Piece tyZ_impl_Piece Z Z<|ST (i:=1) [_,_,_] [_,_,_] tyS_impl_Piece.sz Z Z Z Z Z Z Z Z<|ND<|?_
 refine gw_FP (pg PR (pg PR (pg PR (pg PR (pg PR PR))))) (gw_F (F':=(cur b A l.length cp i1 k1 :: (cx_0 ++ (cx_1 ++ (cx_2 ++ (cx_3))))) ++ ([])) (by simp only [nA,aN,cA]) ?_)
 refine ret_ch (cur b A l.length cp i1 k1 :: (cx_0 ++ (cx_1 ++ (cx_2 ++ (cx_3))))) Tryz.func185 (res1 Tryz.func185 Z (rv_s (i:=1) [_,_,_] tyS_impl_Piece Z Z Z Z)) ?_ ?_
 ·exact ⟨⟨_,_,_⟩,_,_,rfl,trivial,hi1,rfl⟩
 ·exact (List.sublist_append_left _ _).trans (List.sublist_append_right _ _)
end Go.Proofs.YtbhnekiclbfmgaaGreat
namespace Go.Proofs.YtbhnekiclbfmgaaGreat
open SL Go.RowKit
set_option maxHeartbeats 8000000 in
set_option maxRecDepth 20000 in
theorem spec_l9Step {w : World} {b cp i : Nat} {A : Option Addr} {l : List UInt8} {h : Int} {ch : List Ck} (hX : RdbX byC w A l ((cur b A l.length cp i h :: ch).map Ck.b)) (hi : i ≤ l.length) {cs : List Value} {x : Sender} (hO : OwSender cs x ch) {K : Nat} (hF : FineS K x) (hK : K ≤ 190) (hin : ∀ c ∈ (cur b A l.length cp i h :: ch), c.In w) (hnd : ((cur b A l.length cp i h :: ch).map Ck.b).Nodup) : CH Tryz.prog 175 [.pointer (some ⟨b, 0, none⟩), .agg cs.toArray] w (cur b A l.length cp i h :: ch) (DrewO OwSender (FineS (K + 5)) b A l.length cp) := by
 obtain ⟨vx_0,vx_1,vx_2,vx_3,cx_0,cx_1,cx_2,cx_3,rfl,hx_0,hx_1,hx_2,hx_3,rfl⟩:=hO
 obtain ⟨Rx_0,bx_0,rfl,hRx_0,hrdx_0⟩:=hx_0.shape eInt
 obtain ⟨Rx_1,bx_1,rfl,hRx_1,hrdx_1⟩:=hx_1.shape eRange
 obtain ⟨Rx_2,bx_2,rfl,hRx_2,hrdx_2⟩:=hx_2.shape eRange
 obtain ⟨Rx_3,bx_3,rfl,hRx_3,hrdx_3⟩:=hx_3.shape eRange
 obtain ⟨hb0,hb1,hb2,hb3⟩:=FineS.le hF (by omega)
 refine ch_of hin hnd Tryz.func175 Z Z Z<|gw_F (F':=[cur b A l.length cp i h] ++ (cx_0 ++ (cx_1 ++ (cx_2 ++ (cx_3 ++ ([])))))) (by simp only [List.cons_append,List.nil_append,List.append_nil])<|SQ<|RG<|BX [_,_,_,_,_,_,_,_,_,_,_,_] Z Z Z<|fun b1=>AL Z tyZ_impl_Sender<|fun b2=>ND<|SQ<|RG<|LS (i:=1) [_,_,_,_,_,_,_,_,_,_,_,_] Z tyS_impl_Sender Z Z Z Z<|AL Z tyZ_impl_Sender<|fun b3=>rw_storeN (i:=0) [_,_,_,_,_,_,_,_,_,_,_,_] [_,_,_,_,_,_,_,_,_,_,_,_] [_,_,_] tyS_impl_Sender.sz Z Z Z Z Z Z Z Z Z<|?_
 refine ND<|SQ<|SQ<|RG<|MV Z Z<|rw_ch (G:=[cur b A l.length cp i h]) (R:=cx_0 ++ (cx_1 ++ (cx_2 ++ (cx_3 ++ ([]))))) Z fun_spec_l1Below Z ((pg PR PR)) (fun w hs hin hnd=>spec_l1Below ((RdbX.own hX hs (pg PR PR)).b) hi (n:=10) (by first | decide | omega) (by first | decide | omega) hin hnd)<|fun v1 ch1 how1=>?_
 obtain ⟨x1,i1,k1,rfl,hx1,hi1,rfl⟩:=how1
 refine ND<|BK<|SQ<|SQ<|RG<|EQ1 Z Z Z<|AS Z Z<|ND<|?_
 refine gw_cond Z (fun h1=>?_) (fun h1=>?_)
 ·refine SK<|CT Z h1<|gw_drawF [(0,.detB),(1,.det),(2,.chg),(3,.add),(4,.det),(6,.det)] [5,7] 6 mixed Z (FD Z)<|dw_detB Z Z (fun _ q=>LS (i:=2) [_,_,_,_,_,_,_,_,_,_,_,_] Z tyS_impl_Sender Z Z Z Z q)<|DM Z Z Z<|dw_chg Z Z (fun _ q=>rw_ch (G:=[cur b A l.length cp i1 k1]) (R:=cx_0 ++ (cx_1 ++ (cx_2 ++ (cx_3 ++ ([]))))) Z fun_spec_l4Data Z ((pg PR PR)) (fun w hs hin hnd=>spec_l4Data ((RdbX.own hX hs (pg PR PR)).b) hi1 (m:=5) (by first | decide | omega) hin hnd) q)<|fun v2 ch2 how2=>?_
  obtain ⟨x2,i2,k2,rfl,hx2,hi2,rfl⟩:=how2
  refine DA Z Z (fun _ q=>CN1 Z fun_spec_WriteSender Z (fun w hs=>spec_WriteSender ⟨_,_,_,_,Z,⟨_,_,Z,hrdx_0 _ (fun c hc=>hs.at_ c (MR (MR (ML hc))))⟩,⟨_,_,Z,hrdx_1 _ (fun c hc=>hs.at_ c (MR (MR (MR (ML hc)))))⟩,⟨_,_,Z,hrdx_2 _ (fun c hc=>hs.at_ c (MR (MR (MR (MR (ML hc))))))⟩,⟨_,_,Z,hrdx_3 _ (fun c hc=>hs.at_ c (MR (MR (MR (MR (MR (ML hc)))))))⟩⟩ hF (by omega) (by omega)) q)<|fun v3 ch3 how3=>?_
  obtain ⟨cs3,s3,r3,rfl,how3,hF3⟩:=how3
  obtain ⟨v3_0,v3_1,v3_2,v3_3,c3_0,c3_1,c3_2,c3_3,rfl,h3_0,h3_1,h3_2,h3_3,rfl⟩:=how3
  obtain ⟨R3_0,b3_0,rfl,hR3_0,hrd3_0⟩:=h3_0.shape eInt
  obtain ⟨R3_1,b3_1,rfl,hR3_1,hrd3_1⟩:=h3_1.shape eRange
  obtain ⟨R3_2,b3_2,rfl,hR3_2,hrd3_2⟩:=h3_2.shape eRange
  obtain ⟨R3_3,b3_3,rfl,hR3_3,hrd3_3⟩:=h3_3.shape eRange
  refine dw_F (F':=c3_0 ++ (c3_1 ++ (c3_2 ++ (c3_3 ++ ([cur b A l.length cp i2 k2] ++ (cx_0 ++ (cx_1 ++ (cx_2 ++ (cx_3 ++ ([])))))))))) (by simp only [aA,nA,aN,cA])<|DM Z Z Z<|DT Z Z (fun _ q=>XT Z Z Z q)<|dw_nil<|?_
  refine ⟨fp_of Z Z Z (fun _ q=>XT Z Z Z q),?_⟩
  refine cw_det Z Z (fun _ q=>XT Z Z Z q)<|cw_st Z Z (fun _ q=>rw_storeN (i:=0) [_,_,_,_,_,_,_,_,_,_,_,_] [_,_,_,_,_,_,_,_,_,_,_,_] [_,_,_] tyS_impl_Sender.sz Z Z Z Z Z Z Z Z Z q)<|cw_nil<|IB<|SQ<|RG<|LS (i:=0) [_,_,_,_,_,_,_,_,_,_,_,_] Z tyS_impl_Sender Z Z Z Z<|rw_storeN (i:=1) [_,_,_,_,_,_,_,_,_,_,_,_] [_,_,_,_,_,_,_,_,_,_,_,_] [_,_,_] tyS_impl_Sender.sz Z Z Z Z Z Z Z Z Z<|ND<|?_
  refine gw_FP (pg (pp (pp (pp (pp PR)))) (pg PR (pg PR (pg PR (pg PR PR))))) (gw_F (F':=(cur b A l.length cp i2 k2 :: (c3_0 ++ (c3_1 ++ (c3_2 ++ (c3_3))))) ++ (cx_0 ++ (cx_1 ++ (cx_2 ++ (cx_3 ++ ([])))))) (by simp only [aA,nA,aN,cA]) ?_)
  refine ret_ch (cur b A l.length cp i2 k2 :: (c3_0 ++ (c3_1 ++ (c3_2 ++ (c3_3))))) Tryz.func175 (res1 Tryz.func175 Z (rv_s (i:=1) [_,_,_,_,_,_,_,_,_,_,_,_] tyS_impl_Sender Z Z Z Z)) ?_ ?_
  ·refine ⟨_,_,_,_,_,Z,owSender_mk h3_0 h3_1 h3_2 h3_3,?_,hi2,Z⟩
   exact hF3.mono (by omega)
  ·exact (List.sublist_append_left _ _).trans (List.sublist_append_right _ _)
 refine SQ<|RG<|EQ1 Z Z Z<|AS Z Z<|ND<|?_
 refine gw_cond Z (fun h2=>?_) (fun h2=>?_)
 ·refine SK<|CT Z h2<|gw_drawF [(0,.detB),(1,.det),(2,.chg),(3,.add),(4,.det),(6,.det)] [5,7] 6 mixed Z (FD Z)<|dw_detB Z Z (fun _ q=>LS (i:=2) [_,_,_,_,_,_,_,_,_,_,_,_] Z tyS_impl_Sender Z Z Z Z q)<|DM Z Z Z<|dw_chg Z Z (fun _ q=>rw_ch (G:=[cur b A l.length cp i1 k1]) (R:=cx_0 ++ (cx_1 ++ (cx_2 ++ (cx_3 ++ ([]))))) Z fun_spec_l4Data Z ((pg PR PR)) (fun w hs hin hnd=>spec_l4Data ((RdbX.own hX hs (pg PR PR)).b) hi1 (m:=5) (by first | decide | omega) hin hnd) q)<|fun v4 ch4 how4=>?_
  obtain ⟨x4,i4,k4,rfl,hx4,hi4,rfl⟩:=how4
  refine DA Z Z (fun _ q=>CN1 Z fun_spec_WriteSender Z (fun w hs=>spec_WriteSender ⟨_,_,_,_,Z,⟨_,_,Z,hrdx_0 _ (fun c hc=>hs.at_ c (MR (MR (ML hc))))⟩,⟨_,_,Z,hrdx_1 _ (fun c hc=>hs.at_ c (MR (MR (MR (ML hc)))))⟩,⟨_,_,Z,hrdx_2 _ (fun c hc=>hs.at_ c (MR (MR (MR (MR (ML hc))))))⟩,⟨_,_,Z,hrdx_3 _ (fun c hc=>hs.at_ c (MR (MR (MR (MR (MR (ML hc)))))))⟩⟩ hF (by omega) (by omega)) q)<|fun v5 ch5 how5=>?_
  obtain ⟨cs5,s5,r5,rfl,how5,hF5⟩:=how5
  obtain ⟨v5_0,v5_1,v5_2,v5_3,c5_0,c5_1,c5_2,c5_3,rfl,h5_0,h5_1,h5_2,h5_3,rfl⟩:=how5
  obtain ⟨R5_0,b5_0,rfl,hR5_0,hrd5_0⟩:=h5_0.shape eInt
  obtain ⟨R5_1,b5_1,rfl,hR5_1,hrd5_1⟩:=h5_1.shape eRange
  obtain ⟨R5_2,b5_2,rfl,hR5_2,hrd5_2⟩:=h5_2.shape eRange
  obtain ⟨R5_3,b5_3,rfl,hR5_3,hrd5_3⟩:=h5_3.shape eRange
  refine dw_F (F':=c5_0 ++ (c5_1 ++ (c5_2 ++ (c5_3 ++ ([cur b A l.length cp i4 k4] ++ (cx_0 ++ (cx_1 ++ (cx_2 ++ (cx_3 ++ ([])))))))))) (by simp only [aA,nA,aN,cA])<|DM Z Z Z<|DT Z Z (fun _ q=>XT Z Z Z q)<|dw_nil<|?_
  refine ⟨fp_of Z Z Z (fun _ q=>XT Z Z Z q),?_⟩
  refine cw_det Z Z (fun _ q=>XT Z Z Z q)<|cw_st Z Z (fun _ q=>rw_storeN (i:=0) [_,_,_,_,_,_,_,_,_,_,_,_] [_,_,_,_,_,_,_,_,_,_,_,_] [_,_,_] tyS_impl_Sender.sz Z Z Z Z Z Z Z Z Z q)<|cw_nil<|IB<|SQ<|RG<|LS (i:=0) [_,_,_,_,_,_,_,_,_,_,_,_] Z tyS_impl_Sender Z Z Z Z<|rw_storeN (i:=1) [_,_,_,_,_,_,_,_,_,_,_,_] [_,_,_,_,_,_,_,_,_,_,_,_] [_,_,_] tyS_impl_Sender.sz Z Z Z Z Z Z Z Z Z<|ND<|?_
  refine gw_FP (pg (pp (pp (pp (pp PR)))) (pg PR (pg PR (pg PR (pg PR PR))))) (gw_F (F':=(cur b A l.length cp i4 k4 :: (c5_0 ++ (c5_1 ++ (c5_2 ++ (c5_3))))) ++ (cx_0 ++ (cx_1 ++ (cx_2 ++ (cx_3 ++ ([])))))) (by simp only [aA,nA,aN,cA]) ?_)
  refine ret_ch (cur b A l.length cp i4 k4 :: (c5_0 ++ (c5_1 ++ (c5_2 ++ (c5_3))))) Tryz.func175 (res1 Tryz.func175 Z (rv_s (i:=1) [_,_,_,_,_,_,_,_,_,_,_,_] tyS_impl_Sender Z Z Z Z)) ?_ ?_
  ·refine ⟨_,_,_,_,_,Z,owSender_mk h5_0 h5_1 h5_2 h5_3,?_,hi4,Z⟩
   exact hF5.mono (by omega)
  ·exact (List.sublist_append_left _ _).trans (List.sublist_append_right _ _)
 refine RG<|EQ1 Z Z Z<|AS Z Z<|ND<|?_
 refine gw_cond Z (fun h3=>?_) (fun h3=>?_)
 ·refine gw_drawF [(0,.detB),(1,.det),(2,.chg),(3,.add),(4,.det),(6,.det)] [5,7] 6 mixed Z (FD Z)<|dw_detB Z Z (fun _ q=>LS (i:=2) [_,_,_,_,_,_,_,_,_,_,_,_] Z tyS_impl_Sender Z Z Z Z q)<|DM Z Z Z<|dw_chg Z Z (fun _ q=>rw_ch (G:=[cur b A l.length cp i1 k1]) (R:=cx_0 ++ (cx_1 ++ (cx_2 ++ (cx_3 ++ ([]))))) Z fun_spec_l4Data Z ((pg PR PR)) (fun w hs hin hnd=>spec_l4Data ((RdbX.own hX hs (pg PR PR)).b) hi1 (m:=5) (by first | decide | omega) hin hnd) q)<|fun v6 ch6 how6=>?_
  obtain ⟨x6,i6,k6,rfl,hx6,hi6,rfl⟩:=how6
  refine DA Z Z (fun _ q=>CN1 Z fun_spec_WriteSender Z (fun w hs=>spec_WriteSender ⟨_,_,_,_,Z,⟨_,_,Z,hrdx_0 _ (fun c hc=>hs.at_ c (MR (MR (ML hc))))⟩,⟨_,_,Z,hrdx_1 _ (fun c hc=>hs.at_ c (MR (MR (MR (ML hc)))))⟩,⟨_,_,Z,hrdx_2 _ (fun c hc=>hs.at_ c (MR (MR (MR (MR (ML hc))))))⟩,⟨_,_,Z,hrdx_3 _ (fun c hc=>hs.at_ c (MR (MR (MR (MR (MR (ML hc)))))))⟩⟩ hF (by omega) (by omega)) q)<|fun v7 ch7 how7=>?_
  obtain ⟨cs7,s7,r7,rfl,how7,hF7⟩:=how7
  obtain ⟨v7_0,v7_1,v7_2,v7_3,c7_0,c7_1,c7_2,c7_3,rfl,h7_0,h7_1,h7_2,h7_3,rfl⟩:=how7
  obtain ⟨R7_0,b7_0,rfl,hR7_0,hrd7_0⟩:=h7_0.shape eInt
  obtain ⟨R7_1,b7_1,rfl,hR7_1,hrd7_1⟩:=h7_1.shape eRange
  obtain ⟨R7_2,b7_2,rfl,hR7_2,hrd7_2⟩:=h7_2.shape eRange
  obtain ⟨R7_3,b7_3,rfl,hR7_3,hrd7_3⟩:=h7_3.shape eRange
  refine dw_F (F':=c7_0 ++ (c7_1 ++ (c7_2 ++ (c7_3 ++ ([cur b A l.length cp i6 k6] ++ (cx_0 ++ (cx_1 ++ (cx_2 ++ (cx_3 ++ ([])))))))))) (by simp only [aA,nA,aN,cA])<|DM Z Z Z<|DT Z Z (fun _ q=>XT Z Z Z q)<|dw_nil<|?_
  refine ⟨fp_of Z Z Z (fun _ q=>XT Z Z Z q),?_⟩
  refine cw_det Z Z (fun _ q=>XT Z Z Z q)<|cw_st Z Z (fun _ q=>rw_storeN (i:=0) [_,_,_,_,_,_,_,_,_,_,_,_] [_,_,_,_,_,_,_,_,_,_,_,_] [_,_,_] tyS_impl_Sender.sz Z Z Z Z Z Z Z Z Z q)<|cw_nil<|IB<|SQ<|RG<|LS (i:=0) [_,_,_,_,_,_,_,_,_,_,_,_] Z tyS_impl_Sender Z Z Z Z<|rw_storeN (i:=1) [_,_,_,_,_,_,_,_,_,_,_,_] [_,_,_,_,_,_,_,_,_,_,_,_] [_,_,_] tyS_impl_Sender.sz Z Z Z Z Z Z Z Z Z<|ND<|?_
  refine gw_FP (pg (pp (pp (pp (pp PR)))) (pg PR (pg PR (pg PR (pg PR PR))))) (gw_F (F':=(cur b A l.length cp i6 k6 :: (c7_0 ++ (c7_1 ++ (c7_2 ++ (c7_3))))) ++ (cx_0 ++ (cx_1 ++ (cx_2 ++ (cx_3 ++ ([])))))) (by simp only [aA,nA,aN,cA]) ?_)
  refine ret_ch (cur b A l.length cp i6 k6 :: (c7_0 ++ (c7_1 ++ (c7_2 ++ (c7_3))))) Tryz.func175 (res1 Tryz.func175 Z (rv_s (i:=1) [_,_,_,_,_,_,_,_,_,_,_,_] tyS_impl_Sender Z Z Z Z)) ?_ ?_
  ·refine ⟨_,_,_,_,_,Z,owSender_mk h7_0 h7_1 h7_2 h7_3,?_,hi6,Z⟩
   exact hF7.mono (by omega)
  ·exact (List.sublist_append_left _ _).trans (List.sublist_append_right _ _)
 refine SQ<|SQ<|RG<|EQ1 Z Z Z<|AS Z Z<|ND<|?_
 refine gw_cond Z (fun h4=>?_) (fun h4=>?_)
 ·refine SK<|CT Z h4<|SQ<|gw_drawF [(0,.detB),(1,.det),(2,.chg),(3,.det),(4,.add),(5,.det),(6,.det),(7,.det),(8,(.free 96 [.int .i64 0,.string ByteArray.empty,.bool false]))] [9,10] 7 mixed Z (free_detB (free_det (free_chg (free_det (free_add (free_det (free_det (free_det (free_new Z Z tyZ_impl_Piece free_nil)))))))))<|dw_detB Z Z (fun _ q=>LS (i:=2) [_,_,_,_,_,_,_,_,_,_,_,_] Z tyS_impl_Sender Z Z Z Z q)<|DM Z Z Z<|dw_chg Z Z (fun _ q=>rw_ch (G:=[cur b A l.length cp i1 k1]) (R:=cx_0 ++ (cx_1 ++ (cx_2 ++ (cx_3 ++ ([]))))) Z fun_spec_l1Below Z ((pg PR PR)) (fun w hs hin hnd=>spec_l1Below ((RdbX.own hX hs (pg PR PR)).b) hi1 (n:=4) (by first | decide | omega) (by first | decide | omega) hin hnd) q)<|fun v8 ch8 how8=>?_
  obtain ⟨x8,i8,k8,rfl,hx8,hi8,rfl⟩:=how8
  refine DT Z Z (fun _ q=>rw_add Z Z Z q)<|DA Z Z (fun _ q=>CN1 Z fun_spec_NextPiece Z (fun w hs=>spec_NextPiece ⟨_,_,_,_,Z,⟨_,_,Z,hrdx_0 _ (fun c hc=>hs.at_ c (MR (MR (ML hc))))⟩,⟨_,_,Z,hrdx_1 _ (fun c hc=>hs.at_ c (MR (MR (MR (ML hc)))))⟩,⟨_,_,Z,hrdx_2 _ (fun c hc=>hs.at_ c (MR (MR (MR (MR (ML hc))))))⟩,⟨_,_,Z,hrdx_3 _ (fun c hc=>hs.at_ c (MR (MR (MR (MR (MR (ML hc)))))))⟩⟩ ⟨hb0,hb1,hb2,hb3⟩ _ _) q)<|fun v9 ch9 how9=>?_
  obtain ⟨p9,rfl,rfl⟩:=how9
  refine dw_F (F':=[cur b A l.length cp i8 k8] ++ (cx_0 ++ (cx_1 ++ (cx_2 ++ (cx_3 ++ ([])))))) (by simp only [nA,aN,cA])<|DM Z Z Z<|DT Z Z (fun _ q=>XT Z Z Z q)<|DT Z Z (fun _ q=>XT Z Z Z q)<|dw_free Z Z<|fun b4=>dw_nil<|?_
  refine ⟨fp_of Z Z Z (fun _ q=>XT Z Z Z q),?_⟩
  refine cw_take<|cw_st Z Z (fun _ q=>ST (i:=0) [_,_,_] [_,_,_] tyS_impl_Piece.sz Z Z Z Z Z Z Z Z q)<|cw_det Z Z (fun _ q=>AS Z Z q)<|cw_nil<|SQ<|RG<|MV Z Z<|ND<|?_
  refine gw_cond Z (fun h5=>?_) (fun h5=>?_)
  ·refine RG<|LS (i:=3) [_,_,_,_,_,_,_,_,_,_,_,_] Z tyS_impl_Sender Z Z Z Z<|LS (i:=0) [_,_,_] Z tyS_impl_Piece Z Z Z Z<|CN1 Z fun_spec_SendPiece Z (fun w hs=>spec_SendPiece ⟨_,_,_,_,Z,⟨_,_,Z,hrdx_0 _ (fun c hc=>hs.at_ c (MR (MR (ML hc))))⟩,⟨_,_,Z,hrdx_1 _ (fun c hc=>hs.at_ c (MR (MR (MR (ML hc)))))⟩,⟨_,_,Z,hrdx_2 _ (fun c hc=>hs.at_ c (MR (MR (MR (MR (ML hc))))))⟩,⟨_,_,Z,hrdx_3 _ (fun c hc=>hs.at_ c (MR (MR (MR (MR (MR (ML hc)))))))⟩⟩ hF (by omega) _)<|fun v10 ch10 how10=>?_
   obtain ⟨cs10,s10,r10,rfl,how10,hF10⟩:=how10
   obtain ⟨v10_0,v10_1,v10_2,v10_3,c10_0,c10_1,c10_2,c10_3,rfl,h10_0,h10_1,h10_2,h10_3,rfl⟩:=how10
   obtain ⟨R10_0,b10_0,rfl,hR10_0,hrd10_0⟩:=h10_0.shape eInt
   obtain ⟨R10_1,b10_1,rfl,hR10_1,hrd10_1⟩:=h10_1.shape eRange
   obtain ⟨R10_2,b10_2,rfl,hR10_2,hrd10_2⟩:=h10_2.shape eRange
   obtain ⟨R10_3,b10_3,rfl,hR10_3,hrd10_3⟩:=h10_3.shape eRange
   refine rw_F (F':=c10_0 ++ (c10_1 ++ (c10_2 ++ (c10_3 ++ ([cur b A l.length cp i8 k8] ++ (cx_0 ++ (cx_1 ++ (cx_2 ++ (cx_3 ++ ([])))))))))) (by simp only [aA,nA,aN,cA])<|MV Z Z<|XT Z Z Z<|XT Z Z Z<|rw_storeN (i:=1) [_,_,_,_,_,_,_,_,_,_,_,_] [_,_,_,_,_,_,_,_,_,_,_,_] [_,_,_,_] tyS_impl_Sender.sz Z Z Z Z Z Z Z Z Z<|ND<|IB<|SQ<|RG<|LS (i:=1) [_,_,_,_,_,_,_,_,_,_,_,_] Z tyS_impl_Sender Z Z Z Z<|?_
   refine rw_storeN (i:=2) [_,_,_,_,_,_,_,_,_,_,_,_] [_,_,_,_,_,_,_,_,_,_,_,_] [_,_,_,_] tyS_impl_Sender.sz Z Z Z Z Z Z Z Z Z<|ND<|?_
   refine gw_FP (pg (pp (pp (pp (pp PR)))) (pg PR (pg PR (pg PR (pg PR PR))))) (gw_F (F':=(cur b A l.length cp i8 k8 :: (c10_0 ++ (c10_1 ++ (c10_2 ++ (c10_3))))) ++ (cx_0 ++ (cx_1 ++ (cx_2 ++ (cx_3 ++ ([])))))) (by simp only [aA,nA,aN,cA]) ?_)
   refine ret_ch (cur b A l.length cp i8 k8 :: (c10_0 ++ (c10_1 ++ (c10_2 ++ (c10_3))))) Tryz.func175 (res1 Tryz.func175 Z (rv_s (i:=2) [_,_,_,_,_,_,_,_,_,_,_,_] tyS_impl_Sender Z Z Z Z)) ?_ ?_
   ·refine ⟨_,_,_,_,_,Z,owSender_mk h10_0 h10_1 h10_2 h10_3,?_,hi8,Z⟩
    exact hF10.mono (by omega)
   ·exact (List.sublist_append_left _ _).trans (List.sublist_append_right _ _)
  refine SK<|IB<|SQ<|RG<|LS (i:=1) [_,_,_,_,_,_,_,_,_,_,_,_] Z tyS_impl_Sender Z Z Z Z<|rw_storeN (i:=2) [_,_,_,_,_,_,_,_,_,_,_,_] [_,_,_,_,_,_,_,_,_,_,_,_] [_,_,_,_] tyS_impl_Sender.sz Z Z Z Z Z Z Z Z Z<|ND<|?_
  refine gw_FP (pg PR (pg PR (pg PR (pg PR (pg PR PR))))) (gw_F (F':=(cur b A l.length cp i8 k8 :: (cx_0 ++ (cx_1 ++ (cx_2 ++ (cx_3))))) ++ ([])) (by simp only [nA,aN,cA]) ?_)
  refine ret_ch (cur b A l.length cp i8 k8 :: (cx_0 ++ (cx_1 ++ (cx_2 ++ (cx_3))))) Tryz.func175 (res1 Tryz.func175 Z (rv_s (i:=2) [_,_,_,_,_,_,_,_,_,_,_,_] tyS_impl_Sender Z Z Z Z)) ?_ ?_
  ·refine ⟨_,_,_,_,_,Z,owSender_mk hx_0 hx_1 hx_2 hx_3,?_,hi8,Z⟩
   exact hF.mono (by omega)
  ·exact (List.sublist_append_left _ _).trans (List.sublist_append_right _ _)
 refine SQ<|RG<|EQ1 Z Z Z<|AS Z Z<|ND<|?_
 refine gw_cond Z (fun h6=>?_) (fun h6=>?_)
 ·refine SK<|CT Z h6<|SQ<|gw_drawF [(0,.detB),(1,.det),(2,.chg),(3,.det),(4,.add),(5,.det),(6,.det),(7,.det),(8,(.free 96 [.int .i64 0,.string ByteArray.empty,.bool false]))] [9,10] 7 mixed Z (free_detB (free_det (free_chg (free_det (free_add (free_det (free_det (free_det (free_new Z Z tyZ_impl_Piece free_nil)))))))))<|dw_detB Z Z (fun _ q=>LS (i:=2) [_,_,_,_,_,_,_,_,_,_,_,_] Z tyS_impl_Sender Z Z Z Z q)<|DM Z Z Z<|dw_chg Z Z (fun _ q=>rw_ch (G:=[cur b A l.length cp i1 k1]) (R:=cx_0 ++ (cx_1 ++ (cx_2 ++ (cx_3 ++ ([]))))) Z fun_spec_l1Below Z ((pg PR PR)) (fun w hs hin hnd=>spec_l1Below ((RdbX.own hX hs (pg PR PR)).b) hi1 (n:=4) (by first | decide | omega) (by first | decide | omega) hin hnd) q)<|fun v11 ch11 how11=>?_
  obtain ⟨x11,i11,k11,rfl,hx11,hi11,rfl⟩:=how11
  refine DT Z Z (fun _ q=>rw_add Z Z Z q)<|DA Z Z (fun _ q=>CN1 Z fun_spec_NextPiece Z (fun w hs=>spec_NextPiece ⟨_,_,_,_,Z,⟨_,_,Z,hrdx_0 _ (fun c hc=>hs.at_ c (MR (MR (ML hc))))⟩,⟨_,_,Z,hrdx_1 _ (fun c hc=>hs.at_ c (MR (MR (MR (ML hc)))))⟩,⟨_,_,Z,hrdx_2 _ (fun c hc=>hs.at_ c (MR (MR (MR (MR (ML hc))))))⟩,⟨_,_,Z,hrdx_3 _ (fun c hc=>hs.at_ c (MR (MR (MR (MR (MR (ML hc)))))))⟩⟩ ⟨hb0,hb1,hb2,hb3⟩ _ _) q)<|fun v12 ch12 how12=>?_
  obtain ⟨p12,rfl,rfl⟩:=how12
  refine dw_F (F':=[cur b A l.length cp i11 k11] ++ (cx_0 ++ (cx_1 ++ (cx_2 ++ (cx_3 ++ ([])))))) (by simp only [nA,aN,cA])<|DM Z Z Z<|DT Z Z (fun _ q=>XT Z Z Z q)<|DT Z Z (fun _ q=>XT Z Z Z q)<|dw_free Z Z<|fun b5=>dw_nil<|?_
  refine ⟨fp_of Z Z Z (fun _ q=>XT Z Z Z q),?_⟩
  refine cw_take<|cw_st Z Z (fun _ q=>ST (i:=0) [_,_,_] [_,_,_] tyS_impl_Piece.sz Z Z Z Z Z Z Z Z q)<|cw_det Z Z (fun _ q=>AS Z Z q)<|cw_nil<|SQ<|RG<|MV Z Z<|ND<|?_
  refine gw_cond Z (fun h7=>?_) (fun h7=>?_)
  ·refine RG<|LS (i:=3) [_,_,_,_,_,_,_,_,_,_,_,_] Z tyS_impl_Sender Z Z Z Z<|LS (i:=0) [_,_,_] Z tyS_impl_Piece Z Z Z Z<|CN1 Z fun_spec_SendPiece Z (fun w hs=>spec_SendPiece ⟨_,_,_,_,Z,⟨_,_,Z,hrdx_0 _ (fun c hc=>hs.at_ c (MR (MR (ML hc))))⟩,⟨_,_,Z,hrdx_1 _ (fun c hc=>hs.at_ c (MR (MR (MR (ML hc)))))⟩,⟨_,_,Z,hrdx_2 _ (fun c hc=>hs.at_ c (MR (MR (MR (MR (ML hc))))))⟩,⟨_,_,Z,hrdx_3 _ (fun c hc=>hs.at_ c (MR (MR (MR (MR (MR (ML hc)))))))⟩⟩ hF (by omega) _)<|fun v13 ch13 how13=>?_
   obtain ⟨cs13,s13,r13,rfl,how13,hF13⟩:=how13
   obtain ⟨v13_0,v13_1,v13_2,v13_3,c13_0,c13_1,c13_2,c13_3,rfl,h13_0,h13_1,h13_2,h13_3,rfl⟩:=how13
   obtain ⟨R13_0,b13_0,rfl,hR13_0,hrd13_0⟩:=h13_0.shape eInt
   obtain ⟨R13_1,b13_1,rfl,hR13_1,hrd13_1⟩:=h13_1.shape eRange
   obtain ⟨R13_2,b13_2,rfl,hR13_2,hrd13_2⟩:=h13_2.shape eRange
   obtain ⟨R13_3,b13_3,rfl,hR13_3,hrd13_3⟩:=h13_3.shape eRange
   refine rw_F (F':=c13_0 ++ (c13_1 ++ (c13_2 ++ (c13_3 ++ ([cur b A l.length cp i11 k11] ++ (cx_0 ++ (cx_1 ++ (cx_2 ++ (cx_3 ++ ([])))))))))) (by simp only [aA,nA,aN,cA])<|MV Z Z<|XT Z Z Z<|XT Z Z Z<|rw_storeN (i:=1) [_,_,_,_,_,_,_,_,_,_,_,_] [_,_,_,_,_,_,_,_,_,_,_,_] [_,_,_,_] tyS_impl_Sender.sz Z Z Z Z Z Z Z Z Z<|ND<|IB<|SQ<|RG<|LS (i:=1) [_,_,_,_,_,_,_,_,_,_,_,_] Z tyS_impl_Sender Z Z Z Z<|?_
   refine rw_storeN (i:=2) [_,_,_,_,_,_,_,_,_,_,_,_] [_,_,_,_,_,_,_,_,_,_,_,_] [_,_,_,_] tyS_impl_Sender.sz Z Z Z Z Z Z Z Z Z<|ND<|?_
   refine gw_FP (pg (pp (pp (pp (pp PR)))) (pg PR (pg PR (pg PR (pg PR PR))))) (gw_F (F':=(cur b A l.length cp i11 k11 :: (c13_0 ++ (c13_1 ++ (c13_2 ++ (c13_3))))) ++ (cx_0 ++ (cx_1 ++ (cx_2 ++ (cx_3 ++ ([])))))) (by simp only [aA,nA,aN,cA]) ?_)
   refine ret_ch (cur b A l.length cp i11 k11 :: (c13_0 ++ (c13_1 ++ (c13_2 ++ (c13_3))))) Tryz.func175 (res1 Tryz.func175 Z (rv_s (i:=2) [_,_,_,_,_,_,_,_,_,_,_,_] tyS_impl_Sender Z Z Z Z)) ?_ ?_
   ·refine ⟨_,_,_,_,_,Z,owSender_mk h13_0 h13_1 h13_2 h13_3,?_,hi11,Z⟩
    exact hF13.mono (by omega)
   ·exact (List.sublist_append_left _ _).trans (List.sublist_append_right _ _)
  refine SK<|IB<|SQ<|RG<|LS (i:=1) [_,_,_,_,_,_,_,_,_,_,_,_] Z tyS_impl_Sender Z Z Z Z<|rw_storeN (i:=2) [_,_,_,_,_,_,_,_,_,_,_,_] [_,_,_,_,_,_,_,_,_,_,_,_] [_,_,_,_] tyS_impl_Sender.sz Z Z Z Z Z Z Z Z Z<|ND<|?_
  refine gw_FP (pg PR (pg PR (pg PR (pg PR (pg PR PR))))) (gw_F (F':=(cur b A l.length cp i11 k11 :: (cx_0 ++ (cx_1 ++ (cx_2 ++ (cx_3))))) ++ ([])) (by simp only [nA,aN,cA]) ?_)
  refine ret_ch (cur b A l.length cp i11 k11 :: (cx_0 ++ (cx_1 ++ (cx_2 ++ (cx_3))))) Tryz.func175 (res1 Tryz.func175 Z (rv_s (i:=2) [_,_,_,_,_,_,_,_,_,_,_,_] tyS_impl_Sender Z Z Z Z)) ?_ ?_
  ·refine ⟨_,_,_,_,_,Z,owSender_mk hx_0 hx_1 hx_2 hx_3,?_,hi11,Z⟩
   exact hF.mono (by omega)
  ·exact (List.sublist_append_left _ _).trans (List.sublist_append_right _ _)
 refine RG<|EQ1 Z Z Z<|AS Z Z<|ND<|?_
 refine gw_cond Z (fun h8=>?_) (fun h8=>?_)
 ·refine SQ<|gw_drawF [(0,.detB),(1,.det),(2,.chg),(3,.det),(4,.add),(5,.det),(6,.det),(7,.det),(8,(.free 96 [.int .i64 0,.string ByteArray.empty,.bool false]))] [9,10] 7 mixed Z (free_detB (free_det (free_chg (free_det (free_add (free_det (free_det (free_det (free_new Z Z tyZ_impl_Piece free_nil)))))))))<|dw_detB Z Z (fun _ q=>LS (i:=2) [_,_,_,_,_,_,_,_,_,_,_,_] Z tyS_impl_Sender Z Z Z Z q)<|DM Z Z Z<|dw_chg Z Z (fun _ q=>rw_ch (G:=[cur b A l.length cp i1 k1]) (R:=cx_0 ++ (cx_1 ++ (cx_2 ++ (cx_3 ++ ([]))))) Z fun_spec_l1Below Z ((pg PR PR)) (fun w hs hin hnd=>spec_l1Below ((RdbX.own hX hs (pg PR PR)).b) hi1 (n:=4) (by first | decide | omega) (by first | decide | omega) hin hnd) q)<|fun v14 ch14 how14=>?_
  obtain ⟨x14,i14,k14,rfl,hx14,hi14,rfl⟩:=how14
  refine DT Z Z (fun _ q=>rw_add Z Z Z q)<|DA Z Z (fun _ q=>CN1 Z fun_spec_NextPiece Z (fun w hs=>spec_NextPiece ⟨_,_,_,_,Z,⟨_,_,Z,hrdx_0 _ (fun c hc=>hs.at_ c (MR (MR (ML hc))))⟩,⟨_,_,Z,hrdx_1 _ (fun c hc=>hs.at_ c (MR (MR (MR (ML hc)))))⟩,⟨_,_,Z,hrdx_2 _ (fun c hc=>hs.at_ c (MR (MR (MR (MR (ML hc))))))⟩,⟨_,_,Z,hrdx_3 _ (fun c hc=>hs.at_ c (MR (MR (MR (MR (MR (ML hc)))))))⟩⟩ ⟨hb0,hb1,hb2,hb3⟩ _ _) q)<|fun v15 ch15 how15=>?_
  obtain ⟨p15,rfl,rfl⟩:=how15
  refine dw_F (F':=[cur b A l.length cp i14 k14] ++ (cx_0 ++ (cx_1 ++ (cx_2 ++ (cx_3 ++ ([])))))) (by simp only [nA,aN,cA])<|DM Z Z Z<|DT Z Z (fun _ q=>XT Z Z Z q)<|DT Z Z (fun _ q=>XT Z Z Z q)<|dw_free Z Z<|fun b6=>dw_nil<|?_
  refine ⟨fp_of Z Z Z (fun _ q=>XT Z Z Z q),?_⟩
  refine cw_take<|cw_st Z Z (fun _ q=>ST (i:=0) [_,_,_] [_,_,_] tyS_impl_Piece.sz Z Z Z Z Z Z Z Z q)<|cw_det Z Z (fun _ q=>AS Z Z q)<|cw_nil<|SQ<|RG<|MV Z Z<|ND<|?_
  refine gw_cond Z (fun h9=>?_) (fun h9=>?_)
  ·refine RG<|LS (i:=3) [_,_,_,_,_,_,_,_,_,_,_,_] Z tyS_impl_Sender Z Z Z Z<|LS (i:=0) [_,_,_] Z tyS_impl_Piece Z Z Z Z<|CN1 Z fun_spec_SendPiece Z (fun w hs=>spec_SendPiece ⟨_,_,_,_,Z,⟨_,_,Z,hrdx_0 _ (fun c hc=>hs.at_ c (MR (MR (ML hc))))⟩,⟨_,_,Z,hrdx_1 _ (fun c hc=>hs.at_ c (MR (MR (MR (ML hc)))))⟩,⟨_,_,Z,hrdx_2 _ (fun c hc=>hs.at_ c (MR (MR (MR (MR (ML hc))))))⟩,⟨_,_,Z,hrdx_3 _ (fun c hc=>hs.at_ c (MR (MR (MR (MR (MR (ML hc)))))))⟩⟩ hF (by omega) _)<|fun v16 ch16 how16=>?_
   obtain ⟨cs16,s16,r16,rfl,how16,hF16⟩:=how16
   obtain ⟨v16_0,v16_1,v16_2,v16_3,c16_0,c16_1,c16_2,c16_3,rfl,h16_0,h16_1,h16_2,h16_3,rfl⟩:=how16
   obtain ⟨R16_0,b16_0,rfl,hR16_0,hrd16_0⟩:=h16_0.shape eInt
   obtain ⟨R16_1,b16_1,rfl,hR16_1,hrd16_1⟩:=h16_1.shape eRange
   obtain ⟨R16_2,b16_2,rfl,hR16_2,hrd16_2⟩:=h16_2.shape eRange
   obtain ⟨R16_3,b16_3,rfl,hR16_3,hrd16_3⟩:=h16_3.shape eRange
   refine rw_F (F':=c16_0 ++ (c16_1 ++ (c16_2 ++ (c16_3 ++ ([cur b A l.length cp i14 k14] ++ (cx_0 ++ (cx_1 ++ (cx_2 ++ (cx_3 ++ ([])))))))))) (by simp only [aA,nA,aN,cA])<|MV Z Z<|XT Z Z Z<|XT Z Z Z<|rw_storeN (i:=1) [_,_,_,_,_,_,_,_,_,_,_,_] [_,_,_,_,_,_,_,_,_,_,_,_] [_,_,_,_] tyS_impl_Sender.sz Z Z Z Z Z Z Z Z Z<|ND<|IB<|SQ<|RG<|LS (i:=1) [_,_,_,_,_,_,_,_,_,_,_,_] Z tyS_impl_Sender Z Z Z Z<|?_
   refine rw_storeN (i:=2) [_,_,_,_,_,_,_,_,_,_,_,_] [_,_,_,_,_,_,_,_,_,_,_,_] [_,_,_,_] tyS_impl_Sender.sz Z Z Z Z Z Z Z Z Z<|ND<|?_
   refine gw_FP (pg (pp (pp (pp (pp PR)))) (pg PR (pg PR (pg PR (pg PR PR))))) (gw_F (F':=(cur b A l.length cp i14 k14 :: (c16_0 ++ (c16_1 ++ (c16_2 ++ (c16_3))))) ++ (cx_0 ++ (cx_1 ++ (cx_2 ++ (cx_3 ++ ([])))))) (by simp only [aA,nA,aN,cA]) ?_)
   refine ret_ch (cur b A l.length cp i14 k14 :: (c16_0 ++ (c16_1 ++ (c16_2 ++ (c16_3))))) Tryz.func175 (res1 Tryz.func175 Z (rv_s (i:=2) [_,_,_,_,_,_,_,_,_,_,_,_] tyS_impl_Sender Z Z Z Z)) ?_ ?_
   ·refine ⟨_,_,_,_,_,Z,owSender_mk h16_0 h16_1 h16_2 h16_3,?_,hi14,Z⟩
    exact hF16.mono (by omega)
   ·exact (List.sublist_append_left _ _).trans (List.sublist_append_right _ _)
  refine SK<|IB<|SQ<|RG<|LS (i:=1) [_,_,_,_,_,_,_,_,_,_,_,_] Z tyS_impl_Sender Z Z Z Z<|rw_storeN (i:=2) [_,_,_,_,_,_,_,_,_,_,_,_] [_,_,_,_,_,_,_,_,_,_,_,_] [_,_,_,_] tyS_impl_Sender.sz Z Z Z Z Z Z Z Z Z<|ND<|?_
  refine gw_FP (pg PR (pg PR (pg PR (pg PR (pg PR PR))))) (gw_F (F':=(cur b A l.length cp i14 k14 :: (cx_0 ++ (cx_1 ++ (cx_2 ++ (cx_3))))) ++ ([])) (by simp only [nA,aN,cA]) ?_)
  refine ret_ch (cur b A l.length cp i14 k14 :: (cx_0 ++ (cx_1 ++ (cx_2 ++ (cx_3))))) Tryz.func175 (res1 Tryz.func175 Z (rv_s (i:=2) [_,_,_,_,_,_,_,_,_,_,_,_] tyS_impl_Sender Z Z Z Z)) ?_ ?_
  ·refine ⟨_,_,_,_,_,Z,owSender_mk hx_0 hx_1 hx_2 hx_3,?_,hi14,Z⟩
   exact hF.mono (by omega)
  ·exact (List.sublist_append_left _ _).trans (List.sublist_append_right _ _)
 refine SQ<|RG<|EQ1 Z Z Z<|AS Z Z<|ND<|?_
 refine gw_cond Z (fun h10=>?_) (fun h10=>?_)
 ·refine gw_draw' [(0,.detB),dd 1,dd 2,(3,.chg)] [4,5] mixed Z (FD Z) (ts:=[_,_]) Z<|dw_detB Z Z (fun _ q=>LS (i:=2) [_,_,_,_,_,_,_,_,_,_,_,_] Z tyS_impl_Sender Z Z Z Z q)<|DM Z Z Z<|DT Z Z (fun _ q=>LS (i:=2) [_,_,_,_,_,_,_,_,_,_,_,_] Z tyS_impl_Sender Z Z Z Z q)<|?_
  have hpm18 : ([cur b A l.length cp i1 k1] ++ (cx_0 ++ (cx_1 ++ (cx_2 ++ (cx_3 ++ ([])))))).Perm ((cur b A l.length cp i1 k1 :: (cx_0 ++ (cx_1 ++ (cx_2 ++ (cx_3))))) ++ ([])):=by
   refine List.Perm.trans ((pg PR (pg PR (pg PR (pg PR (pg PR PR))))) : ([cur b A l.length cp i1 k1] ++ (cx_0 ++ (cx_1 ++ (cx_2 ++ (cx_3 ++ ([])))))).Perm ([cur b A l.length cp i1 k1] ++ (cx_0 ++ (cx_1 ++ (cx_2 ++ (cx_3 ++ ([]))))))) (List.Perm.of_eq ?_)
   simp only [List.cons_append,List.nil_append,List.append_nil]
  refine dw_chg Z Z (fun _ q=>rw_ch (G:=(cur b A l.length cp i1 k1 :: (cx_0 ++ (cx_1 ++ (cx_2 ++ (cx_3)))))) (R:=[]) Z fun_spec_l9Some Z hpm18 (fun w hs hin hnd=>spec_l9Some (RdbX.own hX hs hpm18) hi1 ⟨_,_,_,_,_,_,_,_,Z,hx_0,hx_1,hx_2,hx_3,Z⟩ hF (by omega) hin hnd) q)<|fun v17 ch17 how17=>?_
  obtain ⟨p17,i17,k17,rfl,_,hi17,rfl⟩:=how17
  refine dw_F (F':=[cur b A l.length cp i17 k17] ++ (cx_0 ++ (cx_1 ++ (cx_2 ++ (cx_3 ++ ([])))))) (by simp only [nA,aN,cA])<|dw_nil<|CN1 Z fun_spec_AckPiece Z (fun w hs=>spec_AckPiece ⟨_,_,_,_,Z,⟨_,_,Z,hrdx_0 _ (fun c hc=>hs.at_ c (MR (MR (ML hc))))⟩,⟨_,_,Z,hrdx_1 _ (fun c hc=>hs.at_ c (MR (MR (MR (ML hc)))))⟩,⟨_,_,Z,hrdx_2 _ (fun c hc=>hs.at_ c (MR (MR (MR (MR (ML hc))))))⟩,⟨_,_,Z,hrdx_3 _ (fun c hc=>hs.at_ c (MR (MR (MR (MR (MR (ML hc)))))))⟩⟩ hF (by omega) _)<|fun v19 ch19 how19=>?_
  obtain ⟨cs19,s19,rfl,how19,hF19⟩:=how19
  obtain ⟨v19_0,v19_1,v19_2,v19_3,c19_0,c19_1,c19_2,c19_3,rfl,h19_0,h19_1,h19_2,h19_3,rfl⟩:=how19
  obtain ⟨R19_0,b19_0,rfl,hR19_0,hrd19_0⟩:=h19_0.shape eInt
  obtain ⟨R19_1,b19_1,rfl,hR19_1,hrd19_1⟩:=h19_1.shape eRange
  obtain ⟨R19_2,b19_2,rfl,hR19_2,hrd19_2⟩:=h19_2.shape eRange
  obtain ⟨R19_3,b19_3,rfl,hR19_3,hrd19_3⟩:=h19_3.shape eRange
  refine rw_F (F':=c19_0 ++ (c19_1 ++ (c19_2 ++ (c19_3 ++ ([cur b A l.length cp i17 k17] ++ (cx_0 ++ (cx_1 ++ (cx_2 ++ (cx_3 ++ ([])))))))))) (by simp only [aA,nA,aN,cA])<|rw_storeN (i:=0) [_,_,_,_,_,_,_,_,_,_,_,_] [_,_,_,_,_,_,_,_,_,_,_,_] [_,_,_] tyS_impl_Sender.sz Z Z Z Z Z Z Z Z Z<|ND<|IB<|SQ<|RG<|LS (i:=0) [_,_,_,_,_,_,_,_,_,_,_,_] Z tyS_impl_Sender Z Z Z Z<|rw_storeN (i:=1) [_,_,_,_,_,_,_,_,_,_,_,_] [_,_,_,_,_,_,_,_,_,_,_,_] [_,_,_] tyS_impl_Sender.sz Z Z Z Z Z Z Z Z Z<|?_
  refine ND<|?_
  refine gw_FP (pg (pp (pp (pp (pp PR)))) (pg PR (pg PR (pg PR (pg PR PR))))) (gw_F (F':=(cur b A l.length cp i17 k17 :: (c19_0 ++ (c19_1 ++ (c19_2 ++ (c19_3))))) ++ (cx_0 ++ (cx_1 ++ (cx_2 ++ (cx_3 ++ ([])))))) (by simp only [aA,nA,aN,cA]) ?_)
  refine ret_ch (cur b A l.length cp i17 k17 :: (c19_0 ++ (c19_1 ++ (c19_2 ++ (c19_3))))) Tryz.func175 (res1 Tryz.func175 Z (rv_s (i:=1) [_,_,_,_,_,_,_,_,_,_,_,_] tyS_impl_Sender Z Z Z Z)) ?_ ?_
  ·refine ⟨_,_,_,_,_,Z,owSender_mk h19_0 h19_1 h19_2 h19_3,?_,hi17,Z⟩
   exact hF19.mono (by omega)
  ·exact (List.sublist_append_left _ _).trans (List.sublist_append_right _ _)
 refine SQ<|RG<|EQ1 Z Z Z<|AS Z Z<|ND<|?_
 refine gw_cond Z (fun h11=>?_) (fun h11=>?_)
 ·refine gw_draw' [(0,.detB),dd 1,dd 2,(3,.chg)] [4,5] mixed Z (FD Z) (ts:=[_,_]) Z<|dw_detB Z Z (fun _ q=>LS (i:=2) [_,_,_,_,_,_,_,_,_,_,_,_] Z tyS_impl_Sender Z Z Z Z q)<|DM Z Z Z<|DT Z Z (fun _ q=>LS (i:=2) [_,_,_,_,_,_,_,_,_,_,_,_] Z tyS_impl_Sender Z Z Z Z q)<|?_
  have hpm21 : ([cur b A l.length cp i1 k1] ++ (cx_0 ++ (cx_1 ++ (cx_2 ++ (cx_3 ++ ([])))))).Perm ((cur b A l.length cp i1 k1 :: (cx_0 ++ (cx_1 ++ (cx_2 ++ (cx_3))))) ++ ([])):=by
   refine List.Perm.trans ((pg PR (pg PR (pg PR (pg PR (pg PR PR))))) : ([cur b A l.length cp i1 k1] ++ (cx_0 ++ (cx_1 ++ (cx_2 ++ (cx_3 ++ ([])))))).Perm ([cur b A l.length cp i1 k1] ++ (cx_0 ++ (cx_1 ++ (cx_2 ++ (cx_3 ++ ([]))))))) (List.Perm.of_eq ?_)
   simp only [List.cons_append,List.nil_append,List.append_nil]
  refine dw_chg Z Z (fun _ q=>rw_ch (G:=(cur b A l.length cp i1 k1 :: (cx_0 ++ (cx_1 ++ (cx_2 ++ (cx_3)))))) (R:=[]) Z fun_spec_l9Some Z hpm21 (fun w hs hin hnd=>spec_l9Some (RdbX.own hX hs hpm21) hi1 ⟨_,_,_,_,_,_,_,_,Z,hx_0,hx_1,hx_2,hx_3,Z⟩ hF (by omega) hin hnd) q)<|fun v20 ch20 how20=>?_
  obtain ⟨p20,i20,k20,rfl,_,hi20,rfl⟩:=how20
  refine dw_F (F':=[cur b A l.length cp i20 k20] ++ (cx_0 ++ (cx_1 ++ (cx_2 ++ (cx_3 ++ ([])))))) (by simp only [nA,aN,cA])<|dw_nil<|CN1 Z fun_spec_LosePiece Z (fun w hs=>spec_LosePiece ⟨_,_,_,_,Z,⟨_,_,Z,hrdx_0 _ (fun c hc=>hs.at_ c (MR (MR (ML hc))))⟩,⟨_,_,Z,hrdx_1 _ (fun c hc=>hs.at_ c (MR (MR (MR (ML hc)))))⟩,⟨_,_,Z,hrdx_2 _ (fun c hc=>hs.at_ c (MR (MR (MR (MR (ML hc))))))⟩,⟨_,_,Z,hrdx_3 _ (fun c hc=>hs.at_ c (MR (MR (MR (MR (MR (ML hc)))))))⟩⟩ hF (by omega) _)<|fun v22 ch22 how22=>?_
  obtain ⟨cs22,s22,rfl,how22,hF22⟩:=how22
  obtain ⟨v22_0,v22_1,v22_2,v22_3,c22_0,c22_1,c22_2,c22_3,rfl,h22_0,h22_1,h22_2,h22_3,rfl⟩:=how22
  obtain ⟨R22_0,b22_0,rfl,hR22_0,hrd22_0⟩:=h22_0.shape eInt
  obtain ⟨R22_1,b22_1,rfl,hR22_1,hrd22_1⟩:=h22_1.shape eRange
  obtain ⟨R22_2,b22_2,rfl,hR22_2,hrd22_2⟩:=h22_2.shape eRange
  obtain ⟨R22_3,b22_3,rfl,hR22_3,hrd22_3⟩:=h22_3.shape eRange
  refine rw_F (F':=c22_0 ++ (c22_1 ++ (c22_2 ++ (c22_3 ++ ([cur b A l.length cp i20 k20] ++ (cx_0 ++ (cx_1 ++ (cx_2 ++ (cx_3 ++ ([])))))))))) (by simp only [aA,nA,aN,cA])<|rw_storeN (i:=0) [_,_,_,_,_,_,_,_,_,_,_,_] [_,_,_,_,_,_,_,_,_,_,_,_] [_,_,_] tyS_impl_Sender.sz Z Z Z Z Z Z Z Z Z<|ND<|IB<|SQ<|RG<|LS (i:=0) [_,_,_,_,_,_,_,_,_,_,_,_] Z tyS_impl_Sender Z Z Z Z<|rw_storeN (i:=1) [_,_,_,_,_,_,_,_,_,_,_,_] [_,_,_,_,_,_,_,_,_,_,_,_] [_,_,_] tyS_impl_Sender.sz Z Z Z Z Z Z Z Z Z<|?_
  refine ND<|?_
  refine gw_FP (pg (pp (pp (pp (pp PR)))) (pg PR (pg PR (pg PR (pg PR PR))))) (gw_F (F':=(cur b A l.length cp i20 k20 :: (c22_0 ++ (c22_1 ++ (c22_2 ++ (c22_3))))) ++ (cx_0 ++ (cx_1 ++ (cx_2 ++ (cx_3 ++ ([])))))) (by simp only [aA,nA,aN,cA]) ?_)
  refine ret_ch (cur b A l.length cp i20 k20 :: (c22_0 ++ (c22_1 ++ (c22_2 ++ (c22_3))))) Tryz.func175 (res1 Tryz.func175 Z (rv_s (i:=1) [_,_,_,_,_,_,_,_,_,_,_,_] tyS_impl_Sender Z Z Z Z)) ?_ ?_
  ·refine ⟨_,_,_,_,_,Z,owSender_mk h22_0 h22_1 h22_2 h22_3,?_,hi20,Z⟩
   exact hF22.mono (by omega)
  ·exact (List.sublist_append_left _ _).trans (List.sublist_append_right _ _)
 refine SQ<|RG<|EQ1 Z Z Z<|AS Z Z<|ND<|?_
 refine gw_cond Z (fun h12=>?_) (fun h12=>?_)
 ·refine SQ<|RG<|MV Z Z<|rw_ch (G:=[cur b A l.length cp i1 k1]) (R:=cx_0 ++ (cx_1 ++ (cx_2 ++ (cx_3 ++ ([]))))) Z fun_spec_l1Once Z ((pg PR PR)) (fun w hs hin hnd=>spec_l1Once ((RdbX.own hX hs (pg PR PR)).b) hi1 (n:=2) (by first | decide | omega) (by first | decide | omega) hin hnd)<|fun v23 ch23 how23=>?_
  obtain ⟨x23,i23,k23,rfl,hx23,hi23,rfl⟩:=how23
  refine ND<|?_
  refine gw_cond Z (fun h13=>?_) (fun h13=>?_)
  ·refine RG<|LS (i:=2) [_,_,_,_,_,_,_,_,_,_,_,_] Z tyS_impl_Sender Z Z Z Z<|CN1 Z fun_spec_CloseSender Z (fun w hs=>spec_CloseSender ⟨_,_,_,_,Z,⟨_,_,Z,hrdx_0 _ (fun c hc=>hs.at_ c (MR (MR (ML hc))))⟩,⟨_,_,Z,hrdx_1 _ (fun c hc=>hs.at_ c (MR (MR (MR (ML hc)))))⟩,⟨_,_,Z,hrdx_2 _ (fun c hc=>hs.at_ c (MR (MR (MR (MR (ML hc))))))⟩,⟨_,_,Z,hrdx_3 _ (fun c hc=>hs.at_ c (MR (MR (MR (MR (MR (ML hc)))))))⟩⟩ hF (by omega))<|fun v24 ch24 how24=>?_
   obtain ⟨cs24,s24,r24,rfl,how24,hF24⟩:=how24
   obtain ⟨v24_0,v24_1,v24_2,v24_3,c24_0,c24_1,c24_2,c24_3,rfl,h24_0,h24_1,h24_2,h24_3,rfl⟩:=how24
   obtain ⟨R24_0,b24_0,rfl,hR24_0,hrd24_0⟩:=h24_0.shape eInt
   obtain ⟨R24_1,b24_1,rfl,hR24_1,hrd24_1⟩:=h24_1.shape eRange
   obtain ⟨R24_2,b24_2,rfl,hR24_2,hrd24_2⟩:=h24_2.shape eRange
   obtain ⟨R24_3,b24_3,rfl,hR24_3,hrd24_3⟩:=h24_3.shape eRange
   refine rw_F (F':=c24_0 ++ (c24_1 ++ (c24_2 ++ (c24_3 ++ ([cur b A l.length cp i23 k23] ++ (cx_0 ++ (cx_1 ++ (cx_2 ++ (cx_3 ++ ([])))))))))) (by simp only [aA,nA,aN,cA])<|MV Z Z<|XT Z Z Z<|XT Z Z Z<|rw_storeN (i:=0) [_,_,_,_,_,_,_,_,_,_,_,_] [_,_,_,_,_,_,_,_,_,_,_,_] [_,_,_] tyS_impl_Sender.sz Z Z Z Z Z Z Z Z Z<|ND<|IB<|SQ<|RG<|LS (i:=0) [_,_,_,_,_,_,_,_,_,_,_,_] Z tyS_impl_Sender Z Z Z Z<|?_
   refine rw_storeN (i:=1) [_,_,_,_,_,_,_,_,_,_,_,_] [_,_,_,_,_,_,_,_,_,_,_,_] [_,_,_] tyS_impl_Sender.sz Z Z Z Z Z Z Z Z Z<|ND<|?_
   refine gw_FP (pg (pp (pp (pp (pp PR)))) (pg PR (pg PR (pg PR (pg PR PR))))) (gw_F (F':=(cur b A l.length cp i23 k23 :: (c24_0 ++ (c24_1 ++ (c24_2 ++ (c24_3))))) ++ (cx_0 ++ (cx_1 ++ (cx_2 ++ (cx_3 ++ ([])))))) (by simp only [aA,nA,aN,cA]) ?_)
   refine ret_ch (cur b A l.length cp i23 k23 :: (c24_0 ++ (c24_1 ++ (c24_2 ++ (c24_3))))) Tryz.func175 (res1 Tryz.func175 Z (rv_s (i:=1) [_,_,_,_,_,_,_,_,_,_,_,_] tyS_impl_Sender Z Z Z Z)) ?_ ?_
   ·refine ⟨_,_,_,_,_,Z,owSender_mk h24_0 h24_1 h24_2 h24_3,?_,hi23,Z⟩
    exact hF24.mono (by omega)
   ·exact (List.sublist_append_left _ _).trans (List.sublist_append_right _ _)
  refine SK<|IB<|SQ<|RG<|LS (i:=0) [_,_,_,_,_,_,_,_,_,_,_,_] Z tyS_impl_Sender Z Z Z Z<|rw_storeN (i:=1) [_,_,_,_,_,_,_,_,_,_,_,_] [_,_,_,_,_,_,_,_,_,_,_,_] [_,_,_] tyS_impl_Sender.sz Z Z Z Z Z Z Z Z Z<|ND<|?_
  refine gw_FP (pg PR (pg PR (pg PR (pg PR (pg PR PR))))) (gw_F (F':=(cur b A l.length cp i23 k23 :: (cx_0 ++ (cx_1 ++ (cx_2 ++ (cx_3))))) ++ ([])) (by simp only [nA,aN,cA]) ?_)
  refine ret_ch (cur b A l.length cp i23 k23 :: (cx_0 ++ (cx_1 ++ (cx_2 ++ (cx_3))))) Tryz.func175 (res1 Tryz.func175 Z (rv_s (i:=1) [_,_,_,_,_,_,_,_,_,_,_,_] tyS_impl_Sender Z Z Z Z)) ?_ ?_
  ·refine ⟨_,_,_,_,_,Z,owSender_mk hx_0 hx_1 hx_2 hx_3,?_,hi23,Z⟩
   exact hF.mono (by omega)
  ·exact (List.sublist_append_left _ _).trans (List.sublist_append_right _ _)
 refine SQ<|RG<|EQ1 Z Z Z<|AS Z Z<|ND<|?_
 refine gw_cond Z (fun h14=>?_) (fun h14=>?_)
 ·refine SQ<|RG<|MV Z Z<|rw_ch (G:=[cur b A l.length cp i1 k1]) (R:=cx_0 ++ (cx_1 ++ (cx_2 ++ (cx_3 ++ ([]))))) Z fun_spec_l1Once Z ((pg PR PR)) (fun w hs hin hnd=>spec_l1Once ((RdbX.own hX hs (pg PR PR)).b) hi1 (n:=4) (by first | decide | omega) (by first | decide | omega) hin hnd)<|fun v25 ch25 how25=>?_
  obtain ⟨x25,i25,k25,rfl,hx25,hi25,rfl⟩:=how25
  refine ND<|?_
  refine gw_cond Z (fun h15=>?_) (fun h15=>?_)
  ·refine gw_drawF [(0,.detB),(1,.det),(2,.chg),(3,.add),(4,.det),(6,.det)] [5,7] 6 mixed Z (FD Z)<|dw_detB Z Z (fun _ q=>LS (i:=2) [_,_,_,_,_,_,_,_,_,_,_,_] Z tyS_impl_Sender Z Z Z Z q)<|DM Z Z Z<|dw_chg Z Z (fun _ q=>rw_ch (G:=[cur b A l.length cp i25 k25]) (R:=cx_0 ++ (cx_1 ++ (cx_2 ++ (cx_3 ++ ([]))))) Z fun_spec_l1Below Z ((pg PR PR)) (fun w hs hin hnd=>spec_l1Below ((RdbX.own hX hs (pg PR PR)).b) hi25 (n:=4) (by first | decide | omega) (by first | decide | omega) hin hnd) q)<|fun v26 ch26 how26=>?_
   obtain ⟨x26,i26,k26,rfl,hx26,hi26,rfl⟩:=how26
   refine DA Z Z (fun _ q=>CN1 Z fun_spec_ResetSender Z (fun w hs=>spec_ResetSender ⟨_,_,_,_,Z,⟨_,_,Z,hrdx_0 _ (fun c hc=>hs.at_ c (MR (MR (ML hc))))⟩,⟨_,_,Z,hrdx_1 _ (fun c hc=>hs.at_ c (MR (MR (MR (ML hc)))))⟩,⟨_,_,Z,hrdx_2 _ (fun c hc=>hs.at_ c (MR (MR (MR (MR (ML hc))))))⟩,⟨_,_,Z,hrdx_3 _ (fun c hc=>hs.at_ c (MR (MR (MR (MR (MR (ML hc)))))))⟩⟩ hF (by omega) _) q)<|fun v27 ch27 how27=>?_
   obtain ⟨cs27,s27,r27,rfl,how27,hF27⟩:=how27
   obtain ⟨v27_0,v27_1,v27_2,v27_3,c27_0,c27_1,c27_2,c27_3,rfl,h27_0,h27_1,h27_2,h27_3,rfl⟩:=how27
   obtain ⟨R27_0,b27_0,rfl,hR27_0,hrd27_0⟩:=h27_0.shape eInt
   obtain ⟨R27_1,b27_1,rfl,hR27_1,hrd27_1⟩:=h27_1.shape eRange
   obtain ⟨R27_2,b27_2,rfl,hR27_2,hrd27_2⟩:=h27_2.shape eRange
   obtain ⟨R27_3,b27_3,rfl,hR27_3,hrd27_3⟩:=h27_3.shape eRange
   refine dw_F (F':=c27_0 ++ (c27_1 ++ (c27_2 ++ (c27_3 ++ ([cur b A l.length cp i26 k26] ++ (cx_0 ++ (cx_1 ++ (cx_2 ++ (cx_3 ++ ([])))))))))) (by simp only [aA,nA,aN,cA])<|DM Z Z Z<|DT Z Z (fun _ q=>XT Z Z Z q)<|dw_nil<|?_
   refine ⟨fp_of Z Z Z (fun _ q=>XT Z Z Z q),?_⟩
   refine cw_det Z Z (fun _ q=>XT Z Z Z q)<|cw_st Z Z (fun _ q=>rw_storeN (i:=0) [_,_,_,_,_,_,_,_,_,_,_,_] [_,_,_,_,_,_,_,_,_,_,_,_] [_,_,_] tyS_impl_Sender.sz Z Z Z Z Z Z Z Z Z q)<|cw_nil<|IB<|SQ<|RG<|LS (i:=0) [_,_,_,_,_,_,_,_,_,_,_,_] Z tyS_impl_Sender Z Z Z Z<|rw_storeN (i:=1) [_,_,_,_,_,_,_,_,_,_,_,_] [_,_,_,_,_,_,_,_,_,_,_,_] [_,_,_] tyS_impl_Sender.sz Z Z Z Z Z Z Z Z Z<|ND<|?_
   refine gw_FP (pg (pp (pp (pp (pp PR)))) (pg PR (pg PR (pg PR (pg PR PR))))) (gw_F (F':=(cur b A l.length cp i26 k26 :: (c27_0 ++ (c27_1 ++ (c27_2 ++ (c27_3))))) ++ (cx_0 ++ (cx_1 ++ (cx_2 ++ (cx_3 ++ ([])))))) (by simp only [aA,nA,aN,cA]) ?_)
   refine ret_ch (cur b A l.length cp i26 k26 :: (c27_0 ++ (c27_1 ++ (c27_2 ++ (c27_3))))) Tryz.func175 (res1 Tryz.func175 Z (rv_s (i:=1) [_,_,_,_,_,_,_,_,_,_,_,_] tyS_impl_Sender Z Z Z Z)) ?_ ?_
   ·refine ⟨_,_,_,_,_,Z,owSender_mk h27_0 h27_1 h27_2 h27_3,?_,hi26,Z⟩
    exact hF27.mono (by omega)
   ·exact (List.sublist_append_left _ _).trans (List.sublist_append_right _ _)
  refine SK<|IB<|SQ<|RG<|LS (i:=0) [_,_,_,_,_,_,_,_,_,_,_,_] Z tyS_impl_Sender Z Z Z Z<|rw_storeN (i:=1) [_,_,_,_,_,_,_,_,_,_,_,_] [_,_,_,_,_,_,_,_,_,_,_,_] [_,_,_] tyS_impl_Sender.sz Z Z Z Z Z Z Z Z Z<|ND<|?_
  refine gw_FP (pg PR (pg PR (pg PR (pg PR (pg PR PR))))) (gw_F (F':=(cur b A l.length cp i25 k25 :: (cx_0 ++ (cx_1 ++ (cx_2 ++ (cx_3))))) ++ ([])) (by simp only [nA,aN,cA]) ?_)
  refine ret_ch (cur b A l.length cp i25 k25 :: (cx_0 ++ (cx_1 ++ (cx_2 ++ (cx_3))))) Tryz.func175 (res1 Tryz.func175 Z (rv_s (i:=1) [_,_,_,_,_,_,_,_,_,_,_,_] tyS_impl_Sender Z Z Z Z)) ?_ ?_
  ·refine ⟨_,_,_,_,_,Z,owSender_mk hx_0 hx_1 hx_2 hx_3,?_,hi25,Z⟩
   exact hF.mono (by omega)
  ·exact (List.sublist_append_left _ _).trans (List.sublist_append_right _ _)
 refine SK<|IB<|SQ<|RG<|LS (i:=0) [_,_,_,_,_,_,_,_,_,_,_,_] Z tyS_impl_Sender Z Z Z Z<|rw_storeN (i:=1) [_,_,_,_,_,_,_,_,_,_,_,_] [_,_,_,_,_,_,_,_,_,_,_,_] [_,_,_] tyS_impl_Sender.sz Z Z Z Z Z Z Z Z Z<|ND<|?_
 refine gw_FP (pg PR (pg PR (pg PR (pg PR (pg PR PR))))) (gw_F (F':=(cur b A l.length cp i1 k1 :: (cx_0 ++ (cx_1 ++ (cx_2 ++ (cx_3))))) ++ ([])) (by simp only [nA,aN,cA]) ?_)
 refine ret_ch (cur b A l.length cp i1 k1 :: (cx_0 ++ (cx_1 ++ (cx_2 ++ (cx_3))))) Tryz.func175 (res1 Tryz.func175 Z (rv_s (i:=1) [_,_,_,_,_,_,_,_,_,_,_,_] tyS_impl_Sender Z Z Z Z)) ?_ ?_
 ·refine ⟨_,_,_,_,_,Z,owSender_mk hx_0 hx_1 hx_2 hx_3,?_,hi1,Z⟩
  exact hF.mono (by omega)
 ·exact (List.sublist_append_left _ _).trans (List.sublist_append_right _ _)
end Go.Proofs.YtbhnekiclbfmgaaGreat
namespace Go.Proofs.YtbhnekiclbfmgaaGreat
open SL Go.RowKit
theorem spec_NewRing {w : World} (r : Int) (n : Nat) (hn : r = (n : Int)) (hr : isRingSize (n : Int) = true) (h64 : n ≤ 64) : CN Tryz.prog 115 [.int .i64 r] w (fun v ch => ∃ sv, v = .tuple #[.agg (Ring.row (newRing n) sv).toArray, .bool true] ∧ OwS 3 1 (PlO intC) sv (List.replicate n 0) ch) := by
 subst hn
 refine cn_of Tryz.func115 Z Z Z<|SQ<|RG<|AL Z tyZ_impl_Ring<|fun b1=>AS Z Z<|ND<|SQ<|SQ<|RG<|MV Z Z<|CV1 Z fun_spec_l8Power Z (fun w hs=>spec_l8Power _ w)<|NT Z Z<|ND<|CF Z (not_T hr)<|SK<|SQ<|RG<|MV Z Z<|MV Z Z<|rw_makeO (f:=intC) (a:=(0 : Int)) Z tyM_S_int Z Z (by omega)<|fun vm1 ch1 how1=>?_
 obtain ⟨R1,rc1,rfl,hR1,hrd1⟩:=(OwA.s how1).shape eInt
 refine rw_build [_,_,_,_] Z tyB_impl_Ring tyZ_impl_Ring Z Z<|ST (i:=0) [_,_,_,_] [_,_,_,_] tyS_impl_Ring.sz Z Z Z Z Z Z Z Z<|AS Z Z<|ND<|?_
 refine ret_cn ch1 Tryz.func115 (res2 Tryz.func115 Z (rv_s (i:=0) [_,_,_,_] tyS_impl_Ring Z Z Z Z) (rv_tmp Z)) ?_ ?_
 ·exact ⟨_,rfl,(OwA.s how1)⟩
 ·exact (List.sublist_append_left _ _).trans (List.sublist_append_right _ _)
theorem spec_NewSender {w : World} (r : Int) (n : Nat) (hn : r = (n : Int)) (hr : isRingSize (n : Int) = true) (h64 : n ≤ 64) : CN Tryz.prog 65 [.int .i64 r] w (fun v ch => ∃ sv, v = .tuple #[.agg (Sender.row (newSender n) sv (.slice none 0 0) (.slice none 0 0) (.slice none 0 0)).toArray, .bool true] ∧ OwS 3 1 (PlO intC) sv (List.replicate n 0) ch) := by
 refine cn_of Tryz.func65 Z Z Z<|SQ<|RG<|AL Z tyZ_impl_Sender<|fun b1=>AS Z Z<|ND<|SQ<|RG<|MV Z Z<|CN1 Z fun_spec_NewRing Z (fun w hs=>spec_NewRing _ n hn hr h64)<|fun vv1 ch1 how1=>?_
 obtain ⟨sv1,rfl,hO1⟩:=how1
 obtain ⟨R1,rc1,rfl,hR1,hrd1⟩:=hO1.shape eInt
 refine MV Z Z<|XT Z Z Z<|XT Z Z Z<|AL Z tyZ_impl_Ring<|fun b2=>ST (i:=0) [_,_,_,_] [_,_,_,_] tyS_impl_Ring.sz Z Z Z Z Z Z Z Z<|AS Z Z<|ND<|SQ<|SQ<|RG<|MV Z Z<|NT Z Z<|ND<|CF Z Z<|SK<|SQ<|RG<|LS (i:=0) [_,_,_,_] Z tyS_impl_Ring Z Z Z Z<|rw_build [_,_,_,_,_,_,_,_,_,_,_,_] Z tyB_impl_Sender tyZ_impl_Sender Z Z<|rw_storeN (i:=1) [_,_,_,_,_,_,_,_,_,_,_,_] [_,_,_,_,_,_,_,_,_,_,_,_] [_,_] tyS_impl_Sender.sz Z Z Z Z Z Z Z Z Z<|?_
 refine AS Z Z<|ND<|?_
 refine ret_cn ch1 Tryz.func65 (res2 Tryz.func65 Z (rv_s (i:=1) [_,_,_,_,_,_,_,_,_,_,_,_] tyS_impl_Sender Z Z Z Z) (rv_tmp Z)) ?_ ?_
 ·exact ⟨_,rfl,hO1⟩
 ·exact (List.sublist_append_left _ _).trans (List.sublist_append_right _ _)
end Go.Proofs.YtbhnekiclbfmgaaGreat
namespace Go.Proofs.YtbhnekiclbfmgaaGreat
open SL Go.RowKit
set_option maxHeartbeats 8000000 in
set_option maxRecDepth 20000 in
theorem spec_l9Sender {w : World} {b cp i : Nat} {A : Option Addr} {l : List UInt8} {h : Int} (hr : Rdb byC w A l b) (hi : i ≤ l.length) (hin : ∀ c ∈ [cur b A l.length cp i h], c.In w) (hnd : ([cur b A l.length cp i h].map Ck.b).Nodup) : CH Tryz.prog 161 [.pointer (some ⟨b, 0, none⟩)] w [cur b A l.length cp i h] (DrewO OwSender (FineS 70) b A l.length cp) := by
 refine ch_of hin hnd Tryz.func161 Z Z Z<|SQ<|RG<|AL Z tyZ_impl_Sender<|fun b1=>ND<|SQ<|RG<|MV Z Z<|rw_sliceO (f:=intC) ([4,8,16] : List Int) [_,_,_] Z tyM_S_int Z Z Z Z Z Z Z<|fun v1 ch1 how1=>rw_ch (G:=[cur b A l.length cp i h]) (R:=ch1 ++ ([])) Z fun_spec_l1PickInt Z ((pg (pp PR) PR)) (fun w hs hin hnd=>spec_l1PickInt (hr.sat hs) hi (lit_rdb (c:=cur b A l.length cp i h) eInt how1 (by decide) hs (pg (pp PR) (pg PR PR))) (by decide) (by decide) hin hnd)<|fun v2 ch2 how2=>?_
 obtain ⟨x2,i2,k2,rfl,hx2,hi2,rfl⟩:=how2
 obtain ⟨n_,hn_,hr_,h64_⟩:=size_of_list hx2
 refine CN1 Z fun_spec_NewSender Z (fun w hs=>spec_NewSender _ n_ hn_ hr_ h64_)<|fun vv3 ch3 how3=>?_
 obtain ⟨sv3,rfl,hO3⟩:=how3
 obtain ⟨R3,rc3,rfl,hR3,hrd3⟩:=hO3.shape eInt
 refine MV Z Z<|XT Z Z Z<|XT Z Z Z<|AL Z tyZ_impl_Sender<|fun b2=>rw_storeN (i:=0) [_,_,_,_,_,_,_,_,_,_,_,_] [_,_,_,_,_,_,_,_,_,_,_,_] [_,_] tyS_impl_Sender.sz Z Z Z Z Z Z Z Z Z<|AS Z Z<|ND<|SQ<|SQ<|RG<|MV Z Z<|rw_ch (G:=[cur b A l.length cp i2 k2]) (R:=ch3 ++ (ch1 ++ ([]))) Z fun_spec_l1Below Z ((pg (pp PR) PR)) (fun w hs hin hnd=>spec_l1Below (hr.sat hs) hi2 (n:=14) (by first | decide | omega) (by first | decide | omega) hin hnd)<|fun v4 ch4 how4=>?_
 obtain ⟨x4,i4,k4,rfl,hx4,hi4,rfl⟩:=how4
 refine AS Z Z<|ND<|BK<|?_
 refine gw_dropF (F':=[cur b A l.length cp i4 k4] ++ (ch3 ++ ([]))) (List.Sublist.append_left (List.Sublist.append_left (List.nil_sublist _) _) _)<|?_
 refine gw_loopX (α:=Nat × Sender × List Value × List Ck × Nat × Int) (fun z_=>∃ K_ : Nat,K_ + 5 * z_.1 ≤ 70 ∧ OwSender z_.2.2.1 z_.2.1 z_.2.2.2.1 ∧ FineS K_ z_.2.1 ∧ z_.2.2.2.2.1 ≤ l.length) (fun z_=>z_.1) (fun e z_=>(5,.int .i64 (z_.1 : Int)) :: e) (fun B z_=>B.set 0 ⟨b2,33,z_.2.2.1⟩) (fun F z_=>[cur b A l.length cp z_.2.2.2.2.1 z_.2.2.2.2.2] ++ (z_.2.2.2.1 ++ ([]))) (x4,newSender n_,_,ch3,i4,k4) [(0,_),(2,_),(3,_)] (Sub.consE Z Z (Sub.cons (i:=0) Z (Sub.cons (i:=2) Z (Sub.cons (i:=3) Z (Sub.nil _))))) Z Z ?_ ?_
 ·refine ⟨0,by omega,⟨_,_,_,_,_,[],[],[],Z,hO3,⟨[],.inl ⟨none,Z,Z,Z⟩⟩,⟨[],.inl ⟨none,Z,Z,Z⟩⟩,⟨[],.inl ⟨none,Z,Z,Z⟩⟩,by simp⟩,newSender_fine h64_,hi4⟩
 ·rintro ⟨n,x,cs_,ch_,i_,k⟩ hI5 ih5
  dsimp only at hI5
  dsimp only [List.set]
  obtain ⟨K_,hK_,hO_,hF_,hi_⟩:=hI5
  obtain ⟨va0,va1,va2,va3,ca_,cb_,cc_,cd_,rfl,ha0,ha1,ha2,ha3,rfl⟩:=hO_
  obtain ⟨Ra0,ba0,rfl,hRa0,hrda0⟩:=ha0.shape eInt
  obtain ⟨Ra1,ba1,rfl,hRa1,hrda1⟩:=ha1.shape eRange
  obtain ⟨Ra2,ba2,rfl,hRa2,hrda2⟩:=ha2.shape eRange
  obtain ⟨Ra3,ba3,rfl,hRa3,hrda3⟩:=ha3.shape eRange
  refine gw_F (F':=[cur b A l.length cp i_ k] ++ (ca_ ++ (cb_ ++ (cc_ ++ (cd_ ++ ([])))))) (by simp only [aA]) ?_
  refine SQ<|SQ<|RG<|MV Z Z<|rw_gtr Z Z Z<|ND<|?_
  refine gw_cond Z (fun h1=>?_) (fun h1=>?_)
  ·have hp6:=pos_of h1
   refine SK<|SQ<|BK<|RG<|MV Z Z<|LS (i:=0) [_,_,_,_,_,_,_,_,_,_,_,_] Z tyS_impl_Sender Z Z Z Z<|?_
   have hpm8 : ([cur b A l.length cp i_ k] ++ (ca_ ++ (cb_ ++ (cc_ ++ (cd_ ++ ([])))))).Perm ((cur b A l.length cp i_ k :: (ca_ ++ (cb_ ++ (cc_ ++ (cd_))))) ++ ([])):=by
    refine List.Perm.trans ((pg PR (pg PR (pg PR (pg PR (pg PR PR))))) : ([cur b A l.length cp i_ k] ++ (ca_ ++ (cb_ ++ (cc_ ++ (cd_ ++ ([])))))).Perm ([cur b A l.length cp i_ k] ++ (ca_ ++ (cb_ ++ (cc_ ++ (cd_ ++ ([]))))))) (List.Perm.of_eq ?_)
    simp only [List.cons_append,List.nil_append,List.append_nil]
   refine rw_ch (G:=(cur b A l.length cp i_ k :: (ca_ ++ (cb_ ++ (cc_ ++ (cd_)))))) (R:=[]) Z fun_spec_l9Step Z hpm8 (fun w hs hin hnd=>spec_l9Step (RdbX.own hr.X hs hpm8) hi_ ⟨_,_,_,_,_,_,_,_,Z,ha0,ha1,ha2,ha3,Z⟩ hF_ (by omega) hin hnd)<|fun v7 ch7 how7=>?_
   obtain ⟨cs7,s7,ch7,i7,k7,rfl,how7,hF7,hi7,rfl⟩:=how7
   obtain ⟨v7_0,v7_1,v7_2,v7_3,c7_0,c7_1,c7_2,c7_3,rfl,h7_0,h7_1,h7_2,h7_3,rfl⟩:=how7
   obtain ⟨R7_0,b7_0,rfl,hR7_0,hrd7_0⟩:=h7_0.shape eInt
   obtain ⟨R7_1,b7_1,rfl,hR7_1,hrd7_1⟩:=h7_1.shape eRange
   obtain ⟨R7_2,b7_2,rfl,hR7_2,hrd7_2⟩:=h7_2.shape eRange
   obtain ⟨R7_3,b7_3,rfl,hR7_3,hrd7_3⟩:=h7_3.shape eRange
   refine rw_F (F':=[cur b A l.length cp i7 k7] ++ (c7_0 ++ (c7_1 ++ (c7_2 ++ (c7_3 ++ ([])))))) (by simp only [nA,aN,cA])<|?_
   obtain ⟨hbf9_0,hbf9_1,hbf9_2,hbf9_3⟩:=FineS.le hF7 (by omega)
   refine rw_storeN (i:=0) [_,_,_,_,_,_,_,_,_,_,_,_] [_,_,_,_,_,_,_,_,_,_,_,_] [_,_] tyS_impl_Sender.sz Z Z Z Z Z Z Z Z Z<|ND<|IB<|RG<|MV Z Z<|rw_sub Z Z Z<|AS Z Z<|ND<|?_
   refine gw_F (F':=[cur b A l.length cp i7 k7] ++ ((c7_0 ++ (c7_1 ++ (c7_2 ++ (c7_3)))) ++ ([]))) (by simp only [aA])<|?_
   refine gw_sub (Sub.consE (i:=5) Z (int_pred hp6 (by omega)) (Sub.cons (i:=0) Z (Sub.cons (i:=2) Z (Sub.cons (i:=3) Z (Sub.nil _))))) (ih5 (n - 1,s7,_,c7_0 ++ (c7_1 ++ (c7_2 ++ (c7_3))),i7,k7) ?_ ?_)
   ·refine ⟨(K_ + 5),by have:=hp6; omega,owSender_mk h7_0 h7_1 h7_2 h7_3,?_,hi7⟩
    exact hF7
   ·show n - 1 < n; omega
  have hz10:=zero_of h1
  refine EX Z<|SQ<|RG<|LS (i:=0) [_,_,_,_,_,_,_,_,_,_,_,_] Z tyS_impl_Sender Z Z Z Z<|rw_storeN (i:=1) [_,_,_,_,_,_,_,_,_,_,_,_] [_,_,_,_,_,_,_,_,_,_,_,_] [_,_] tyS_impl_Sender.sz Z Z Z Z Z Z Z Z Z<|ND<|?_
  refine gw_FP (pg PR (pg PR (pg PR (pg PR (pg PR PR))))) (gw_F (F':=(cur b A l.length cp i_ k :: (ca_ ++ (cb_ ++ (cc_ ++ (cd_))))) ++ ([])) (by simp only [nA,aN,cA]) ?_)
  refine ret_ch (cur b A l.length cp i_ k :: (ca_ ++ (cb_ ++ (cc_ ++ (cd_))))) Tryz.func161 (res1 Tryz.func161 Z (rv_s (i:=1) [_,_,_,_,_,_,_,_,_,_,_,_] tyS_impl_Sender Z Z Z Z)) ?_ ?_
  ·refine ⟨_,_,_,_,_,Z,owSender_mk ha0 ha1 ha2 ha3,?_,hi_,Z⟩
   exact hF_.mono (by omega)
  ·exact (List.sublist_append_left _ _).trans (List.sublist_append_right _ _)
end Go.Proofs.YtbhnekiclbfmgaaGreat
