/- Walks: draws. -/
import Derived.Test.YtbhnekiclbfmgaaGreatWXa
import Derived.Test.YtbhnekiclbfmgaaGreatWXd
import Derived.Test.YtbhnekiclbfmgaaGreatFactsX
import Derived.Test.YtbhnekiclbfmgaaGreatSly
namespace Go.Proofs.YtbhnekiclbfmgaaGreat
open SL Go.RowKit
set_option maxHeartbeats 2000000 in
set_option maxRecDepth 20000 in
theorem spec_WriteSender {w : World} {cs : List Value} {x : Sender} (hv : RdSender w cs x) {K : Nat} (hF : FineS K x) (hK : K ≤ 1000) {D : List UInt8} (hD : D.length ≤ 1000) : CN Tryz.prog 182 [.agg cs.toArray, .string (mkS D)] w (fun v ch => ∃ cs' s' r, v = .tuple #[.agg cs'.toArray, r] ∧ OwSender cs' s' ch ∧ FineS (K + D.length) s') := by
 obtain ⟨v0,v1,v2,v3,rfl,k0,k1,k2,k3⟩:=hv
 obtain ⟨A0,c0,rfl,hA0⟩:=k0
 obtain ⟨A1,c1,rfl,hA1⟩:=k1
 obtain ⟨A2,c2,rfl,hA2⟩:=k2
 obtain ⟨A3,c3,rfl,hA3⟩:=k3
 obtain ⟨hb0,hb1,hb2,hb3⟩:=FineS.le hF (by omega)
 refine cn_of Tryz.func182 Z Z Z<|SQ<|RG<|BX [_,_,_,_,_,_,_,_,_,_,_,_] Z Z Z<|fun b1=>AL Z tyZ_impl_Sender<|fun b2=>AS Z Z<|ND<|SQ<|RG<|LS (i:=1) [_,_,_,_,_,_,_,_,_,_,_,_] Z tyS_impl_Sender Z Z Z Z<|CN1 Z fun_spec_l9Copy Z (fun w hs=>spec_l9Copy ⟨_,_,_,_,Z,(hA0.s Pl.keeps hs),(hA1.s Pl.keeps hs),(hA2.s Pl.keeps hs),(hA3.s Pl.keeps hs)⟩ ⟨hb0,hb1,hb2,hb3⟩)<|fun vv1 ch1 how1=>?_
 obtain ⟨cs1,rfl,v1_0,v1_1,v1_2,v1_3,c1_0,c1_1,c1_2,c1_3,rfl,h1_0,h1_1,h1_2,h1_3,rfl⟩:=how1
 refine rw_F (F':=c1_0 ++ (c1_1 ++ (c1_2 ++ (c1_3 ++ ([]))))) (by simp only [aA])<|?_
 obtain ⟨R1_0,b1_0,rfl,hR1_0,hrd1_0⟩:=h1_0.shape eInt
 obtain ⟨R1_1,b1_1,rfl,hR1_1,hrd1_1⟩:=h1_1.shape eRange
 obtain ⟨R1_2,b1_2,rfl,hR1_2,hrd1_2⟩:=h1_2.shape eRange
 obtain ⟨R1_3,b1_3,rfl,hR1_3,hrd1_3⟩:=h1_3.shape eRange
 refine AL Z tyZ_impl_Sender<|fun b3=>rw_storeN (i:=0) [_,_,_,_,_,_,_,_,_,_,_,_] [_,_,_,_,_,_,_,_,_,_,_,_] [_,_,_] tyS_impl_Sender.sz Z Z Z Z Z Z Z Z Z<|ND<|SQ<|SQ<|RG<|LS (i:=2) [_,_,_,_,_,_,_,_,_,_,_,_] Z tyS_impl_Sender Z Z Z Z<|CV1 Z fun_spec_IsSender Z (fun w hs=>spec_IsSender ⟨_,_,_,_,Z,(hA0.s Pl.keeps hs),(hA1.s Pl.keeps hs),(hA2.s Pl.keeps hs),(hA3.s Pl.keeps hs)⟩ ⟨hb0,hb1,hb2,hb3⟩)<|NT Z Z<|MV Z Z<|?_
 refine rw_caseN (j:=14) Z (fun h1=>?_) (fun h1=>?_)
 ·refine SKP Z<|PT Z Z Z Z<|MV Z Z<|SKP Z<|PT Z Z Z Z<|ND<|CT Z Z<|SQ<|RG<|LS (i:=0) [_,_,_,_,_,_,_,_,_,_,_,_] Z tyS_impl_Sender Z Z Z Z<|rw_storeN (i:=1) [_,_,_,_,_,_,_,_,_,_,_,_] [_,_,_,_,_,_,_,_,_,_,_,_] [_,_,_] tyS_impl_Sender.sz Z Z Z Z Z Z Z Z Z<|AS Z Z<|ND<|?_
  refine gw_FP (pg PR (pg PR (pg PR (pg PR PR)))) (gw_F (F':=(c1_0 ++ (c1_1 ++ (c1_2 ++ (c1_3)))) ++ ([])) (by simp only [aN]) ?_)
  refine ret_cn (c1_0 ++ (c1_1 ++ (c1_2 ++ (c1_3)))) Tryz.func182 (res2 Tryz.func182 Z (rv_s (i:=1) [_,_,_,_,_,_,_,_,_,_,_,_] tyS_impl_Sender Z Z Z Z) (rv_tmp Z)) ?_ ?_
  ·refine ⟨_,_,_,Z,owSender_mk h1_0 h1_1 h1_2 h1_3,?_⟩
   exact hF.mono (by omega)
  ·exact (List.sublist_append_left _ _).trans (List.sublist_append_right _ _)
 refine ON Z Z Z<|FA Z tyF_impl_Sender_0 Z<|ON Z Z Z<|LD (i:=2) Z tyP_int Z Z Z<|ON Z Z Z<|rw_gtr Z Z Z<|PF Z Z Z Z<|MV Z Z<|?_
 refine rw_caseL (j:=19) Z (fun h2=>?_) (fun h2=>?_)
 ·refine SKP Z<|PT Z Z Z Z<|ND<|CT Z Z<|SQ<|RG<|LS (i:=0) [_,_,_,_,_,_,_,_,_,_,_,_] Z tyS_impl_Sender Z Z Z Z<|rw_storeN (i:=1) [_,_,_,_,_,_,_,_,_,_,_,_] [_,_,_,_,_,_,_,_,_,_,_,_] [_,_,_] tyS_impl_Sender.sz Z Z Z Z Z Z Z Z Z<|AS Z Z<|ND<|?_
  refine gw_FP (pg PR (pg PR (pg PR (pg PR PR)))) (gw_F (F':=(c1_0 ++ (c1_1 ++ (c1_2 ++ (c1_3)))) ++ ([])) (by simp only [aN]) ?_)
  refine ret_cn (c1_0 ++ (c1_1 ++ (c1_2 ++ (c1_3)))) Tryz.func182 (res2 Tryz.func182 Z (rv_s (i:=1) [_,_,_,_,_,_,_,_,_,_,_,_] tyS_impl_Sender Z Z Z Z) (rv_tmp Z)) ?_ ?_
  ·refine ⟨_,_,_,Z,owSender_mk h1_0 h1_1 h1_2 h1_3,?_⟩
   exact hF.mono (by omega)
  ·exact (List.sublist_append_left _ _).trans (List.sublist_append_right _ _)
 refine ON Z Z Z<|FA Z tyF_impl_Sender_5 Z<|ON Z Z Z<|LD (i:=2) Z tyP_int Z Z Z<|ON Z Z Z<|rw_neq Z Z Z<|PF Z Z Z Z<|ND<|?_
 refine gw_condN Z (fun h3=>?_) (fun h3=>?_)
 ·refine SQ<|RG<|LS (i:=0) [_,_,_,_,_,_,_,_,_,_,_,_] Z tyS_impl_Sender Z Z Z Z<|rw_storeN (i:=1) [_,_,_,_,_,_,_,_,_,_,_,_] [_,_,_,_,_,_,_,_,_,_,_,_] [_,_,_] tyS_impl_Sender.sz Z Z Z Z Z Z Z Z Z<|AS Z Z<|ND<|?_
  refine gw_FP (pg PR (pg PR (pg PR (pg PR PR)))) (gw_F (F':=(c1_0 ++ (c1_1 ++ (c1_2 ++ (c1_3)))) ++ ([])) (by simp only [aN]) ?_)
  refine ret_cn (c1_0 ++ (c1_1 ++ (c1_2 ++ (c1_3)))) Tryz.func182 (res2 Tryz.func182 Z (rv_s (i:=1) [_,_,_,_,_,_,_,_,_,_,_,_] tyS_impl_Sender Z Z Z Z) (rv_tmp Z)) ?_ ?_
  ·refine ⟨_,_,_,Z,owSender_mk h1_0 h1_1 h1_2 h1_3,?_⟩
   exact hF.mono (by omega)
  ·exact (List.sublist_append_left _ _).trans (List.sublist_append_right _ _)
 refine SK<|SQ<|RG<|FA Z tyF_impl_Sender_1 Z<|LS (i:=2) [_,_,_,_] Z tyS_impl_Ring Z Z Z Z<|MV Z Z<|CN1 Z fun_spec_WriteRing Z (fun w hs=>spec_WriteRing ⟨_,Z,(hA0.s Pl.keeps hs)⟩ hb0 hD)<|fun v2 ch2 how2=>?_
 obtain ⟨cs2,L2,rfl,how2,hL2⟩:=how2
 obtain ⟨v2_0,ch2,rfl,h2_0,rfl⟩:=how2
 obtain ⟨R2_0,b2_0,rfl,hR2_0,hrd2_0⟩:=h2_0.shape eInt
 refine rw_F (F':=ch2 ++ (c1_0 ++ (c1_1 ++ (c1_2 ++ (c1_3 ++ ([])))))) (by simp only [aN])<|MV Z Z<|XT Z Z Z<|XT Z Z Z<|AL Z tyZ_impl_Ring<|fun b4=>ST (i:=0) [_,_,_,_] [_,_,_,_] tyS_impl_Ring.sz Z Z Z Z Z Z Z Z<|AS Z Z<|ND<|SQ<|SQ<|RG<|MV Z Z<|rw_gtr Z Z Z<|ND<|?_
 refine gw_cond Z (fun h4=>?_) (fun h4=>?_)
 ·refine RG<|FA Z tyF_impl_Sender_2 Z<|LD (i:=3) Z tyP_S_impl_Range Z Z Z<|FA Z tyF_impl_Sender_1 Z<|FA Z tyF_impl_Ring_2 Z<|LD (i:=3) Z tyP_int Z Z Z<|FA Z tyF_impl_Ring_2 Z<|LD (i:=0) Z tyP_int Z Z Z<|rw_build [_,_] Z tyB_impl_Range tyZ_impl_Range Z Z<|CN1 Z fun_spec_AddRange Z (fun w hs=>spec_AddRange (hA1.s Pl.keeps hs) (Nat.le_trans hb1 (by decide)) ⟨_,_⟩)<|fun v3 ch3 how3=>?_
  obtain ⟨R3,rc3,rfl,hR3,hrd3⟩:=how3.shape eRange
  refine FA Z tyF_impl_Sender_2 Z<|rw_storeN (i:=1) [_] [_,_,_,_,_,_,_,_,_,_,_,_] [_,_,_,_] tyP_S_impl_Range.sz Z Z Z Z Z Z Z Z Z<|ND<|SQ<|RG<|LS (i:=0) [_,_,_,_] Z tyS_impl_Ring Z Z Z Z<|FA Z tyF_impl_Sender_1 Z<|rw_storeN (i:=1) [_,_,_,_] [_,_,_,_,_,_,_,_,_,_,_,_] [_,_,_,_] tyS_impl_Ring.sz Z Z Z Z Z Z Z Z Z<|ND<|SQ<|RG<|LS (i:=1) [_,_,_,_,_,_,_,_,_,_,_,_] Z tyS_impl_Sender Z Z Z Z<|MV Z Z<|?_
  refine rw_storeN (i:=2) [_,_,_,_,_,_,_,_,_,_,_,_] [_,_,_,_,_,_,_,_,_,_,_,_] [_,_,_,_] tyS_impl_Sender.sz Z Z Z Z Z Z Z Z Z<|AS Z Z<|ND<|?_
  refine gw_FP (pg (pp PR) (pg PR (pg (pp (pp PR)) (pg (pp (pp PR)) PR)))) (gw_F (F':=(ch2 ++ (ch3 ++ (c1_2 ++ (c1_3)))) ++ (c1_0 ++ (c1_1 ++ ([])))) (by simp only [aA,aN]) ?_)
  refine ret_cn (ch2 ++ (ch3 ++ (c1_2 ++ (c1_3)))) Tryz.func182 (res2 Tryz.func182 Z (rv_s (i:=2) [_,_,_,_,_,_,_,_,_,_,_,_] tyS_impl_Sender Z Z Z Z) (rv_tmp Z)) ?_ ?_
  ·refine ⟨_,_,_,Z,owSender_mk h2_0 how3 h1_2 h1_3,?_⟩
   exact (FineS.write hF (by omega) hD hL2).1
  ·exact (List.sublist_append_left _ _).trans (List.sublist_append_right _ _)
 refine SK<|SQ<|RG<|LS (i:=0) [_,_,_,_] Z tyS_impl_Ring Z Z Z Z<|FA Z tyF_impl_Sender_1 Z<|rw_storeN (i:=1) [_,_,_,_] [_,_,_,_,_,_,_,_,_,_,_,_] [_,_,_,_] tyS_impl_Ring.sz Z Z Z Z Z Z Z Z Z<|ND<|SQ<|RG<|LS (i:=1) [_,_,_,_,_,_,_,_,_,_,_,_] Z tyS_impl_Sender Z Z Z Z<|MV Z Z<|rw_storeN (i:=2) [_,_,_,_,_,_,_,_,_,_,_,_] [_,_,_,_,_,_,_,_,_,_,_,_] [_,_,_,_] tyS_impl_Sender.sz Z Z Z Z Z Z Z Z Z<|AS Z Z<|?_
 refine ND<|?_
 refine gw_FP (pg PR (pg (pp PR) (pg (pp PR) (pg (pp PR) PR)))) (gw_F (F':=(ch2 ++ (c1_1 ++ (c1_2 ++ (c1_3)))) ++ (c1_0 ++ ([]))) (by simp only [aA,aN]) ?_)
 refine ret_cn (ch2 ++ (c1_1 ++ (c1_2 ++ (c1_3)))) Tryz.func182 (res2 Tryz.func182 Z (rv_s (i:=2) [_,_,_,_,_,_,_,_,_,_,_,_] tyS_impl_Sender Z Z Z Z) (rv_tmp Z)) ?_ ?_
 ·refine ⟨_,_,_,Z,owSender_mk h2_0 h1_1 h1_2 h1_3,?_⟩
  exact (FineS.write hF (by omega) hD hL2).2
 ·exact (List.sublist_append_left _ _).trans (List.sublist_append_right _ _)
set_option maxHeartbeats 2000000 in
set_option maxRecDepth 20000 in
theorem spec_CloseSender {w : World} {cs : List Value} {x : Sender} (hv : RdSender w cs x) {K : Nat} (hF : FineS K x) (hK : K ≤ 1000) : CN Tryz.prog 187 [.agg cs.toArray] w (fun v ch => ∃ cs' s' r, v = .tuple #[.agg cs'.toArray, r] ∧ OwSender cs' s' ch ∧ FineS K s') := by
 obtain ⟨v0,v1,v2,v3,rfl,k0,k1,k2,k3⟩:=hv
 obtain ⟨A0,c0,rfl,hA0⟩:=k0
 obtain ⟨A1,c1,rfl,hA1⟩:=k1
 obtain ⟨A2,c2,rfl,hA2⟩:=k2
 obtain ⟨A3,c3,rfl,hA3⟩:=k3
 obtain ⟨hb0,hb1,hb2,hb3⟩:=FineS.le hF (by omega)
 refine cn_of Tryz.func187 Z Z Z<|SQ<|RG<|BX [_,_,_,_,_,_,_,_,_,_,_,_] Z Z Z<|fun b1=>AL Z tyZ_impl_Sender<|fun b2=>AS Z Z<|ND<|SQ<|RG<|LS (i:=1) [_,_,_,_,_,_,_,_,_,_,_,_] Z tyS_impl_Sender Z Z Z Z<|CN1 Z fun_spec_l9Copy Z (fun w hs=>spec_l9Copy ⟨_,_,_,_,Z,(hA0.s Pl.keeps hs),(hA1.s Pl.keeps hs),(hA2.s Pl.keeps hs),(hA3.s Pl.keeps hs)⟩ ⟨hb0,hb1,hb2,hb3⟩)<|fun vv1 ch1 how1=>?_
 obtain ⟨cs1,rfl,v1_0,v1_1,v1_2,v1_3,c1_0,c1_1,c1_2,c1_3,rfl,h1_0,h1_1,h1_2,h1_3,rfl⟩:=how1
 refine rw_F (F':=c1_0 ++ (c1_1 ++ (c1_2 ++ (c1_3 ++ ([]))))) (by simp only [aA])<|?_
 obtain ⟨R1_0,b1_0,rfl,hR1_0,hrd1_0⟩:=h1_0.shape eInt
 obtain ⟨R1_1,b1_1,rfl,hR1_1,hrd1_1⟩:=h1_1.shape eRange
 obtain ⟨R1_2,b1_2,rfl,hR1_2,hrd1_2⟩:=h1_2.shape eRange
 obtain ⟨R1_3,b1_3,rfl,hR1_3,hrd1_3⟩:=h1_3.shape eRange
 refine AL Z tyZ_impl_Sender<|fun b3=>rw_storeN (i:=0) [_,_,_,_,_,_,_,_,_,_,_,_] [_,_,_,_,_,_,_,_,_,_,_,_] [_,_,_] tyS_impl_Sender.sz Z Z Z Z Z Z Z Z Z<|ND<|SQ<|SQ<|RG<|LS (i:=2) [_,_,_,_,_,_,_,_,_,_,_,_] Z tyS_impl_Sender Z Z Z Z<|CV1 Z fun_spec_IsSender Z (fun w hs=>spec_IsSender ⟨_,_,_,_,Z,(hA0.s Pl.keeps hs),(hA1.s Pl.keeps hs),(hA2.s Pl.keeps hs),(hA3.s Pl.keeps hs)⟩ ⟨hb0,hb1,hb2,hb3⟩)<|NT Z Z<|MV Z Z<|?_
 refine rw_caseN (j:=10) Z (fun h1=>?_) (fun h1=>?_)
 ·refine SKP Z<|PT Z Z Z Z<|MV Z Z<|SKP Z<|PT Z Z Z Z<|ND<|CT Z Z<|SQ<|RG<|LS (i:=0) [_,_,_,_,_,_,_,_,_,_,_,_] Z tyS_impl_Sender Z Z Z Z<|rw_storeN (i:=1) [_,_,_,_,_,_,_,_,_,_,_,_] [_,_,_,_,_,_,_,_,_,_,_,_] [_,_,_] tyS_impl_Sender.sz Z Z Z Z Z Z Z Z Z<|AS Z Z<|ND<|?_
  refine gw_FP (pg PR (pg PR (pg PR (pg PR PR)))) (gw_F (F':=(c1_0 ++ (c1_1 ++ (c1_2 ++ (c1_3)))) ++ ([])) (by simp only [aN]) ?_)
  refine ret_cn (c1_0 ++ (c1_1 ++ (c1_2 ++ (c1_3)))) Tryz.func187 (res2 Tryz.func187 Z (rv_s (i:=1) [_,_,_,_,_,_,_,_,_,_,_,_] tyS_impl_Sender Z Z Z Z) (rv_tmp Z)) ?_ ?_
  ·refine ⟨_,_,_,Z,owSender_mk h1_0 h1_1 h1_2 h1_3,?_⟩
   exact ⟨hF.p,hF.f,hF.a,hF.hp,hF.hf,hF.ha,hF.e0,hF.eK,hF.c⟩
  ·exact (List.sublist_append_left _ _).trans (List.sublist_append_right _ _)
 refine ON Z Z Z<|FA Z tyF_impl_Sender_0 Z<|ON Z Z Z<|LD (i:=2) Z tyP_int Z Z Z<|ON Z Z Z<|rw_gtr Z Z Z<|PF Z Z Z Z<|MV Z Z<|?_
 refine rw_caseL (j:=15) Z (fun h2=>?_) (fun h2=>?_)
 ·refine SKP Z<|PT Z Z Z Z<|ND<|CT Z Z<|SQ<|RG<|LS (i:=0) [_,_,_,_,_,_,_,_,_,_,_,_] Z tyS_impl_Sender Z Z Z Z<|rw_storeN (i:=1) [_,_,_,_,_,_,_,_,_,_,_,_] [_,_,_,_,_,_,_,_,_,_,_,_] [_,_,_] tyS_impl_Sender.sz Z Z Z Z Z Z Z Z Z<|AS Z Z<|ND<|?_
  refine gw_FP (pg PR (pg PR (pg PR (pg PR PR)))) (gw_F (F':=(c1_0 ++ (c1_1 ++ (c1_2 ++ (c1_3)))) ++ ([])) (by simp only [aN]) ?_)
  refine ret_cn (c1_0 ++ (c1_1 ++ (c1_2 ++ (c1_3)))) Tryz.func187 (res2 Tryz.func187 Z (rv_s (i:=1) [_,_,_,_,_,_,_,_,_,_,_,_] tyS_impl_Sender Z Z Z Z) (rv_tmp Z)) ?_ ?_
  ·refine ⟨_,_,_,Z,owSender_mk h1_0 h1_1 h1_2 h1_3,?_⟩
   exact ⟨hF.p,hF.f,hF.a,hF.hp,hF.hf,hF.ha,hF.e0,hF.eK,hF.c⟩
  ·exact (List.sublist_append_left _ _).trans (List.sublist_append_right _ _)
 refine ON Z Z Z<|FA Z tyF_impl_Sender_5 Z<|ON Z Z Z<|LD (i:=2) Z tyP_int Z Z Z<|ON Z Z Z<|rw_neq Z Z Z<|PF Z Z Z Z<|ND<|?_
 refine gw_condN Z (fun h3=>?_) (fun h3=>?_)
 ·refine SQ<|RG<|LS (i:=0) [_,_,_,_,_,_,_,_,_,_,_,_] Z tyS_impl_Sender Z Z Z Z<|rw_storeN (i:=1) [_,_,_,_,_,_,_,_,_,_,_,_] [_,_,_,_,_,_,_,_,_,_,_,_] [_,_,_] tyS_impl_Sender.sz Z Z Z Z Z Z Z Z Z<|AS Z Z<|ND<|?_
  refine gw_FP (pg PR (pg PR (pg PR (pg PR PR)))) (gw_F (F':=(c1_0 ++ (c1_1 ++ (c1_2 ++ (c1_3)))) ++ ([])) (by simp only [aN]) ?_)
  refine ret_cn (c1_0 ++ (c1_1 ++ (c1_2 ++ (c1_3)))) Tryz.func187 (res2 Tryz.func187 Z (rv_s (i:=1) [_,_,_,_,_,_,_,_,_,_,_,_] tyS_impl_Sender Z Z Z Z) (rv_tmp Z)) ?_ ?_
  ·refine ⟨_,_,_,Z,owSender_mk h1_0 h1_1 h1_2 h1_3,?_⟩
   exact ⟨hF.p,hF.f,hF.a,hF.hp,hF.hf,hF.ha,hF.e0,hF.eK,hF.c⟩
  ·exact (List.sublist_append_left _ _).trans (List.sublist_append_right _ _)
 refine SK<|SQ<|RG<|FA Z tyF_impl_Sender_1 Z<|FA Z tyF_impl_Ring_2 Z<|LD (i:=2) Z tyP_int Z Z Z<|FA Z tyF_impl_Sender_5 Z<|rw_storeN (i:=0) [_] [_,_,_,_,_,_,_,_,_,_,_,_] [_,_,_] tyP_int.sz Z Z Z Z Z Z Z Z Z<|ND<|SQ<|RG<|FA Z tyF_impl_Sender_6 Z<|rw_storeN (i:=0) [_] [_,_,_,_,_,_,_,_,_,_,_,_] [_,_,_] tyP_int.sz Z Z Z Z Z Z Z Z Z<|ND<|SQ<|RG<|LS (i:=0) [_,_,_,_,_,_,_,_,_,_,_,_] Z tyS_impl_Sender Z Z Z Z<|?_
 refine rw_storeN (i:=1) [_,_,_,_,_,_,_,_,_,_,_,_] [_,_,_,_,_,_,_,_,_,_,_,_] [_,_,_] tyS_impl_Sender.sz Z Z Z Z Z Z Z Z Z<|AS Z Z<|ND<|?_
 refine gw_FP (pg PR (pg PR (pg PR (pg PR PR)))) (gw_F (F':=(c1_0 ++ (c1_1 ++ (c1_2 ++ (c1_3)))) ++ ([])) (by simp only [aN]) ?_)
 refine ret_cn (c1_0 ++ (c1_1 ++ (c1_2 ++ (c1_3)))) Tryz.func187 (res2 Tryz.func187 Z (rv_s (i:=1) [_,_,_,_,_,_,_,_,_,_,_,_] tyS_impl_Sender Z Z Z Z) (rv_tmp Z)) ?_ ?_
 ·refine ⟨_,_,_,Z,owSender_mk h1_0 h1_1 h1_2 h1_3,?_⟩
  exact ⟨hF.p,hF.f,hF.a,hF.hp,hF.hf,hF.ha,hF.e0,hF.eK,hF.c⟩
 ·exact (List.sublist_append_left _ _).trans (List.sublist_append_right _ _)
set_option maxHeartbeats 2000000 in
set_option maxRecDepth 20000 in
theorem spec_ResetSender {w : World} {cs : List Value} {x : Sender} (hv : RdSender w cs x) {K : Nat} (hF : FineS K x) (hK : K ≤ 1000) (code : Int) : CN Tryz.prog 188 [.agg cs.toArray, .int .i64 code] w (fun v ch => ∃ cs' s' r, v = .tuple #[.agg cs'.toArray, r] ∧ OwSender cs' s' ch ∧ FineS K s') := by
 obtain ⟨v0,v1,v2,v3,rfl,k0,k1,k2,k3⟩:=hv
 obtain ⟨A0,c0,rfl,hA0⟩:=k0
 obtain ⟨A1,c1,rfl,hA1⟩:=k1
 obtain ⟨A2,c2,rfl,hA2⟩:=k2
 obtain ⟨A3,c3,rfl,hA3⟩:=k3
 obtain ⟨hb0,hb1,hb2,hb3⟩:=FineS.le hF (by omega)
 refine cn_of Tryz.func188 Z Z Z<|SQ<|RG<|BX [_,_,_,_,_,_,_,_,_,_,_,_] Z Z Z<|fun b1=>AL Z tyZ_impl_Sender<|fun b2=>AS Z Z<|ND<|SQ<|SQ<|RG<|LS (i:=1) [_,_,_,_,_,_,_,_,_,_,_,_] Z tyS_impl_Sender Z Z Z Z<|CV1 Z fun_spec_IsSender Z (fun w hs=>spec_IsSender ⟨_,_,_,_,Z,(hA0.s Pl.keeps hs),(hA1.s Pl.keeps hs),(hA2.s Pl.keeps hs),(hA3.s Pl.keeps hs)⟩ ⟨hb0,hb1,hb2,hb3⟩)<|NT Z Z<|MV Z Z<|?_
 refine rw_caseN (j:=10) Z (fun h1=>?_) (fun h1=>?_)
 ·refine SKP Z<|PT Z Z Z Z<|MV Z Z<|SKP Z<|PT Z Z Z Z<|ND<|CT Z Z<|SQ<|RG<|LS (i:=1) [_,_,_,_,_,_,_,_,_,_,_,_] Z tyS_impl_Sender Z Z Z Z<|CN1 Z fun_spec_l9Copy Z (fun w hs=>spec_l9Copy ⟨_,_,_,_,Z,(hA0.s Pl.keeps hs),(hA1.s Pl.keeps hs),(hA2.s Pl.keeps hs),(hA3.s Pl.keeps hs)⟩ ⟨hb0,hb1,hb2,hb3⟩)<|fun vv1 ch1 how1=>?_
  obtain ⟨cs1,rfl,v1_0,v1_1,v1_2,v1_3,c1_0,c1_1,c1_2,c1_3,rfl,h1_0,h1_1,h1_2,h1_3,rfl⟩:=how1
  refine rw_F (F':=c1_0 ++ (c1_1 ++ (c1_2 ++ (c1_3 ++ ([]))))) (by simp only [aA])<|?_
  obtain ⟨R1_0,b1_0,rfl,hR1_0,hrd1_0⟩:=h1_0.shape eInt
  obtain ⟨R1_1,b1_1,rfl,hR1_1,hrd1_1⟩:=h1_1.shape eRange
  obtain ⟨R1_2,b1_2,rfl,hR1_2,hrd1_2⟩:=h1_2.shape eRange
  obtain ⟨R1_3,b1_3,rfl,hR1_3,hrd1_3⟩:=h1_3.shape eRange
  refine rw_storeN (i:=0) [_,_,_,_,_,_,_,_,_,_,_,_] [_,_,_,_,_,_,_,_,_,_,_,_] [_,_] tyS_impl_Sender.sz Z Z Z Z Z Z Z Z Z<|AS Z Z<|ND<|?_
  refine gw_FP (pg PR (pg PR (pg PR (pg PR PR)))) (gw_F (F':=(c1_0 ++ (c1_1 ++ (c1_2 ++ (c1_3)))) ++ ([])) (by simp only [aN]) ?_)
  refine ret_cn (c1_0 ++ (c1_1 ++ (c1_2 ++ (c1_3)))) Tryz.func188 (res2 Tryz.func188 Z (rv_s (i:=0) [_,_,_,_,_,_,_,_,_,_,_,_] tyS_impl_Sender Z Z Z Z) (rv_tmp Z)) ?_ ?_
  ·refine ⟨_,_,_,Z,owSender_mk h1_0 h1_1 h1_2 h1_3,?_⟩
   exact ⟨hF.p,hF.f,hF.a,hF.hp,hF.hf,hF.ha,hF.e0,hF.eK,hF.c⟩
  ·exact (List.sublist_append_left _ _).trans (List.sublist_append_right _ _)
 refine ON Z Z Z<|FA Z tyF_impl_Sender_0 Z<|ON Z Z Z<|LD (i:=1) Z tyP_int Z Z Z<|ON Z Z Z<|rw_gtr Z Z Z<|PF Z Z Z Z<|MV Z Z<|?_
 refine rw_caseL (j:=15) Z (fun h2=>?_) (fun h2=>?_)
 ·refine SKP Z<|PT Z Z Z Z<|ND<|CT Z Z<|SQ<|RG<|LS (i:=1) [_,_,_,_,_,_,_,_,_,_,_,_] Z tyS_impl_Sender Z Z Z Z<|CN1 Z fun_spec_l9Copy Z (fun w hs=>spec_l9Copy ⟨_,_,_,_,Z,(hA0.s Pl.keeps hs),(hA1.s Pl.keeps hs),(hA2.s Pl.keeps hs),(hA3.s Pl.keeps hs)⟩ ⟨hb0,hb1,hb2,hb3⟩)<|fun vv2 ch2 how2=>?_
  obtain ⟨cs2,rfl,v2_0,v2_1,v2_2,v2_3,c2_0,c2_1,c2_2,c2_3,rfl,h2_0,h2_1,h2_2,h2_3,rfl⟩:=how2
  refine rw_F (F':=c2_0 ++ (c2_1 ++ (c2_2 ++ (c2_3 ++ ([]))))) (by simp only [aA])<|?_
  obtain ⟨R2_0,b2_0,rfl,hR2_0,hrd2_0⟩:=h2_0.shape eInt
  obtain ⟨R2_1,b2_1,rfl,hR2_1,hrd2_1⟩:=h2_1.shape eRange
  obtain ⟨R2_2,b2_2,rfl,hR2_2,hrd2_2⟩:=h2_2.shape eRange
  obtain ⟨R2_3,b2_3,rfl,hR2_3,hrd2_3⟩:=h2_3.shape eRange
  refine rw_storeN (i:=0) [_,_,_,_,_,_,_,_,_,_,_,_] [_,_,_,_,_,_,_,_,_,_,_,_] [_,_] tyS_impl_Sender.sz Z Z Z Z Z Z Z Z Z<|AS Z Z<|ND<|?_
  refine gw_FP (pg PR (pg PR (pg PR (pg PR PR)))) (gw_F (F':=(c2_0 ++ (c2_1 ++ (c2_2 ++ (c2_3)))) ++ ([])) (by simp only [aN]) ?_)
  refine ret_cn (c2_0 ++ (c2_1 ++ (c2_2 ++ (c2_3)))) Tryz.func188 (res2 Tryz.func188 Z (rv_s (i:=0) [_,_,_,_,_,_,_,_,_,_,_,_] tyS_impl_Sender Z Z Z Z) (rv_tmp Z)) ?_ ?_
  ·refine ⟨_,_,_,Z,owSender_mk h2_0 h2_1 h2_2 h2_3,?_⟩
   exact ⟨hF.p,hF.f,hF.a,hF.hp,hF.hf,hF.ha,hF.e0,hF.eK,hF.c⟩
  ·exact (List.sublist_append_left _ _).trans (List.sublist_append_right _ _)
 refine ON Z Z Z<|MV Z Z<|ON Z Z Z<|CV1 Z fun_spec_l4Quic Z (fun w hs=>spec_l4Quic _ w)<|ON Z Z Z<|NT Z Z<|PF Z Z Z Z<|ND<|?_
 refine gw_condN Z (fun h3=>?_) (fun h3=>?_)
 ·refine SQ<|RG<|LS (i:=1) [_,_,_,_,_,_,_,_,_,_,_,_] Z tyS_impl_Sender Z Z Z Z<|CN1 Z fun_spec_l9Copy Z (fun w hs=>spec_l9Copy ⟨_,_,_,_,Z,(hA0.s Pl.keeps hs),(hA1.s Pl.keeps hs),(hA2.s Pl.keeps hs),(hA3.s Pl.keeps hs)⟩ ⟨hb0,hb1,hb2,hb3⟩)<|fun vv3 ch3 how3=>?_
  obtain ⟨cs3,rfl,v3_0,v3_1,v3_2,v3_3,c3_0,c3_1,c3_2,c3_3,rfl,h3_0,h3_1,h3_2,h3_3,rfl⟩:=how3
  refine rw_F (F':=c3_0 ++ (c3_1 ++ (c3_2 ++ (c3_3 ++ ([]))))) (by simp only [aA])<|?_
  obtain ⟨R3_0,b3_0,rfl,hR3_0,hrd3_0⟩:=h3_0.shape eInt
  obtain ⟨R3_1,b3_1,rfl,hR3_1,hrd3_1⟩:=h3_1.shape eRange
  obtain ⟨R3_2,b3_2,rfl,hR3_2,hrd3_2⟩:=h3_2.shape eRange
  obtain ⟨R3_3,b3_3,rfl,hR3_3,hrd3_3⟩:=h3_3.shape eRange
  refine rw_storeN (i:=0) [_,_,_,_,_,_,_,_,_,_,_,_] [_,_,_,_,_,_,_,_,_,_,_,_] [_,_] tyS_impl_Sender.sz Z Z Z Z Z Z Z Z Z<|AS Z Z<|ND<|?_
  refine gw_FP (pg PR (pg PR (pg PR (pg PR PR)))) (gw_F (F':=(c3_0 ++ (c3_1 ++ (c3_2 ++ (c3_3)))) ++ ([])) (by simp only [aN]) ?_)
  refine ret_cn (c3_0 ++ (c3_1 ++ (c3_2 ++ (c3_3)))) Tryz.func188 (res2 Tryz.func188 Z (rv_s (i:=0) [_,_,_,_,_,_,_,_,_,_,_,_] tyS_impl_Sender Z Z Z Z) (rv_tmp Z)) ?_ ?_
  ·refine ⟨_,_,_,Z,owSender_mk h3_0 h3_1 h3_2 h3_3,?_⟩
   exact ⟨hF.p,hF.f,hF.a,hF.hp,hF.hf,hF.ha,hF.e0,hF.eK,hF.c⟩
  ·exact (List.sublist_append_left _ _).trans (List.sublist_append_right _ _)
 refine SK<|SQ<|gw_draw' [dd 0,dd 1,dd 2,dd 3,dd 4,dd 5,dd 6,dd 7,dd 8,dd 9,(10,.add),dd 11,(12,(.free 30 [.int .i64 0,.int .i64 0,.int .i64 0,.slice none 0 0]))] [13] mixed Z (free_det (free_det (free_det (free_det (free_det (free_det (free_det (free_det (free_det (free_det (free_add (free_det (free_new Z Z tyZ_impl_Ring free_nil))))))))))))) (ts:=[_]) Z<|DT Z Z (fun _ q=>FA Z tyF_impl_Sender_1 Z q)<|DT Z Z (fun _ q=>FA Z tyF_impl_Ring_0 Z q)<|?_
 refine DT Z Z (fun _ q=>LD (i:=1) Z tyP_int Z Z Z q)<|DT Z Z (fun _ q=>FA Z tyF_impl_Sender_7 Z q)<|DT Z Z (fun _ q=>LD (i:=1) Z tyP_int Z Z Z q)<|DT Z Z (fun _ q=>FA Z tyF_impl_Sender_7 Z q)<|DT Z Z (fun _ q=>LD (i:=1) Z tyP_int Z Z Z q)<|DT Z Z (fun _ q=>FA Z tyF_impl_Sender_1 Z q)<|DT Z Z (fun _ q=>FA Z tyF_impl_Ring_0 Z q)<|DT Z Z (fun _ q=>LD (i:=1) Z tyP_int Z Z Z q)<|?_
 obtain ⟨n_,hn_,h64_,hs0_,hs1_⟩:=sender_size h1
 refine DA Z Z (fun _ q=>rw_makeOe (f:=intC) (a:=0) n_ hn_ Z tyM_S_int Z Z (by omega) q)<|fun v4 ch4 how4=>?_
 obtain ⟨R4,rc4,rfl,hR4,hrd4⟩:=(OwA.s how4).shape eInt
 refine DT Z Z (fun _ q=>rw_build [_,_,_,_] Z tyB_impl_Ring tyZ_impl_Ring Z Z q)<|dw_free Z Z<|fun b3=>dw_nil<|rw_take<|ST (i:=0) [_,_,_,_] [_,_,_,_] tyS_impl_Ring.sz Z Z Z Z Z Z Z Z<|ND<|SQ<|RG<|LS (i:=0) [_,_,_,_] Z tyS_impl_Ring Z Z Z Z<|FA Z tyF_impl_Sender_7 Z<|LD (i:=2) Z tyP_int Z Z Z<|FA Z tyF_impl_Sender_7 Z<|LD (i:=2) Z tyP_int Z Z Z<|MV Z Z<|rw_build [_,_,_,_,_,_,_,_,_,_,_,_] Z tyB_impl_Sender tyZ_impl_Sender Z Z<|?_
 refine rw_storeN (i:=1) [_,_,_,_,_,_,_,_,_,_,_,_] [_,_,_,_,_,_,_,_,_,_,_,_] [_,_,_] tyS_impl_Sender.sz Z Z Z Z Z Z Z Z Z<|AS Z Z<|ND<|?_
 refine gw_FP (pg PR PR) (gw_F (F':=(ch4 ++ ([] ++ ([] ++ ([])))) ++ ([])) (by simp only [aN]) ?_)
 refine ret_cn (ch4 ++ ([] ++ ([] ++ ([])))) Tryz.func188 (res2 Tryz.func188 Z (rv_s (i:=1) [_,_,_,_,_,_,_,_,_,_,_,_] tyS_impl_Sender Z Z Z Z) (rv_tmp Z)) ?_ ?_
 ·refine ⟨_,_,_,Z,owSender_mk (OwA.s how4) ⟨[],.inl ⟨none,Z,Z,Z⟩⟩ ⟨[],.inl ⟨none,Z,Z,Z⟩⟩ ⟨[],.inl ⟨none,Z,Z,Z⟩⟩,?_⟩
  exact ⟨trivial,trivial,trivial,hb_nil _,hb_nil _,hb_nil _,hs0_,Int.le_trans hs1_ hF.eK,by rw [List.length_replicate]; exact h64_⟩
 ·exact (List.sublist_append_left _ _).trans (List.sublist_append_right _ _)
end Go.Proofs.YtbhnekiclbfmgaaGreat
namespace Go.Proofs.YtbhnekiclbfmgaaGreat
open SL Go.RowKit
set_option maxHeartbeats 4000000 in
set_option maxRecDepth 20000 in
theorem spec_SendPiece {w : World} {cs : List Value} {x : Sender} (hv : RdSender w cs x) {K : Nat} (hF : FineS K x) (hK : K ≤ 1000) (p : Piece) : CN Tryz.prog 183 [.agg cs.toArray, .agg p.cells.toArray] w (fun v ch => ∃ cs' s' r, v = .tuple #[.agg cs'.toArray, r] ∧ OwSender cs' s' ch ∧ FineS K s') := by
 obtain ⟨v0,v1,v2,v3,rfl,k0,k1,k2,k3⟩:=hv
 obtain ⟨A0,c0,rfl,hA0⟩:=k0
 obtain ⟨A1,c1,rfl,hA1⟩:=k1
 obtain ⟨A2,c2,rfl,hA2⟩:=k2
 obtain ⟨A3,c3,rfl,hA3⟩:=k3
 obtain ⟨hb0,hb1,hb2,hb3⟩:=FineS.le hF (by omega)
 refine cn_of Tryz.func183 Z Z Z<|SQ<|RG<|BX [_,_,_,_,_,_,_,_,_,_,_,_] Z Z Z<|fun b1=>BX [_,_,_] Z Z Z<|fun b2=>AL Z tyZ_impl_Sender<|fun b3=>AS Z Z<|ND<|SQ<|RG<|LS (i:=2) [_,_,_,_,_,_,_,_,_,_,_,_] Z tyS_impl_Sender Z Z Z Z<|CN1 Z fun_spec_l9Copy Z (fun w hs=>spec_l9Copy ⟨_,_,_,_,Z,(hA0.s Pl.keeps hs),(hA1.s Pl.keeps hs),(hA2.s Pl.keeps hs),(hA3.s Pl.keeps hs)⟩ ⟨hb0,hb1,hb2,hb3⟩)<|fun vv1 ch1 how1=>?_
 obtain ⟨cs1,rfl,v1_0,v1_1,v1_2,v1_3,c1_0,c1_1,c1_2,c1_3,rfl,h1_0,h1_1,h1_2,h1_3,rfl⟩:=how1
 refine rw_F (F':=c1_0 ++ (c1_1 ++ (c1_2 ++ (c1_3 ++ ([]))))) (by simp only [aA])<|?_
 obtain ⟨R1_0,b1_0,rfl,hR1_0,hrd1_0⟩:=h1_0.shape eInt
 obtain ⟨R1_1,b1_1,rfl,hR1_1,hrd1_1⟩:=h1_1.shape eRange
 obtain ⟨R1_2,b1_2,rfl,hR1_2,hrd1_2⟩:=h1_2.shape eRange
 obtain ⟨R1_3,b1_3,rfl,hR1_3,hrd1_3⟩:=h1_3.shape eRange
 refine AL Z tyZ_impl_Sender<|fun b4=>rw_storeN (i:=0) [_,_,_,_,_,_,_,_,_,_,_,_] [_,_,_,_,_,_,_,_,_,_,_,_] [_,_,_,_] tyS_impl_Sender.sz Z Z Z Z Z Z Z Z Z<|ND<|SQ<|SQ<|RG<|LS (i:=3) [_,_,_,_,_,_,_,_,_,_,_,_] Z tyS_impl_Sender Z Z Z Z<|CV1 Z fun_spec_IsSender Z (fun w hs=>spec_IsSender ⟨_,_,_,_,Z,(hA0.s Pl.keeps hs),(hA1.s Pl.keeps hs),(hA2.s Pl.keeps hs),(hA3.s Pl.keeps hs)⟩ ⟨hb0,hb1,hb2,hb3⟩)<|NT Z Z<|MV Z Z<|?_
 refine rw_caseN (j:=14) Z (fun h1=>?_) (fun h1=>?_)
 ·refine SKP Z<|PT Z Z Z Z<|MV Z Z<|SKP Z<|PT Z Z Z Z<|MV Z Z<|SKP Z<|PT Z Z Z Z<|MV Z Z<|SKP Z<|PT Z Z Z Z<|ND<|CT Z Z<|SQ<|RG<|LS (i:=0) [_,_,_,_,_,_,_,_,_,_,_,_] Z tyS_impl_Sender Z Z Z Z<|rw_storeN (i:=1) [_,_,_,_,_,_,_,_,_,_,_,_] [_,_,_,_,_,_,_,_,_,_,_,_] [_,_,_,_] tyS_impl_Sender.sz Z Z Z Z Z Z Z Z Z<|AS Z Z<|ND<|?_
  refine gw_FP (pg PR (pg PR (pg PR (pg PR PR)))) (gw_F (F':=(c1_0 ++ (c1_1 ++ (c1_2 ++ (c1_3)))) ++ ([])) (by simp only [aN]) ?_)
  refine ret_cn (c1_0 ++ (c1_1 ++ (c1_2 ++ (c1_3)))) Tryz.func183 (res2 Tryz.func183 Z (rv_s (i:=1) [_,_,_,_,_,_,_,_,_,_,_,_] tyS_impl_Sender Z Z Z Z) (rv_tmp Z)) ?_ ?_
  ·refine ⟨_,_,_,Z,owSender_mk h1_0 h1_1 h1_2 h1_3,?_⟩
   exact ⟨hF.p,hF.f,hF.a,hF.hp,hF.hf,hF.ha,hF.e0,hF.eK,hF.c⟩
  ·exact (List.sublist_append_left _ _).trans (List.sublist_append_right _ _)
 refine ON Z Z Z<|FA Z tyF_impl_Sender_0 Z<|ON Z Z Z<|LD (i:=3) Z tyP_int Z Z Z<|ON Z Z Z<|rw_gtr Z Z Z<|PF Z Z Z Z<|MV Z Z<|?_
 refine rw_caseL (j:=19) Z (fun h2=>?_) (fun h2=>?_)
 ·refine SKP Z<|PT Z Z Z Z<|MV Z Z<|SKP Z<|PT Z Z Z Z<|MV Z Z<|SKP Z<|PT Z Z Z Z<|ND<|CT Z Z<|SQ<|RG<|LS (i:=0) [_,_,_,_,_,_,_,_,_,_,_,_] Z tyS_impl_Sender Z Z Z Z<|rw_storeN (i:=1) [_,_,_,_,_,_,_,_,_,_,_,_] [_,_,_,_,_,_,_,_,_,_,_,_] [_,_,_,_] tyS_impl_Sender.sz Z Z Z Z Z Z Z Z Z<|AS Z Z<|ND<|?_
  refine gw_FP (pg PR (pg PR (pg PR (pg PR PR)))) (gw_F (F':=(c1_0 ++ (c1_1 ++ (c1_2 ++ (c1_3)))) ++ ([])) (by simp only [aN]) ?_)
  refine ret_cn (c1_0 ++ (c1_1 ++ (c1_2 ++ (c1_3)))) Tryz.func183 (res2 Tryz.func183 Z (rv_s (i:=1) [_,_,_,_,_,_,_,_,_,_,_,_] tyS_impl_Sender Z Z Z Z) (rv_tmp Z)) ?_ ?_
  ·refine ⟨_,_,_,Z,owSender_mk h1_0 h1_1 h1_2 h1_3,?_⟩
   exact ⟨hF.p,hF.f,hF.a,hF.hp,hF.hf,hF.ha,hF.e0,hF.eK,hF.c⟩
  ·exact (List.sublist_append_left _ _).trans (List.sublist_append_right _ _)
 refine ON Z Z Z<|LS (i:=3) [_,_,_,_,_,_,_,_,_,_,_,_] Z tyS_impl_Sender Z Z Z Z<|ON Z Z Z<|LS (i:=2) [_,_,_] Z tyS_impl_Piece Z Z Z Z<|ON Z Z Z<|CV1 Z fun_spec_l9Piece Z (fun w hs=>spec_l9Piece ⟨_,_,_,_,Z,(hA0.s Pl.keeps hs),(hA1.s Pl.keeps hs),(hA2.s Pl.keeps hs),(hA3.s Pl.keeps hs)⟩ _)<|ON Z Z Z<|NT Z Z<|PF Z Z Z Z<|MV Z Z<|?_
 refine rw_caseN (j:=25) Z (fun h3=>?_) (fun h3=>?_)
 ·refine SKP Z<|PT Z Z Z Z<|MV Z Z<|SKP Z<|PT Z Z Z Z<|ND<|CT Z Z<|SQ<|RG<|LS (i:=0) [_,_,_,_,_,_,_,_,_,_,_,_] Z tyS_impl_Sender Z Z Z Z<|rw_storeN (i:=1) [_,_,_,_,_,_,_,_,_,_,_,_] [_,_,_,_,_,_,_,_,_,_,_,_] [_,_,_,_] tyS_impl_Sender.sz Z Z Z Z Z Z Z Z Z<|AS Z Z<|ND<|?_
  refine gw_FP (pg PR (pg PR (pg PR (pg PR PR)))) (gw_F (F':=(c1_0 ++ (c1_1 ++ (c1_2 ++ (c1_3)))) ++ ([])) (by simp only [aN]) ?_)
  refine ret_cn (c1_0 ++ (c1_1 ++ (c1_2 ++ (c1_3)))) Tryz.func183 (res2 Tryz.func183 Z (rv_s (i:=1) [_,_,_,_,_,_,_,_,_,_,_,_] tyS_impl_Sender Z Z Z Z) (rv_tmp Z)) ?_ ?_
  ·refine ⟨_,_,_,Z,owSender_mk h1_0 h1_1 h1_2 h1_3,?_⟩
   exact ⟨hF.p,hF.f,hF.a,hF.hp,hF.hf,hF.ha,hF.e0,hF.eK,hF.c⟩
  ·exact (List.sublist_append_left _ _).trans (List.sublist_append_right _ _)
 have hr2:=(pieceIn_end h3 (by have:=hF.eK; omega)).2
 refine ON Z Z Z<|FA Z tyF_impl_Piece_1 Z<|ON Z Z Z<|LD (i:=2) Z tyP_string Z Z Z<|ON Z Z Z<|rw_eqlS Z Z Z<|ON Z Z Z<|MV Z Z<|?_
 refine rw_caseL (j:=29) Z (fun h4=>?_) (fun h4=>?_)
 ·have hse3:=str_empty h4
  refine ON Z Z Z<|FA Z tyF_impl_Piece_2 Z<|ON Z Z Z<|LD (i:=2) Z tyP_bool Z Z Z<|ON Z Z Z<|NT Z Z<|ON Z Z Z<|PT Z Z Z Z<|PF Z Z Z Z<|MV Z Z<|?_
  refine rw_caseN (j:=35) Z (fun h5=>?_) (fun h5=>?_)
  ·refine SKP Z<|PT Z Z Z Z<|ND<|CT Z Z<|SQ<|RG<|LS (i:=0) [_,_,_,_,_,_,_,_,_,_,_,_] Z tyS_impl_Sender Z Z Z Z<|rw_storeN (i:=1) [_,_,_,_,_,_,_,_,_,_,_,_] [_,_,_,_,_,_,_,_,_,_,_,_] [_,_,_,_] tyS_impl_Sender.sz Z Z Z Z Z Z Z Z Z<|AS Z Z<|ND<|?_
   refine gw_FP (pg PR (pg PR (pg PR (pg PR PR)))) (gw_F (F':=(c1_0 ++ (c1_1 ++ (c1_2 ++ (c1_3)))) ++ ([])) (by simp only [aN]) ?_)
   refine ret_cn (c1_0 ++ (c1_1 ++ (c1_2 ++ (c1_3)))) Tryz.func183 (res2 Tryz.func183 Z (rv_s (i:=1) [_,_,_,_,_,_,_,_,_,_,_,_] tyS_impl_Sender Z Z Z Z) (rv_tmp Z)) ?_ ?_
   ·refine ⟨_,_,_,Z,owSender_mk h1_0 h1_1 h1_2 h1_3,?_⟩
    exact ⟨hF.p,hF.f,hF.a,hF.hp,hF.hf,hF.ha,hF.e0,hF.eK,hF.c⟩
   ·exact (List.sublist_append_left _ _).trans (List.sublist_append_right _ _)
  refine ON Z Z Z<|FA Z tyF_impl_Piece_2 Z<|ON Z Z Z<|LD (i:=2) Z tyP_bool Z Z Z<|ON Z Z Z<|MV Z Z<|ON Z Z h5<|FA Z tyF_impl_Sender_6 Z<|ON Z Z h5<|LD (i:=3) Z tyP_int Z Z Z<|ON Z Z h5<|rw_neq Z Z Z<|ON Z Z Z<|PT Z Z h5 Z<|PF Z Z Z Z<|ND<|?_
  refine gw_condN Z (fun h6=>?_) (fun h6=>?_)
  ·refine SQ<|RG<|LS (i:=0) [_,_,_,_,_,_,_,_,_,_,_,_] Z tyS_impl_Sender Z Z Z Z<|rw_storeN (i:=1) [_,_,_,_,_,_,_,_,_,_,_,_] [_,_,_,_,_,_,_,_,_,_,_,_] [_,_,_,_] tyS_impl_Sender.sz Z Z Z Z Z Z Z Z Z<|AS Z Z<|ND<|?_
   refine gw_FP (pg PR (pg PR (pg PR (pg PR PR)))) (gw_F (F':=(c1_0 ++ (c1_1 ++ (c1_2 ++ (c1_3)))) ++ ([])) (by simp only [aN]) ?_)
   refine ret_cn (c1_0 ++ (c1_1 ++ (c1_2 ++ (c1_3)))) Tryz.func183 (res2 Tryz.func183 Z (rv_s (i:=1) [_,_,_,_,_,_,_,_,_,_,_,_] tyS_impl_Sender Z Z Z Z) (rv_tmp Z)) ?_ ?_
   ·refine ⟨_,_,_,Z,owSender_mk h1_0 h1_1 h1_2 h1_3,?_⟩
    exact ⟨hF.p,hF.f,hF.a,hF.hp,hF.hf,hF.ha,hF.e0,hF.eK,hF.c⟩
   ·exact (List.sublist_append_left _ _).trans (List.sublist_append_right _ _)
  refine SK<|SQ<|SQ<|RG<|FA Z tyF_impl_Piece_1 Z<|LD (i:=2) Z tyP_string Z Z Z<|rw_neqS Z Z Z<|ND<|?_
  refine gw_condN Z (fun h7=>?_) (fun h7=>?_)
  ·have hse4:=str_empty h7
   refine SQ<|RG<|LS (i:=2) [_,_,_] Z tyS_impl_Piece Z Z Z Z<|CV1 Z fun_spec_l9Range Z (fun w hs=>spec_l9Range _ w)<|AL Z tyZ_impl_Range<|fun b5=>ST (i:=0) [_,_] [_,_] tyS_impl_Range.sz Z Z Z Z Z Z Z Z<|ND<|SQ<|RG<|FA Z tyF_impl_Sender_2 Z<|LD (i:=4) Z tyP_S_impl_Range Z Z Z<|LS (i:=0) [_,_] Z tyS_impl_Range Z Z Z Z<|rw_sliceO (f:=Range.cells) ([⟨p.offset,w64 (p.offset + (p.data.size : Int))⟩] : List Range) [_,_] Z tyM_S_impl_Range Z Z Z Z Z Z Z<|fun v5 ch5 how5=>?_
   obtain ⟨R5,rc5,rfl,hR5,hrd5⟩:=(OwA.s how5).shape eRange
   refine CN1 Z fun_spec_CommonRanges Z (fun w hs=>spec_CommonRanges (hA1.s Pl.keeps hs) (Nat.le_trans hb1 (by decide)) ⟨_,_,Z,hrd5 _ (fun c hc=>hs.at_ c (MR (ML hc)))⟩)<|fun v6 ch6 how6=>?_
   obtain ⟨m6,how6,hm6,hH6⟩:=how6
   obtain ⟨R6,rc6,rfl,hR6,hrd6⟩:=how6.shape eRange
   refine AS Z Z<|ND<|SQ<|SQ<|gw_draw' [dd 0,dd 1,dd 2,dd 3,dd 4,dd 5,dd 6,dd 7] [8,9] mixed Z (FD Z) (ts:=[_,_]) Z<|DM Z Z Z<|DT Z Z (fun _ q=>rw_len Z tyE_S_impl_Range Z q)<|DT Z Z (fun _ q=>rw_neq Z Z Z q)<|DM Z Z Z<|?_
   refine dw_caseN (j:=58) Z (fun h8=>?_) (fun h8=>?_)
   ·refine DSK Z<|dw_nil<|OF Z Z Z Z<|PT Z Z Z Z<|ND<|CT Z Z<|SQ<|RG<|LS (i:=1) [_,_,_,_,_,_,_,_,_,_,_,_] Z tyS_impl_Sender Z Z Z Z<|rw_storeN (i:=2) [_,_,_,_,_,_,_,_,_,_,_,_] [_,_,_,_,_,_,_,_,_,_,_,_] [_,_,_,_,_] tyS_impl_Sender.sz Z Z Z Z Z Z Z Z Z<|AS Z Z<|ND<|?_
    refine gw_FP (pg (pp (pp PR)) (pg (pp (pp PR)) (pg (pp (pp PR)) (pg (pp (pp PR)) PR)))) (gw_F (F':=(c1_0 ++ (c1_1 ++ (c1_2 ++ (c1_3)))) ++ (ch6 ++ (ch5 ++ ([])))) (by simp only [aA,aN]) ?_)
    refine ret_cn (c1_0 ++ (c1_1 ++ (c1_2 ++ (c1_3)))) Tryz.func183 (res2 Tryz.func183 Z (rv_s (i:=2) [_,_,_,_,_,_,_,_,_,_,_,_] tyS_impl_Sender Z Z Z Z) (rv_tmp Z)) ?_ ?_
    ·refine ⟨_,_,_,Z,owSender_mk h1_0 h1_1 h1_2 h1_3,?_⟩
     exact ⟨hF.p,hF.f,hF.a,hF.hp,hF.hf,hF.ha,hF.e0,hF.eK,hF.c⟩
    ·exact (List.sublist_append_left _ _).trans (List.sublist_append_right _ _)
   have hpos7:=pos_of_len1 h8
   refine DT Z Z (fun _ q=>ON Z Z Z (MV Z Z q))<|?_
   have hi8 : 0 < m6.length:=by omega
   obtain ⟨x9,hx9⟩:=get_of_lt hi8
   have hd9:=drop_cons hx9
   refine DT Z Z (fun _ q=>ON Z Z Z (rw_indexAddr (0) Z tyE_S_impl_Range Z Z Z (hR6 (Nat.zero_lt_of_lt hi8)) hi8 q))<|DT Z Z (fun _ q=>ON Z Z Z (rw_loadX_s [_,_] Z tyS_impl_Range Z Z (fun w hs=>((hrd6 _ (fun c hc=>hs.at_ c (MR (ML hc)))).plain hx9).cut0 (n:=2) Z) q))<|DT Z Z (fun _ q=>ON Z Z Z (LS (i:=0) [_,_] Z tyS_impl_Range Z Z Z Z q))<|dw_nil<|ON Z Z Z<|rw_neqQ Z tyQ_impl_Range Z Z Z Z<|?_
   refine PF Z Z Z Z<|ND<|?_
   refine gw_condN Z (fun h9=>?_) (fun h9=>?_)
   ·refine SQ<|RG<|LS (i:=1) [_,_,_,_,_,_,_,_,_,_,_,_] Z tyS_impl_Sender Z Z Z Z<|rw_storeN (i:=2) [_,_,_,_,_,_,_,_,_,_,_,_] [_,_,_,_,_,_,_,_,_,_,_,_] [_,_,_,_,_] tyS_impl_Sender.sz Z Z Z Z Z Z Z Z Z<|AS Z Z<|ND<|?_
    refine gw_FP (pg (pp (pp PR)) (pg (pp (pp PR)) (pg (pp (pp PR)) (pg (pp (pp PR)) PR)))) (gw_F (F':=(c1_0 ++ (c1_1 ++ (c1_2 ++ (c1_3)))) ++ (ch6 ++ (ch5 ++ ([])))) (by simp only [aA,aN]) ?_)
    refine ret_cn (c1_0 ++ (c1_1 ++ (c1_2 ++ (c1_3)))) Tryz.func183 (res2 Tryz.func183 Z (rv_s (i:=2) [_,_,_,_,_,_,_,_,_,_,_,_] tyS_impl_Sender Z Z Z Z) (rv_tmp Z)) ?_ ?_
    ·refine ⟨_,_,_,Z,owSender_mk h1_0 h1_1 h1_2 h1_3,?_⟩
     exact ⟨hF.p,hF.f,hF.a,hF.hp,hF.hf,hF.ha,hF.e0,hF.eK,hF.c⟩
    ·exact (List.sublist_append_left _ _).trans (List.sublist_append_right _ _)
   refine SK<|SQ<|RG<|FA Z tyF_impl_Sender_2 Z<|LD (i:=4) Z tyP_S_impl_Range Z Z Z<|LS (i:=0) [_,_] Z tyS_impl_Range Z Z Z Z<|CN1 Z fun_spec_RemoveRange Z (fun w hs=>spec_RemoveRange (hA1.s Pl.keeps hs) (Nat.le_trans hb1 (by decide)) ⟨p.offset,w64 (p.offset + (p.data.size : Int))⟩)<|fun v10 ch10 how10=>?_
   obtain ⟨R10,rc10,rfl,hR10,hrd10⟩:=how10.shape eRange
   refine FA Z tyF_impl_Sender_2 Z<|rw_storeN (i:=1) [_] [_,_,_,_,_,_,_,_,_,_,_,_] [_,_,_,_,_] tyP_S_impl_Range.sz Z Z Z Z Z Z Z Z Z<|ND<|SQ<|RG<|FA Z tyF_impl_Sender_3 Z<|LD (i:=4) Z tyP_S_impl_Range Z Z Z<|LS (i:=0) [_,_] Z tyS_impl_Range Z Z Z Z<|CN1 Z fun_spec_AddRange Z (fun w hs=>spec_AddRange (hA2.s Pl.keeps hs) (Nat.le_trans hb2 (by decide)) ⟨p.offset,w64 (p.offset + (p.data.size : Int))⟩)<|fun v11 ch11 how11=>?_
   obtain ⟨R11,rc11,rfl,hR11,hrd11⟩:=how11.shape eRange
   refine FA Z tyF_impl_Sender_3 Z<|rw_storeN (i:=1) [_] [_,_,_,_,_,_,_,_,_,_,_,_] [_,_,_,_,_] tyP_S_impl_Range.sz Z Z Z Z Z Z Z Z Z<|ND<|RG<|FA Z tyF_impl_Sender_7 Z<|LD (i:=4) Z tyP_int Z Z Z<|FA Z tyF_impl_Range_1 Z<|LD (i:=0) Z tyP_int Z Z Z<|rw_max Z Z Z<|FA Z tyF_impl_Sender_7 Z<|rw_storeN (i:=1) [_] [_,_,_,_,_,_,_,_,_,_,_,_] [_,_,_,_,_] tyP_int.sz Z Z Z Z Z Z Z Z Z<|ND<|?_
   refine SQ<|SQ<|RG<|FA Z tyF_impl_Piece_2 Z<|LD (i:=3) Z tyP_bool Z Z Z<|ND<|CT Z h5<|RG<|FA Z tyF_impl_Sender_6 Z<|rw_storeN (i:=1) [_] [_,_,_,_,_,_,_,_,_,_,_,_] [_,_,_,_,_] tyP_int.sz Z Z Z Z Z Z Z Z Z<|ND<|SQ<|RG<|LS (i:=1) [_,_,_,_,_,_,_,_,_,_,_,_] Z tyS_impl_Sender Z Z Z Z<|CV1 Z fun_spec_l9State Z (fun w hs=>spec_l9State (rdSender_mk ⟨_,_,Z,hrd1_0 _ (fun c hc=>hs.at_ c (MR (MR (MR (MR (MR (ML hc)))))))⟩ ⟨_,_,Z,hrd10 _ (fun c hc=>hs.at_ c (MR (MR (ML hc))))⟩ ⟨_,_,Z,hrd11 _ (fun c hc=>hs.at_ c (MR (ML hc)))⟩ ⟨_,_,Z,hrd1_3 _ (fun c hc=>hs.at_ c (MR (MR (MR (MR (MR (MR (MR (MR (ML hc))))))))))⟩))<|?_
   refine FA Z tyF_impl_Sender_0 Z<|rw_storeN (i:=1) [_] [_,_,_,_,_,_,_,_,_,_,_,_] [_,_,_,_,_] tyP_int.sz Z Z Z Z Z Z Z Z Z<|ND<|SQ<|RG<|LS (i:=1) [_,_,_,_,_,_,_,_,_,_,_,_] Z tyS_impl_Sender Z Z Z Z<|rw_storeN (i:=2) [_,_,_,_,_,_,_,_,_,_,_,_] [_,_,_,_,_,_,_,_,_,_,_,_] [_,_,_,_,_] tyS_impl_Sender.sz Z Z Z Z Z Z Z Z Z<|AS Z Z<|ND<|?_
   refine gw_FP (pg (pp (pp (pp (pp PR)))) (pg (pp PR) (pg PR (pg (pp (pp (pp (pp PR)))) PR)))) (gw_F (F':=(c1_0 ++ (ch10 ++ (ch11 ++ (c1_3)))) ++ (ch6 ++ (ch5 ++ (c1_1 ++ (c1_2 ++ ([])))))) (by simp only [aA,aN]) ?_)
   refine ret_cn (c1_0 ++ (ch10 ++ (ch11 ++ (c1_3)))) Tryz.func183 (res2 Tryz.func183 Z (rv_s (i:=2) [_,_,_,_,_,_,_,_,_,_,_,_] tyS_impl_Sender Z Z Z Z) (rv_tmp Z)) ?_ ?_
   ·refine ⟨_,_,_,Z,owSender_mk h1_0 how10 how11 h1_3,?_⟩
    exact ⟨(removeRange_vf hF.p),(addRange_vf hF.f),hF.a,(removeRange_hb hF.hp),(addRange_hb hF.hf hr2),hF.ha,hF.e0,hF.eK,hF.c⟩
   ·exact (List.sublist_append_left _ _).trans (List.sublist_append_right _ _)
  have hse12:=str_empty h7
  refine SK<|SQ<|SQ<|RG<|FA Z tyF_impl_Piece_2 Z<|LD (i:=2) Z tyP_bool Z Z Z<|ND<|CT Z h5<|RG<|FA Z tyF_impl_Sender_6 Z<|rw_storeN (i:=0) [_] [_,_,_,_,_,_,_,_,_,_,_,_] [_,_,_,_] tyP_int.sz Z Z Z Z Z Z Z Z Z<|ND<|SQ<|RG<|LS (i:=0) [_,_,_,_,_,_,_,_,_,_,_,_] Z tyS_impl_Sender Z Z Z Z<|CV1 Z fun_spec_l9State Z (fun w hs=>spec_l9State (rdSender_mk ⟨_,_,Z,hrd1_0 _ (fun c hc=>hs.at_ c (MR (ML hc)))⟩ ⟨_,_,Z,hrd1_1 _ (fun c hc=>hs.at_ c (MR (MR (ML hc))))⟩ ⟨_,_,Z,hrd1_2 _ (fun c hc=>hs.at_ c (MR (MR (MR (ML hc)))))⟩ ⟨_,_,Z,hrd1_3 _ (fun c hc=>hs.at_ c (MR (MR (MR (MR (ML hc))))))⟩))<|?_
  refine FA Z tyF_impl_Sender_0 Z<|rw_storeN (i:=0) [_] [_,_,_,_,_,_,_,_,_,_,_,_] [_,_,_,_] tyP_int.sz Z Z Z Z Z Z Z Z Z<|ND<|SQ<|RG<|LS (i:=0) [_,_,_,_,_,_,_,_,_,_,_,_] Z tyS_impl_Sender Z Z Z Z<|rw_storeN (i:=1) [_,_,_,_,_,_,_,_,_,_,_,_] [_,_,_,_,_,_,_,_,_,_,_,_] [_,_,_,_] tyS_impl_Sender.sz Z Z Z Z Z Z Z Z Z<|AS Z Z<|ND<|?_
  refine gw_FP (pg PR (pg PR (pg PR (pg PR PR)))) (gw_F (F':=(c1_0 ++ (c1_1 ++ (c1_2 ++ (c1_3)))) ++ ([])) (by simp only [aN]) ?_)
  refine ret_cn (c1_0 ++ (c1_1 ++ (c1_2 ++ (c1_3)))) Tryz.func183 (res2 Tryz.func183 Z (rv_s (i:=1) [_,_,_,_,_,_,_,_,_,_,_,_] tyS_impl_Sender Z Z Z Z) (rv_tmp Z)) ?_ ?_
  ·refine ⟨_,_,_,Z,owSender_mk h1_0 h1_1 h1_2 h1_3,?_⟩
   exact ⟨hF.p,hF.f,hF.a,hF.hp,hF.hf,hF.ha,hF.e0,hF.eK,hF.c⟩
  ·exact (List.sublist_append_left _ _).trans (List.sublist_append_right _ _)
 have hse13:=str_empty h4
 refine SKP Z<|ON Z Z Z<|PF Z Z Z Z<|PF Z Z Z Z<|MV Z Z<|ON Z Z Z<|FA Z tyF_impl_Piece_2 Z<|ON Z Z Z<|LD (i:=2) Z tyP_bool Z Z Z<|ON Z Z Z<|MV Z Z<|?_
 refine rw_caseL (j:=38) Z (fun h10=>?_) (fun h10=>?_)
 ·refine ON Z Z Z<|FA Z tyF_impl_Sender_6 Z<|ON Z Z Z<|LD (i:=3) Z tyP_int Z Z Z<|ON Z Z Z<|rw_neq Z Z Z<|ON Z Z Z<|PT Z Z Z Z<|PF Z Z Z Z<|ND<|?_
  refine gw_condN Z (fun h11=>?_) (fun h11=>?_)
  ·refine SQ<|RG<|LS (i:=0) [_,_,_,_,_,_,_,_,_,_,_,_] Z tyS_impl_Sender Z Z Z Z<|rw_storeN (i:=1) [_,_,_,_,_,_,_,_,_,_,_,_] [_,_,_,_,_,_,_,_,_,_,_,_] [_,_,_,_] tyS_impl_Sender.sz Z Z Z Z Z Z Z Z Z<|AS Z Z<|ND<|?_
   refine gw_FP (pg PR (pg PR (pg PR (pg PR PR)))) (gw_F (F':=(c1_0 ++ (c1_1 ++ (c1_2 ++ (c1_3)))) ++ ([])) (by simp only [aN]) ?_)
   refine ret_cn (c1_0 ++ (c1_1 ++ (c1_2 ++ (c1_3)))) Tryz.func183 (res2 Tryz.func183 Z (rv_s (i:=1) [_,_,_,_,_,_,_,_,_,_,_,_] tyS_impl_Sender Z Z Z Z) (rv_tmp Z)) ?_ ?_
   ·refine ⟨_,_,_,Z,owSender_mk h1_0 h1_1 h1_2 h1_3,?_⟩
    exact ⟨hF.p,hF.f,hF.a,hF.hp,hF.hf,hF.ha,hF.e0,hF.eK,hF.c⟩
   ·exact (List.sublist_append_left _ _).trans (List.sublist_append_right _ _)
  refine SK<|SQ<|SQ<|RG<|FA Z tyF_impl_Piece_1 Z<|LD (i:=2) Z tyP_string Z Z Z<|rw_neqS Z Z Z<|ND<|?_
  refine gw_condN Z (fun h12=>?_) (fun h12=>?_)
  ·have hse14:=str_empty h12
   refine SQ<|RG<|LS (i:=2) [_,_,_] Z tyS_impl_Piece Z Z Z Z<|CV1 Z fun_spec_l9Range Z (fun w hs=>spec_l9Range _ w)<|AL Z tyZ_impl_Range<|fun b6=>ST (i:=0) [_,_] [_,_] tyS_impl_Range.sz Z Z Z Z Z Z Z Z<|ND<|SQ<|RG<|FA Z tyF_impl_Sender_2 Z<|LD (i:=4) Z tyP_S_impl_Range Z Z Z<|LS (i:=0) [_,_] Z tyS_impl_Range Z Z Z Z<|rw_sliceO (f:=Range.cells) ([⟨p.offset,w64 (p.offset + (p.data.size : Int))⟩] : List Range) [_,_] Z tyM_S_impl_Range Z Z Z Z Z Z Z<|fun v15 ch15 how15=>?_
   obtain ⟨R15,rc15,rfl,hR15,hrd15⟩:=(OwA.s how15).shape eRange
   refine CN1 Z fun_spec_CommonRanges Z (fun w hs=>spec_CommonRanges (hA1.s Pl.keeps hs) (Nat.le_trans hb1 (by decide)) ⟨_,_,Z,hrd15 _ (fun c hc=>hs.at_ c (MR (ML hc)))⟩)<|fun v16 ch16 how16=>?_
   obtain ⟨m16,how16,hm16,hH16⟩:=how16
   obtain ⟨R16,rc16,rfl,hR16,hrd16⟩:=how16.shape eRange
   refine AS Z Z<|ND<|SQ<|SQ<|gw_draw' [dd 0,dd 1,dd 2,dd 3,dd 4,dd 5,dd 6,dd 7] [8,9] mixed Z (FD Z) (ts:=[_,_]) Z<|DM Z Z Z<|DT Z Z (fun _ q=>rw_len Z tyE_S_impl_Range Z q)<|DT Z Z (fun _ q=>rw_neq Z Z Z q)<|DM Z Z Z<|?_
   refine dw_caseN (j:=58) Z (fun h13=>?_) (fun h13=>?_)
   ·refine DSK Z<|dw_nil<|OF Z Z Z Z<|PT Z Z Z Z<|ND<|CT Z Z<|SQ<|RG<|LS (i:=1) [_,_,_,_,_,_,_,_,_,_,_,_] Z tyS_impl_Sender Z Z Z Z<|rw_storeN (i:=2) [_,_,_,_,_,_,_,_,_,_,_,_] [_,_,_,_,_,_,_,_,_,_,_,_] [_,_,_,_,_] tyS_impl_Sender.sz Z Z Z Z Z Z Z Z Z<|AS Z Z<|ND<|?_
    refine gw_FP (pg (pp (pp PR)) (pg (pp (pp PR)) (pg (pp (pp PR)) (pg (pp (pp PR)) PR)))) (gw_F (F':=(c1_0 ++ (c1_1 ++ (c1_2 ++ (c1_3)))) ++ (ch16 ++ (ch15 ++ ([])))) (by simp only [aA,aN]) ?_)
    refine ret_cn (c1_0 ++ (c1_1 ++ (c1_2 ++ (c1_3)))) Tryz.func183 (res2 Tryz.func183 Z (rv_s (i:=2) [_,_,_,_,_,_,_,_,_,_,_,_] tyS_impl_Sender Z Z Z Z) (rv_tmp Z)) ?_ ?_
    ·refine ⟨_,_,_,Z,owSender_mk h1_0 h1_1 h1_2 h1_3,?_⟩
     exact ⟨hF.p,hF.f,hF.a,hF.hp,hF.hf,hF.ha,hF.e0,hF.eK,hF.c⟩
    ·exact (List.sublist_append_left _ _).trans (List.sublist_append_right _ _)
   have hpos17:=pos_of_len1 h13
   refine DT Z Z (fun _ q=>ON Z Z Z (MV Z Z q))<|?_
   have hi18 : 0 < m16.length:=by omega
   obtain ⟨x19,hx19⟩:=get_of_lt hi18
   have hd19:=drop_cons hx19
   refine DT Z Z (fun _ q=>ON Z Z Z (rw_indexAddr (0) Z tyE_S_impl_Range Z Z Z (hR16 (Nat.zero_lt_of_lt hi18)) hi18 q))<|DT Z Z (fun _ q=>ON Z Z Z (rw_loadX_s [_,_] Z tyS_impl_Range Z Z (fun w hs=>((hrd16 _ (fun c hc=>hs.at_ c (MR (ML hc)))).plain hx19).cut0 (n:=2) Z) q))<|DT Z Z (fun _ q=>ON Z Z Z (LS (i:=0) [_,_] Z tyS_impl_Range Z Z Z Z q))<|dw_nil<|ON Z Z Z<|rw_neqQ Z tyQ_impl_Range Z Z Z Z<|?_
   refine PF Z Z Z Z<|ND<|?_
   refine gw_condN Z (fun h14=>?_) (fun h14=>?_)
   ·refine SQ<|RG<|LS (i:=1) [_,_,_,_,_,_,_,_,_,_,_,_] Z tyS_impl_Sender Z Z Z Z<|rw_storeN (i:=2) [_,_,_,_,_,_,_,_,_,_,_,_] [_,_,_,_,_,_,_,_,_,_,_,_] [_,_,_,_,_] tyS_impl_Sender.sz Z Z Z Z Z Z Z Z Z<|AS Z Z<|ND<|?_
    refine gw_FP (pg (pp (pp PR)) (pg (pp (pp PR)) (pg (pp (pp PR)) (pg (pp (pp PR)) PR)))) (gw_F (F':=(c1_0 ++ (c1_1 ++ (c1_2 ++ (c1_3)))) ++ (ch16 ++ (ch15 ++ ([])))) (by simp only [aA,aN]) ?_)
    refine ret_cn (c1_0 ++ (c1_1 ++ (c1_2 ++ (c1_3)))) Tryz.func183 (res2 Tryz.func183 Z (rv_s (i:=2) [_,_,_,_,_,_,_,_,_,_,_,_] tyS_impl_Sender Z Z Z Z) (rv_tmp Z)) ?_ ?_
    ·refine ⟨_,_,_,Z,owSender_mk h1_0 h1_1 h1_2 h1_3,?_⟩
     exact ⟨hF.p,hF.f,hF.a,hF.hp,hF.hf,hF.ha,hF.e0,hF.eK,hF.c⟩
    ·exact (List.sublist_append_left _ _).trans (List.sublist_append_right _ _)
   refine SK<|SQ<|RG<|FA Z tyF_impl_Sender_2 Z<|LD (i:=4) Z tyP_S_impl_Range Z Z Z<|LS (i:=0) [_,_] Z tyS_impl_Range Z Z Z Z<|CN1 Z fun_spec_RemoveRange Z (fun w hs=>spec_RemoveRange (hA1.s Pl.keeps hs) (Nat.le_trans hb1 (by decide)) ⟨p.offset,w64 (p.offset + (p.data.size : Int))⟩)<|fun v20 ch20 how20=>?_
   obtain ⟨R20,rc20,rfl,hR20,hrd20⟩:=how20.shape eRange
   refine FA Z tyF_impl_Sender_2 Z<|rw_storeN (i:=1) [_] [_,_,_,_,_,_,_,_,_,_,_,_] [_,_,_,_,_] tyP_S_impl_Range.sz Z Z Z Z Z Z Z Z Z<|ND<|SQ<|RG<|FA Z tyF_impl_Sender_3 Z<|LD (i:=4) Z tyP_S_impl_Range Z Z Z<|LS (i:=0) [_,_] Z tyS_impl_Range Z Z Z Z<|CN1 Z fun_spec_AddRange Z (fun w hs=>spec_AddRange (hA2.s Pl.keeps hs) (Nat.le_trans hb2 (by decide)) ⟨p.offset,w64 (p.offset + (p.data.size : Int))⟩)<|fun v21 ch21 how21=>?_
   obtain ⟨R21,rc21,rfl,hR21,hrd21⟩:=how21.shape eRange
   refine FA Z tyF_impl_Sender_3 Z<|rw_storeN (i:=1) [_] [_,_,_,_,_,_,_,_,_,_,_,_] [_,_,_,_,_] tyP_S_impl_Range.sz Z Z Z Z Z Z Z Z Z<|ND<|RG<|FA Z tyF_impl_Sender_7 Z<|LD (i:=4) Z tyP_int Z Z Z<|FA Z tyF_impl_Range_1 Z<|LD (i:=0) Z tyP_int Z Z Z<|rw_max Z Z Z<|FA Z tyF_impl_Sender_7 Z<|rw_storeN (i:=1) [_] [_,_,_,_,_,_,_,_,_,_,_,_] [_,_,_,_,_] tyP_int.sz Z Z Z Z Z Z Z Z Z<|ND<|?_
   refine SQ<|SQ<|RG<|FA Z tyF_impl_Piece_2 Z<|LD (i:=3) Z tyP_bool Z Z Z<|ND<|CT Z h10<|RG<|FA Z tyF_impl_Sender_6 Z<|rw_storeN (i:=1) [_] [_,_,_,_,_,_,_,_,_,_,_,_] [_,_,_,_,_] tyP_int.sz Z Z Z Z Z Z Z Z Z<|ND<|SQ<|RG<|LS (i:=1) [_,_,_,_,_,_,_,_,_,_,_,_] Z tyS_impl_Sender Z Z Z Z<|CV1 Z fun_spec_l9State Z (fun w hs=>spec_l9State (rdSender_mk ⟨_,_,Z,hrd1_0 _ (fun c hc=>hs.at_ c (MR (MR (MR (MR (MR (ML hc)))))))⟩ ⟨_,_,Z,hrd20 _ (fun c hc=>hs.at_ c (MR (MR (ML hc))))⟩ ⟨_,_,Z,hrd21 _ (fun c hc=>hs.at_ c (MR (ML hc)))⟩ ⟨_,_,Z,hrd1_3 _ (fun c hc=>hs.at_ c (MR (MR (MR (MR (MR (MR (MR (MR (ML hc))))))))))⟩))<|?_
   refine FA Z tyF_impl_Sender_0 Z<|rw_storeN (i:=1) [_] [_,_,_,_,_,_,_,_,_,_,_,_] [_,_,_,_,_] tyP_int.sz Z Z Z Z Z Z Z Z Z<|ND<|SQ<|RG<|LS (i:=1) [_,_,_,_,_,_,_,_,_,_,_,_] Z tyS_impl_Sender Z Z Z Z<|rw_storeN (i:=2) [_,_,_,_,_,_,_,_,_,_,_,_] [_,_,_,_,_,_,_,_,_,_,_,_] [_,_,_,_,_] tyS_impl_Sender.sz Z Z Z Z Z Z Z Z Z<|AS Z Z<|ND<|?_
   refine gw_FP (pg (pp (pp (pp (pp PR)))) (pg (pp PR) (pg PR (pg (pp (pp (pp (pp PR)))) PR)))) (gw_F (F':=(c1_0 ++ (ch20 ++ (ch21 ++ (c1_3)))) ++ (ch16 ++ (ch15 ++ (c1_1 ++ (c1_2 ++ ([])))))) (by simp only [aA,aN]) ?_)
   refine ret_cn (c1_0 ++ (ch20 ++ (ch21 ++ (c1_3)))) Tryz.func183 (res2 Tryz.func183 Z (rv_s (i:=2) [_,_,_,_,_,_,_,_,_,_,_,_] tyS_impl_Sender Z Z Z Z) (rv_tmp Z)) ?_ ?_
   ·refine ⟨_,_,_,Z,owSender_mk h1_0 how20 how21 h1_3,?_⟩
    exact ⟨(removeRange_vf hF.p),(addRange_vf hF.f),hF.a,(removeRange_hb hF.hp),(addRange_hb hF.hf hr2),hF.ha,hF.e0,hF.eK,hF.c⟩
   ·exact (List.sublist_append_left _ _).trans (List.sublist_append_right _ _)
  have hse22:=str_empty h12
  refine SK<|SQ<|SQ<|RG<|FA Z tyF_impl_Piece_2 Z<|LD (i:=2) Z tyP_bool Z Z Z<|ND<|CT Z h10<|RG<|FA Z tyF_impl_Sender_6 Z<|rw_storeN (i:=0) [_] [_,_,_,_,_,_,_,_,_,_,_,_] [_,_,_,_] tyP_int.sz Z Z Z Z Z Z Z Z Z<|ND<|SQ<|RG<|LS (i:=0) [_,_,_,_,_,_,_,_,_,_,_,_] Z tyS_impl_Sender Z Z Z Z<|CV1 Z fun_spec_l9State Z (fun w hs=>spec_l9State (rdSender_mk ⟨_,_,Z,hrd1_0 _ (fun c hc=>hs.at_ c (MR (ML hc)))⟩ ⟨_,_,Z,hrd1_1 _ (fun c hc=>hs.at_ c (MR (MR (ML hc))))⟩ ⟨_,_,Z,hrd1_2 _ (fun c hc=>hs.at_ c (MR (MR (MR (ML hc)))))⟩ ⟨_,_,Z,hrd1_3 _ (fun c hc=>hs.at_ c (MR (MR (MR (MR (ML hc))))))⟩))<|?_
  refine FA Z tyF_impl_Sender_0 Z<|rw_storeN (i:=0) [_] [_,_,_,_,_,_,_,_,_,_,_,_] [_,_,_,_] tyP_int.sz Z Z Z Z Z Z Z Z Z<|ND<|SQ<|RG<|LS (i:=0) [_,_,_,_,_,_,_,_,_,_,_,_] Z tyS_impl_Sender Z Z Z Z<|rw_storeN (i:=1) [_,_,_,_,_,_,_,_,_,_,_,_] [_,_,_,_,_,_,_,_,_,_,_,_] [_,_,_,_] tyS_impl_Sender.sz Z Z Z Z Z Z Z Z Z<|AS Z Z<|ND<|?_
  refine gw_FP (pg PR (pg PR (pg PR (pg PR PR)))) (gw_F (F':=(c1_0 ++ (c1_1 ++ (c1_2 ++ (c1_3)))) ++ ([])) (by simp only [aN]) ?_)
  refine ret_cn (c1_0 ++ (c1_1 ++ (c1_2 ++ (c1_3)))) Tryz.func183 (res2 Tryz.func183 Z (rv_s (i:=1) [_,_,_,_,_,_,_,_,_,_,_,_] tyS_impl_Sender Z Z Z Z) (rv_tmp Z)) ?_ ?_
  ·refine ⟨_,_,_,Z,owSender_mk h1_0 h1_1 h1_2 h1_3,?_⟩
   exact ⟨hF.p,hF.f,hF.a,hF.hp,hF.hf,hF.ha,hF.e0,hF.eK,hF.c⟩
  ·exact (List.sublist_append_left _ _).trans (List.sublist_append_right _ _)
 refine SKP Z<|ON Z Z Z<|PF Z Z Z Z<|PF Z Z Z Z<|ND<|CF Z Z<|SK<|SQ<|SQ<|RG<|FA Z tyF_impl_Piece_1 Z<|LD (i:=2) Z tyP_string Z Z Z<|rw_neqS Z Z Z<|ND<|?_
 refine gw_condN Z (fun h15=>?_) (fun h15=>?_)
 ·have hse23:=str_empty h15
  refine SQ<|RG<|LS (i:=2) [_,_,_] Z tyS_impl_Piece Z Z Z Z<|CV1 Z fun_spec_l9Range Z (fun w hs=>spec_l9Range _ w)<|AL Z tyZ_impl_Range<|fun b7=>ST (i:=0) [_,_] [_,_] tyS_impl_Range.sz Z Z Z Z Z Z Z Z<|ND<|SQ<|RG<|FA Z tyF_impl_Sender_2 Z<|LD (i:=4) Z tyP_S_impl_Range Z Z Z<|LS (i:=0) [_,_] Z tyS_impl_Range Z Z Z Z<|rw_sliceO (f:=Range.cells) ([⟨p.offset,w64 (p.offset + (p.data.size : Int))⟩] : List Range) [_,_] Z tyM_S_impl_Range Z Z Z Z Z Z Z<|fun v24 ch24 how24=>?_
  obtain ⟨R24,rc24,rfl,hR24,hrd24⟩:=(OwA.s how24).shape eRange
  refine CN1 Z fun_spec_CommonRanges Z (fun w hs=>spec_CommonRanges (hA1.s Pl.keeps hs) (Nat.le_trans hb1 (by decide)) ⟨_,_,Z,hrd24 _ (fun c hc=>hs.at_ c (MR (ML hc)))⟩)<|fun v25 ch25 how25=>?_
  obtain ⟨m25,how25,hm25,hH25⟩:=how25
  obtain ⟨R25,rc25,rfl,hR25,hrd25⟩:=how25.shape eRange
  refine AS Z Z<|ND<|SQ<|SQ<|gw_draw' [dd 0,dd 1,dd 2,dd 3,dd 4,dd 5,dd 6,dd 7] [8,9] mixed Z (FD Z) (ts:=[_,_]) Z<|DM Z Z Z<|DT Z Z (fun _ q=>rw_len Z tyE_S_impl_Range Z q)<|DT Z Z (fun _ q=>rw_neq Z Z Z q)<|DM Z Z Z<|?_
  refine dw_caseN (j:=58) Z (fun h16=>?_) (fun h16=>?_)
  ·refine DSK Z<|dw_nil<|OF Z Z Z Z<|PT Z Z Z Z<|ND<|CT Z Z<|SQ<|RG<|LS (i:=1) [_,_,_,_,_,_,_,_,_,_,_,_] Z tyS_impl_Sender Z Z Z Z<|rw_storeN (i:=2) [_,_,_,_,_,_,_,_,_,_,_,_] [_,_,_,_,_,_,_,_,_,_,_,_] [_,_,_,_,_] tyS_impl_Sender.sz Z Z Z Z Z Z Z Z Z<|AS Z Z<|ND<|?_
   refine gw_FP (pg (pp (pp PR)) (pg (pp (pp PR)) (pg (pp (pp PR)) (pg (pp (pp PR)) PR)))) (gw_F (F':=(c1_0 ++ (c1_1 ++ (c1_2 ++ (c1_3)))) ++ (ch25 ++ (ch24 ++ ([])))) (by simp only [aA,aN]) ?_)
   refine ret_cn (c1_0 ++ (c1_1 ++ (c1_2 ++ (c1_3)))) Tryz.func183 (res2 Tryz.func183 Z (rv_s (i:=2) [_,_,_,_,_,_,_,_,_,_,_,_] tyS_impl_Sender Z Z Z Z) (rv_tmp Z)) ?_ ?_
   ·refine ⟨_,_,_,Z,owSender_mk h1_0 h1_1 h1_2 h1_3,?_⟩
    exact ⟨hF.p,hF.f,hF.a,hF.hp,hF.hf,hF.ha,hF.e0,hF.eK,hF.c⟩
   ·exact (List.sublist_append_left _ _).trans (List.sublist_append_right _ _)
  have hpos26:=pos_of_len1 h16
  refine DT Z Z (fun _ q=>ON Z Z Z (MV Z Z q))<|?_
  have hi27 : 0 < m25.length:=by omega
  obtain ⟨x28,hx28⟩:=get_of_lt hi27
  have hd28:=drop_cons hx28
  refine DT Z Z (fun _ q=>ON Z Z Z (rw_indexAddr (0) Z tyE_S_impl_Range Z Z Z (hR25 (Nat.zero_lt_of_lt hi27)) hi27 q))<|DT Z Z (fun _ q=>ON Z Z Z (rw_loadX_s [_,_] Z tyS_impl_Range Z Z (fun w hs=>((hrd25 _ (fun c hc=>hs.at_ c (MR (ML hc)))).plain hx28).cut0 (n:=2) Z) q))<|DT Z Z (fun _ q=>ON Z Z Z (LS (i:=0) [_,_] Z tyS_impl_Range Z Z Z Z q))<|dw_nil<|ON Z Z Z<|rw_neqQ Z tyQ_impl_Range Z Z Z Z<|?_
  refine PF Z Z Z Z<|ND<|?_
  refine gw_condN Z (fun h17=>?_) (fun h17=>?_)
  ·refine SQ<|RG<|LS (i:=1) [_,_,_,_,_,_,_,_,_,_,_,_] Z tyS_impl_Sender Z Z Z Z<|rw_storeN (i:=2) [_,_,_,_,_,_,_,_,_,_,_,_] [_,_,_,_,_,_,_,_,_,_,_,_] [_,_,_,_,_] tyS_impl_Sender.sz Z Z Z Z Z Z Z Z Z<|AS Z Z<|ND<|?_
   refine gw_FP (pg (pp (pp PR)) (pg (pp (pp PR)) (pg (pp (pp PR)) (pg (pp (pp PR)) PR)))) (gw_F (F':=(c1_0 ++ (c1_1 ++ (c1_2 ++ (c1_3)))) ++ (ch25 ++ (ch24 ++ ([])))) (by simp only [aA,aN]) ?_)
   refine ret_cn (c1_0 ++ (c1_1 ++ (c1_2 ++ (c1_3)))) Tryz.func183 (res2 Tryz.func183 Z (rv_s (i:=2) [_,_,_,_,_,_,_,_,_,_,_,_] tyS_impl_Sender Z Z Z Z) (rv_tmp Z)) ?_ ?_
   ·refine ⟨_,_,_,Z,owSender_mk h1_0 h1_1 h1_2 h1_3,?_⟩
    exact ⟨hF.p,hF.f,hF.a,hF.hp,hF.hf,hF.ha,hF.e0,hF.eK,hF.c⟩
   ·exact (List.sublist_append_left _ _).trans (List.sublist_append_right _ _)
  refine SK<|SQ<|RG<|FA Z tyF_impl_Sender_2 Z<|LD (i:=4) Z tyP_S_impl_Range Z Z Z<|LS (i:=0) [_,_] Z tyS_impl_Range Z Z Z Z<|CN1 Z fun_spec_RemoveRange Z (fun w hs=>spec_RemoveRange (hA1.s Pl.keeps hs) (Nat.le_trans hb1 (by decide)) ⟨p.offset,w64 (p.offset + (p.data.size : Int))⟩)<|fun v29 ch29 how29=>?_
  obtain ⟨R29,rc29,rfl,hR29,hrd29⟩:=how29.shape eRange
  refine FA Z tyF_impl_Sender_2 Z<|rw_storeN (i:=1) [_] [_,_,_,_,_,_,_,_,_,_,_,_] [_,_,_,_,_] tyP_S_impl_Range.sz Z Z Z Z Z Z Z Z Z<|ND<|SQ<|RG<|FA Z tyF_impl_Sender_3 Z<|LD (i:=4) Z tyP_S_impl_Range Z Z Z<|LS (i:=0) [_,_] Z tyS_impl_Range Z Z Z Z<|CN1 Z fun_spec_AddRange Z (fun w hs=>spec_AddRange (hA2.s Pl.keeps hs) (Nat.le_trans hb2 (by decide)) ⟨p.offset,w64 (p.offset + (p.data.size : Int))⟩)<|fun v30 ch30 how30=>?_
  obtain ⟨R30,rc30,rfl,hR30,hrd30⟩:=how30.shape eRange
  refine FA Z tyF_impl_Sender_3 Z<|rw_storeN (i:=1) [_] [_,_,_,_,_,_,_,_,_,_,_,_] [_,_,_,_,_] tyP_S_impl_Range.sz Z Z Z Z Z Z Z Z Z<|ND<|RG<|FA Z tyF_impl_Sender_7 Z<|LD (i:=4) Z tyP_int Z Z Z<|FA Z tyF_impl_Range_1 Z<|LD (i:=0) Z tyP_int Z Z Z<|rw_max Z Z Z<|FA Z tyF_impl_Sender_7 Z<|rw_storeN (i:=1) [_] [_,_,_,_,_,_,_,_,_,_,_,_] [_,_,_,_,_] tyP_int.sz Z Z Z Z Z Z Z Z Z<|ND<|?_
  refine SQ<|SQ<|RG<|FA Z tyF_impl_Piece_2 Z<|LD (i:=3) Z tyP_bool Z Z Z<|ND<|CF Z h10<|SK<|SQ<|RG<|LS (i:=1) [_,_,_,_,_,_,_,_,_,_,_,_] Z tyS_impl_Sender Z Z Z Z<|CV1 Z fun_spec_l9State Z (fun w hs=>spec_l9State (rdSender_mk ⟨_,_,Z,hrd1_0 _ (fun c hc=>hs.at_ c (MR (MR (MR (MR (MR (ML hc)))))))⟩ ⟨_,_,Z,hrd29 _ (fun c hc=>hs.at_ c (MR (MR (ML hc))))⟩ ⟨_,_,Z,hrd30 _ (fun c hc=>hs.at_ c (MR (ML hc)))⟩ ⟨_,_,Z,hrd1_3 _ (fun c hc=>hs.at_ c (MR (MR (MR (MR (MR (MR (MR (MR (ML hc))))))))))⟩))<|?_
  refine FA Z tyF_impl_Sender_0 Z<|rw_storeN (i:=1) [_] [_,_,_,_,_,_,_,_,_,_,_,_] [_,_,_,_,_] tyP_int.sz Z Z Z Z Z Z Z Z Z<|ND<|SQ<|RG<|LS (i:=1) [_,_,_,_,_,_,_,_,_,_,_,_] Z tyS_impl_Sender Z Z Z Z<|rw_storeN (i:=2) [_,_,_,_,_,_,_,_,_,_,_,_] [_,_,_,_,_,_,_,_,_,_,_,_] [_,_,_,_,_] tyS_impl_Sender.sz Z Z Z Z Z Z Z Z Z<|AS Z Z<|ND<|?_
  refine gw_FP (pg (pp (pp (pp (pp PR)))) (pg (pp PR) (pg PR (pg (pp (pp (pp (pp PR)))) PR)))) (gw_F (F':=(c1_0 ++ (ch29 ++ (ch30 ++ (c1_3)))) ++ (ch25 ++ (ch24 ++ (c1_1 ++ (c1_2 ++ ([])))))) (by simp only [aA,aN]) ?_)
  refine ret_cn (c1_0 ++ (ch29 ++ (ch30 ++ (c1_3)))) Tryz.func183 (res2 Tryz.func183 Z (rv_s (i:=2) [_,_,_,_,_,_,_,_,_,_,_,_] tyS_impl_Sender Z Z Z Z) (rv_tmp Z)) ?_ ?_
  ·refine ⟨_,_,_,Z,owSender_mk h1_0 how29 how30 h1_3,?_⟩
   exact ⟨(removeRange_vf hF.p),(addRange_vf hF.f),hF.a,(removeRange_hb hF.hp),(addRange_hb hF.hf hr2),hF.ha,hF.e0,hF.eK,hF.c⟩
  ·exact (List.sublist_append_left _ _).trans (List.sublist_append_right _ _)
 have hse31:=str_empty h15
 refine SK<|SQ<|SQ<|RG<|FA Z tyF_impl_Piece_2 Z<|LD (i:=2) Z tyP_bool Z Z Z<|ND<|CF Z h10<|SK<|SQ<|RG<|LS (i:=0) [_,_,_,_,_,_,_,_,_,_,_,_] Z tyS_impl_Sender Z Z Z Z<|CV1 Z fun_spec_l9State Z (fun w hs=>spec_l9State (rdSender_mk ⟨_,_,Z,hrd1_0 _ (fun c hc=>hs.at_ c (MR (ML hc)))⟩ ⟨_,_,Z,hrd1_1 _ (fun c hc=>hs.at_ c (MR (MR (ML hc))))⟩ ⟨_,_,Z,hrd1_2 _ (fun c hc=>hs.at_ c (MR (MR (MR (ML hc)))))⟩ ⟨_,_,Z,hrd1_3 _ (fun c hc=>hs.at_ c (MR (MR (MR (MR (ML hc))))))⟩))<|?_
 refine FA Z tyF_impl_Sender_0 Z<|rw_storeN (i:=0) [_] [_,_,_,_,_,_,_,_,_,_,_,_] [_,_,_,_] tyP_int.sz Z Z Z Z Z Z Z Z Z<|ND<|SQ<|RG<|LS (i:=0) [_,_,_,_,_,_,_,_,_,_,_,_] Z tyS_impl_Sender Z Z Z Z<|rw_storeN (i:=1) [_,_,_,_,_,_,_,_,_,_,_,_] [_,_,_,_,_,_,_,_,_,_,_,_] [_,_,_,_] tyS_impl_Sender.sz Z Z Z Z Z Z Z Z Z<|AS Z Z<|ND<|?_
 refine gw_FP (pg PR (pg PR (pg PR (pg PR PR)))) (gw_F (F':=(c1_0 ++ (c1_1 ++ (c1_2 ++ (c1_3)))) ++ ([])) (by simp only [aN]) ?_)
 refine ret_cn (c1_0 ++ (c1_1 ++ (c1_2 ++ (c1_3)))) Tryz.func183 (res2 Tryz.func183 Z (rv_s (i:=1) [_,_,_,_,_,_,_,_,_,_,_,_] tyS_impl_Sender Z Z Z Z) (rv_tmp Z)) ?_ ?_
 ·refine ⟨_,_,_,Z,owSender_mk h1_0 h1_1 h1_2 h1_3,?_⟩
  exact ⟨hF.p,hF.f,hF.a,hF.hp,hF.hf,hF.ha,hF.e0,hF.eK,hF.c⟩
 ·exact (List.sublist_append_left _ _).trans (List.sublist_append_right _ _)
end Go.Proofs.YtbhnekiclbfmgaaGreat
namespace Go.Proofs.YtbhnekiclbfmgaaGreat
open SL Go.RowKit
set_option maxHeartbeats 4000000 in
set_option maxRecDepth 20000 in
theorem spec_AckPiece {w : World} {cs : List Value} {x : Sender} (hv : RdSender w cs x) {K : Nat} (hF : FineS K x) (hK : K ≤ 1000) (p : Piece) : CN Tryz.prog 184 [.agg cs.toArray, .agg p.cells.toArray] w (fun v ch => ∃ cs' s', v = .agg cs'.toArray ∧ OwSender cs' s' ch ∧ FineS K s') := by
 obtain ⟨v0,v1,v2,v3,rfl,k0,k1,k2,k3⟩:=hv
 obtain ⟨A0,c0,rfl,hA0⟩:=k0
 obtain ⟨A1,c1,rfl,hA1⟩:=k1
 obtain ⟨A2,c2,rfl,hA2⟩:=k2
 obtain ⟨A3,c3,rfl,hA3⟩:=k3
 obtain ⟨hb0,hb1,hb2,hb3⟩:=FineS.le hF (by omega)
 refine cn_of Tryz.func184 Z Z Z<|SQ<|RG<|BX [_,_,_,_,_,_,_,_,_,_,_,_] Z Z Z<|fun b1=>BX [_,_,_] Z Z Z<|fun b2=>AL Z tyZ_impl_Sender<|fun b3=>ND<|SQ<|RG<|LS (i:=2) [_,_,_,_,_,_,_,_,_,_,_,_] Z tyS_impl_Sender Z Z Z Z<|CN1 Z fun_spec_l9Copy Z (fun w hs=>spec_l9Copy ⟨_,_,_,_,Z,(hA0.s Pl.keeps hs),(hA1.s Pl.keeps hs),(hA2.s Pl.keeps hs),(hA3.s Pl.keeps hs)⟩ ⟨hb0,hb1,hb2,hb3⟩)<|fun vv1 ch1 how1=>?_
 obtain ⟨cs1,rfl,v1_0,v1_1,v1_2,v1_3,c1_0,c1_1,c1_2,c1_3,rfl,h1_0,h1_1,h1_2,h1_3,rfl⟩:=how1
 refine rw_F (F':=c1_0 ++ (c1_1 ++ (c1_2 ++ (c1_3 ++ ([]))))) (by simp only [aA])<|?_
 obtain ⟨R1_0,b1_0,rfl,hR1_0,hrd1_0⟩:=h1_0.shape eInt
 obtain ⟨R1_1,b1_1,rfl,hR1_1,hrd1_1⟩:=h1_1.shape eRange
 obtain ⟨R1_2,b1_2,rfl,hR1_2,hrd1_2⟩:=h1_2.shape eRange
 obtain ⟨R1_3,b1_3,rfl,hR1_3,hrd1_3⟩:=h1_3.shape eRange
 refine AL Z tyZ_impl_Sender<|fun b4=>rw_storeN (i:=0) [_,_,_,_,_,_,_,_,_,_,_,_] [_,_,_,_,_,_,_,_,_,_,_,_] [_,_,_,_] tyS_impl_Sender.sz Z Z Z Z Z Z Z Z Z<|ND<|SQ<|SQ<|RG<|LS (i:=3) [_,_,_,_,_,_,_,_,_,_,_,_] Z tyS_impl_Sender Z Z Z Z<|CV1 Z fun_spec_IsSender Z (fun w hs=>spec_IsSender ⟨_,_,_,_,Z,(hA0.s Pl.keeps hs),(hA1.s Pl.keeps hs),(hA2.s Pl.keeps hs),(hA3.s Pl.keeps hs)⟩ ⟨hb0,hb1,hb2,hb3⟩)<|NT Z Z<|MV Z Z<|?_
 refine rw_caseN (j:=15) Z (fun h1=>?_) (fun h1=>?_)
 ·refine SKP Z<|PT Z Z Z Z<|MV Z Z<|SKP Z<|PT Z Z Z Z<|ND<|CT Z Z<|SQ<|RG<|LS (i:=0) [_,_,_,_,_,_,_,_,_,_,_,_] Z tyS_impl_Sender Z Z Z Z<|rw_storeN (i:=1) [_,_,_,_,_,_,_,_,_,_,_,_] [_,_,_,_,_,_,_,_,_,_,_,_] [_,_,_,_] tyS_impl_Sender.sz Z Z Z Z Z Z Z Z Z<|ND<|?_
  refine gw_FP (pg PR (pg PR (pg PR (pg PR PR)))) (gw_F (F':=(c1_0 ++ (c1_1 ++ (c1_2 ++ (c1_3)))) ++ ([])) (by simp only [aN]) ?_)
  refine ret_cn (c1_0 ++ (c1_1 ++ (c1_2 ++ (c1_3)))) Tryz.func184 (res1 Tryz.func184 Z (rv_s (i:=1) [_,_,_,_,_,_,_,_,_,_,_,_] tyS_impl_Sender Z Z Z Z)) ?_ ?_
  ·refine ⟨_,_,Z,owSender_mk h1_0 h1_1 h1_2 h1_3,?_⟩
   exact ⟨hF.p,hF.f,hF.a,hF.hp,hF.hf,hF.ha,hF.e0,hF.eK,hF.c⟩
  ·exact (List.sublist_append_left _ _).trans (List.sublist_append_right _ _)
 refine ON Z Z Z<|FA Z tyF_impl_Sender_0 Z<|ON Z Z Z<|LD (i:=3) Z tyP_int Z Z Z<|ON Z Z Z<|rw_gtr Z Z Z<|PF Z Z Z Z<|MV Z Z<|?_
 refine rw_caseL (j:=20) Z (fun h2=>?_) (fun h2=>?_)
 ·refine SKP Z<|PT Z Z Z Z<|ND<|CT Z Z<|SQ<|RG<|LS (i:=0) [_,_,_,_,_,_,_,_,_,_,_,_] Z tyS_impl_Sender Z Z Z Z<|rw_storeN (i:=1) [_,_,_,_,_,_,_,_,_,_,_,_] [_,_,_,_,_,_,_,_,_,_,_,_] [_,_,_,_] tyS_impl_Sender.sz Z Z Z Z Z Z Z Z Z<|ND<|?_
  refine gw_FP (pg PR (pg PR (pg PR (pg PR PR)))) (gw_F (F':=(c1_0 ++ (c1_1 ++ (c1_2 ++ (c1_3)))) ++ ([])) (by simp only [aN]) ?_)
  refine ret_cn (c1_0 ++ (c1_1 ++ (c1_2 ++ (c1_3)))) Tryz.func184 (res1 Tryz.func184 Z (rv_s (i:=1) [_,_,_,_,_,_,_,_,_,_,_,_] tyS_impl_Sender Z Z Z Z)) ?_ ?_
  ·refine ⟨_,_,Z,owSender_mk h1_0 h1_1 h1_2 h1_3,?_⟩
   exact ⟨hF.p,hF.f,hF.a,hF.hp,hF.hf,hF.ha,hF.e0,hF.eK,hF.c⟩
  ·exact (List.sublist_append_left _ _).trans (List.sublist_append_right _ _)
 refine ON Z Z Z<|LS (i:=3) [_,_,_,_,_,_,_,_,_,_,_,_] Z tyS_impl_Sender Z Z Z Z<|ON Z Z Z<|LS (i:=2) [_,_,_] Z tyS_impl_Piece Z Z Z Z<|ON Z Z Z<|CV1 Z fun_spec_l9Piece Z (fun w hs=>spec_l9Piece ⟨_,_,_,_,Z,(hA0.s Pl.keeps hs),(hA1.s Pl.keeps hs),(hA2.s Pl.keeps hs),(hA3.s Pl.keeps hs)⟩ _)<|ON Z Z Z<|NT Z Z<|PF Z Z Z Z<|ND<|?_
 refine gw_condN Z (fun h3=>?_) (fun h3=>?_)
 ·refine SQ<|RG<|LS (i:=0) [_,_,_,_,_,_,_,_,_,_,_,_] Z tyS_impl_Sender Z Z Z Z<|rw_storeN (i:=1) [_,_,_,_,_,_,_,_,_,_,_,_] [_,_,_,_,_,_,_,_,_,_,_,_] [_,_,_,_] tyS_impl_Sender.sz Z Z Z Z Z Z Z Z Z<|ND<|?_
  refine gw_FP (pg PR (pg PR (pg PR (pg PR PR)))) (gw_F (F':=(c1_0 ++ (c1_1 ++ (c1_2 ++ (c1_3)))) ++ ([])) (by simp only [aN]) ?_)
  refine ret_cn (c1_0 ++ (c1_1 ++ (c1_2 ++ (c1_3)))) Tryz.func184 (res1 Tryz.func184 Z (rv_s (i:=1) [_,_,_,_,_,_,_,_,_,_,_,_] tyS_impl_Sender Z Z Z Z)) ?_ ?_
  ·refine ⟨_,_,Z,owSender_mk h1_0 h1_1 h1_2 h1_3,?_⟩
   exact ⟨hF.p,hF.f,hF.a,hF.hp,hF.hf,hF.ha,hF.e0,hF.eK,hF.c⟩
  ·exact (List.sublist_append_left _ _).trans (List.sublist_append_right _ _)
 have hr2:=(pieceIn_end h3 (by have:=hF.eK; omega)).2
 refine SK<|SQ<|SQ<|RG<|FA Z tyF_impl_Piece_1 Z<|LD (i:=2) Z tyP_string Z Z Z<|rw_neqS Z Z Z<|ND<|?_
 refine gw_condN Z (fun h4=>?_) (fun h4=>?_)
 ·have hse3:=str_empty h4
  refine SQ<|gw_draw' [dd 0,dd 1,dd 2,dd 3,(4,.add)] [5,6] mixed Z (FD Z) (ts:=[_,_]) Z<|DT Z Z (fun _ q=>FA Z tyF_impl_Sender_3 Z q)<|DT Z Z (fun _ q=>LD (i:=3) Z tyP_S_impl_Range Z Z Z q)<|DT Z Z (fun _ q=>LS (i:=2) [_,_,_] Z tyS_impl_Piece Z Z Z Z q)<|DT Z Z (fun _ q=>CV1 Z fun_spec_l9Range Z (fun w hs=>spec_l9Range _ w) q)<|DA Z Z (fun _ q=>rw_sliceO (f:=Range.cells) ([⟨p.offset,w64 (p.offset + (p.data.size : Int))⟩] : List Range) [_,_] Z tyM_S_impl_Range Z Z Z Z Z Z Z q)<|fun v4 ch4 how4=>?_
  obtain ⟨R4,rc4,rfl,hR4,hrd4⟩:=(OwA.s how4).shape eRange
  refine dw_nil<|CN1 Z fun_spec_CommonRanges Z (fun w hs=>spec_CommonRanges (hA2.s Pl.keeps hs) (Nat.le_trans hb2 (by decide)) ⟨_,_,Z,hrd4 _ (fun c hc=>hs.at_ c (MR (ML hc)))⟩)<|fun v5 ch5 how5=>?_
  obtain ⟨m5,how5,hm5,hH5⟩:=how5
  obtain ⟨R5,rc5,rfl,hR5,hrd5⟩:=how5.shape eRange
  refine AS Z Z<|ND<|SQ<|RG<|AS Z Z<|ND<|BK<|?_
  refine gw_FP (F':=c1_2 ++ (c1_3 ++ (c1_0 ++ (c1_1 ++ (ch5 ++ (ch4 ++ ([]))))))) (pg (pp (pp (pp (pp PR)))) (pg (pp (pp (pp (pp PR)))) (pg (pp (pp PR)) (pg (pp (pp PR)) (pg PR (pg PR PR))))))<|gw_dropF (F':=c1_2 ++ (c1_3 ++ (c1_0 ++ (c1_1 ++ (ch5 ++ ([])))))) (List.Sublist.append_left (List.Sublist.append_left (List.Sublist.append_left (List.Sublist.append_left (List.Sublist.append_left (List.nil_sublist _) _) _) _) _) _)<|?_
  refine gw_loopX (α:=Nat × List Range × Option Addr × Nat × List Ck × List Range × Option Addr × Nat × List Ck) (fun z_=>z_.1 ≤ m5.length ∧ Vf (-1) z_.2.1 ∧ Hb x.ring.fin z_.2.1 ∧ OwS 132 2 (PlO Range.cells) (.slice z_.2.2.1 z_.2.1.length z_.2.2.2.1) z_.2.1 z_.2.2.2.2.1 ∧ Vf (-1) z_.2.2.2.2.2.1 ∧ Hb x.ring.fin z_.2.2.2.2.2.1 ∧ OwS 132 2 (PlO Range.cells) (.slice z_.2.2.2.2.2.2.1 z_.2.2.2.2.2.1.length z_.2.2.2.2.2.2.2.1) z_.2.2.2.2.2.1 z_.2.2.2.2.2.2.2.2) (fun z_=>m5.length - z_.1) (fun e z_=>(7,.int .i64 (z_.1 : Int)) :: e) (fun B z_=>B.set 0 ⟨b4,33,Sender.row x (.slice R1_0 x.ring.cells.length b1_0) (.slice R1_1 x.pending.length b1_1) (.slice z_.2.2.1 z_.2.1.length z_.2.2.2.1) (.slice z_.2.2.2.2.2.2.1 z_.2.2.2.2.2.1.length z_.2.2.2.2.2.2.2.1)⟩) (fun F z_=>z_.2.2.2.2.1 ++ (z_.2.2.2.2.2.2.2.2 ++ (c1_0 ++ (c1_1 ++ (ch5 ++ ([])))))) (0,x.flight,R1_2,b1_2,c1_2,x.acked,R1_3,b1_3,c1_3) [(2,_),(3,_),(4,_),(5,_),(6,_)] (Sub.consE Z Z (Sub.cons (i:=2) Z (Sub.cons (i:=3) Z (Sub.cons (i:=4) Z (Sub.cons (i:=5) Z (Sub.cons (i:=6) Z (Sub.nil _))))))) Z Z ?_ ?_
  ·exact ⟨Nat.zero_le _,hF.f,hF.hf,h1_2,hF.a,hF.ha,h1_3⟩
  ·rintro ⟨i,lf,Rf,rf,chf,lo,Ro,ro,cho⟩ hI6 ih6
   dsimp only at hI6
   dsimp only [List.set]
   obtain ⟨hle,hvf,hhf,hOf,hvo,hho,hOo⟩:=hI6
   obtain ⟨_,_,hRf,hrdf⟩:=hOf.reshape eRange
   obtain ⟨_,_,hRo,hrdo⟩:=hOo.reshape eRange
   have hbf : lf.length ≤ 1048576:=by have h1:=hvf.len hhf (by have:=hF.e0; omega); have:=hF.eK; omega
   have hbo : lo.length ≤ 1048576:=by have h1:=hvo.len hho (by have:=hF.e0; omega); have:=hF.eK; omega
   refine SQ<|SQ<|RG<|MV Z Z<|MV Z Z<|rw_len Z tyE_S_impl_Range Z<|rw_lss Z Z Z<|ND<|?_
   refine gw_cond Z (fun h5=>?_) (fun h5=>?_)
   ·have hi7:=lt_of_dec h5
    obtain ⟨x8,hx8⟩:=get_of_lt hi7
    have hd8:=drop_cons hx8
    refine SK<|SQ<|BK<|SQ<|gw_draw' [dd 0,dd 1,dd 2,dd 3,dd 4,dd 5] [6,7,8] mixed Z (FD Z) (ts:=[_,_,_]) Z<|DT Z Z (fun _ q=>FA Z tyF_impl_Sender_3 Z q)<|DT Z Z (fun _ q=>LD (i:=0) Z tyP_S_impl_Range Z Z Z q)<|DM Z Z Z<|DM Z Z Z<|DT Z Z (fun _ q=>rw_indexAddr (i) Z tyE_S_impl_Range Z Z Z (hR5 (Nat.zero_lt_of_lt hi7)) hi7 q)<|DT Z Z (fun _ q=>rw_loadX_s [_,_] Z tyS_impl_Range Z Z (fun w hs=>((hrd5 _ (fun c hc=>hs.at_ c (MR (MR (MR (MR (MR (ML hc)))))))).plain hx8).cut0 (n:=2) Z) q)<|?_
    refine dw_nil<|CN1 Z fun_spec_RemoveRange Z (fun w hs=>spec_RemoveRange ⟨_,_,Z,hrdf _ (fun c hc=>hs.at_ c (MR (ML hc)))⟩ (Nat.le_trans hbf (by decide)) x8)<|fun v9 ch9 how9=>?_
    obtain ⟨R9,rc9,rfl,hR9,hrd9⟩:=how9.shape eRange
    refine FA Z tyF_impl_Sender_3 Z<|rw_storeN (i:=0) [_] [_,_,_,_,_,_,_,_,_,_,_,_] [_,_,_,_] tyP_S_impl_Range.sz Z Z Z Z Z Z Z Z Z<|ND<|gw_draw' [dd 0,dd 1,dd 2,dd 3,dd 4,dd 5] [6,7,8] mixed Z (FD Z) (ts:=[_,_,_]) Z<|DT Z Z (fun _ q=>FA Z tyF_impl_Sender_4 Z q)<|DT Z Z (fun _ q=>LD (i:=0) Z tyP_S_impl_Range Z Z Z q)<|DM Z Z Z<|DM Z Z Z<|DT Z Z (fun _ q=>rw_indexAddr (i) Z tyE_S_impl_Range Z Z Z (hR5 (Nat.zero_lt_of_lt hi7)) hi7 q)<|?_
    refine DT Z Z (fun _ q=>rw_loadX_s [_,_] Z tyS_impl_Range Z Z (fun w hs=>((hrd5 _ (fun c hc=>hs.at_ c (MR (MR (MR (MR (MR (MR (ML hc))))))))).plain hx8).cut0 (n:=2) Z) q)<|dw_nil<|CN1 Z fun_spec_AddRange Z (fun w hs=>spec_AddRange ⟨_,_,Z,hrdo _ (fun c hc=>hs.at_ c (MR (MR (MR (ML hc)))))⟩ (Nat.le_trans hbo (by decide)) x8)<|fun v10 ch10 how10=>?_
    obtain ⟨R10,rc10,rfl,hR10,hrd10⟩:=how10.shape eRange
    refine FA Z tyF_impl_Sender_4 Z<|rw_storeN (i:=0) [_] [_,_,_,_,_,_,_,_,_,_,_,_] [_,_,_,_] tyP_S_impl_Range.sz Z Z Z Z Z Z Z Z Z<|ND<|IB<|RG<|MV Z Z<|rw_add Z Z Z<|AS Z Z<|ND<|?_
    refine gw_FP (F':=ch9 ++ (ch10 ++ (c1_0 ++ (c1_1 ++ (ch5 ++ (chf ++ (cho ++ ([])))))))) (pg (pp PR) (pg PR (pg (pp (pp PR)) (pg (pp (pp PR)) (pg (pp (pp PR)) (pg PR (pg PR PR)))))))<|gw_dropF (F':=ch9 ++ (ch10 ++ (c1_0 ++ (c1_1 ++ (ch5 ++ ([])))))) (List.Sublist.append_left (List.Sublist.append_left (List.Sublist.append_left (List.Sublist.append_left (List.Sublist.append_left (List.nil_sublist _) _) _) _) _) _)<|?_
    refine gw_sub (Sub.consE (i:=7) Z (int_succ (by omega)) (Sub.cons (i:=2) Z (Sub.cons (i:=3) Z (Sub.cons (i:=4) Z (Sub.cons (i:=5) Z (Sub.cons (i:=6) Z (Sub.nil _))))))) (ih6 (i + 1,(removeRange lf x8),R9,rc9,ch9,(addRange lo x8),R10,rc10,ch10) ?_ ?_)
    ·exact ⟨by have:=hi7; omega,removeRange_vf hvf,removeRange_hb hhf,how9,addRange_vf hvo,addRange_hb hho (hH5 _ hF.hf _ (List.mem_of_getElem? hx8)),how10⟩
    ·show m5.length - (i + 1) < m5.length - i; have:=hi7; omega
   have hn11:=nil_of_dec h5
   refine EX Z<|SQ<|SQ<|RG<|FA Z tyF_impl_Piece_2 Z<|LD (i:=2) Z tyP_bool Z Z Z<|MV Z Z<|?_
   refine rw_caseL (j:=60) Z (fun h6=>?_) (fun h6=>?_)
   ·refine ON Z Z Z<|FA Z tyF_impl_Sender_6 Z<|ON Z Z Z<|LD (i:=3) Z tyP_int Z Z Z<|ON Z Z Z<|EQ1 Z Z Z<|PT Z Z Z Z<|ND<|?_
    refine gw_cond Z (fun h7=>?_) (fun h7=>?_)
    ·refine RG<|FA Z tyF_impl_Sender_6 Z<|rw_storeN (i:=0) [_] [_,_,_,_,_,_,_,_,_,_,_,_] [_,_,_,_] tyP_int.sz Z Z Z Z Z Z Z Z Z<|ND<|SQ<|gw_drawF [(0,.det),(1,.det),(2,.det),(3,.det),(4,.det),(5,.add),(6,.det),(7,.det),(8,.det),(9,(.free 30 [.int .i64 0,.int .i64 0,.int .i64 0,.slice none 0 0]))] [10,11] 8 mixed Z (free_det (free_det (free_det (free_det (free_det (free_add (free_det (free_det (free_det (free_new Z Z tyZ_impl_Ring free_nil))))))))))<|DT Z Z (fun _ q=>FA Z tyF_impl_Sender_1 Z q)<|?_
     refine DT Z Z (fun _ q=>LS (i:=3) [_,_,_,_] Z tyS_impl_Ring Z Z Z Z q)<|DT Z Z (fun _ q=>FA Z tyF_impl_Sender_4 Z q)<|DT Z Z (fun _ q=>LD (i:=0) Z tyP_S_impl_Range Z Z Z q)<|DT Z Z (fun _ q=>CV1 Z fun_spec_FirstGap Z (fun w hs=>spec_FirstGap ⟨_,_,Z,hrdo _ (fun c hc=>hs.at_ c (MR (MR (ML hc))))⟩ (Nat.le_trans hbo (by decide)) _) q)<|DA Z Z (fun _ q=>CN1 Z fun_spec_DropRing Z (fun w hs=>spec_DropRing ⟨_,Z,(hA0.s Pl.keeps hs)⟩ hb0 (Int.le_trans (gap_le hvo hho hF.e0) (by have:=hF.eK; omega))) q)<|fun v12 ch12 how12=>?_
     obtain ⟨cs12,L12,p12,ok12,rfl,how12,hL12⟩:=how12
     obtain ⟨v12_0,ch12,rfl,h12_0,rfl⟩:=how12
     obtain ⟨R12_0,b12_0,rfl,hR12_0,hrd12_0⟩:=h12_0.shape eInt
     refine dw_F (F':=ch12 ++ (chf ++ (cho ++ (c1_0 ++ (c1_1 ++ (ch5 ++ ([]))))))) (by simp only [aN])<|DM Z Z Z<|DT Z Z (fun _ q=>XT Z Z Z q)<|DT Z Z (fun _ q=>XT Z Z Z q)<|dw_free Z Z<|fun b5=>dw_nil<|?_
     refine ⟨fp_of Z Z Z (fun _ q=>XT Z Z Z q),?_⟩
     refine cw_take<|cw_st Z Z (fun _ q=>ST (i:=0) [_,_,_,_] [_,_,_,_] tyS_impl_Ring.sz Z Z Z Z Z Z Z Z q)<|cw_det Z Z (fun _ q=>AS Z Z q)<|cw_nil<|SQ<|RG<|LS (i:=0) [_,_,_,_] Z tyS_impl_Ring Z Z Z Z<|FA Z tyF_impl_Sender_1 Z<|rw_storeN (i:=1) [_,_,_,_] [_,_,_,_,_,_,_,_,_,_,_,_] [_,_,_,_,_] tyS_impl_Ring.sz Z Z Z Z Z Z Z Z Z<|ND<|SQ<|RG<|LS (i:=1) [_,_,_,_,_,_,_,_,_,_,_,_] Z tyS_impl_Sender Z Z Z Z<|?_
     refine CV1 Z fun_spec_l9State Z (fun w hs=>spec_l9State (rdSender_mk ⟨_,_,Z,hrd12_0 _ (fun c hc=>hs.at_ c (MR (ML hc)))⟩ ⟨_,_,Z,hrd1_1 _ (fun c hc=>hs.at_ c (MR (MR (MR (MR (MR (ML hc)))))))⟩ ⟨_,_,Z,hrdf _ (fun c hc=>hs.at_ c (MR (MR (ML hc))))⟩ ⟨_,_,Z,hrdo _ (fun c hc=>hs.at_ c (MR (MR (MR (ML hc)))))⟩))<|?_
     refine FA Z tyF_impl_Sender_0 Z<|rw_storeN (i:=1) [_] [_,_,_,_,_,_,_,_,_,_,_,_] [_,_,_,_,_] tyP_int.sz Z Z Z Z Z Z Z Z Z<|ND<|SQ<|RG<|LS (i:=1) [_,_,_,_,_,_,_,_,_,_,_,_] Z tyS_impl_Sender Z Z Z Z<|rw_storeN (i:=2) [_,_,_,_,_,_,_,_,_,_,_,_] [_,_,_,_,_,_,_,_,_,_,_,_] [_,_,_,_,_] tyS_impl_Sender.sz Z Z Z Z Z Z Z Z Z<|ND<|?_
     refine gw_FP (pg PR (pg (pp (pp (pp PR))) (pg PR (pg PR PR)))) (gw_F (F':=(ch12 ++ (c1_1 ++ (chf ++ (cho)))) ++ (c1_0 ++ (ch5 ++ ([])))) (by simp only [aA,aN]) ?_)
     refine ret_cn (ch12 ++ (c1_1 ++ (chf ++ (cho)))) Tryz.func184 (res1 Tryz.func184 Z (rv_s (i:=2) [_,_,_,_,_,_,_,_,_,_,_,_] tyS_impl_Sender Z Z Z Z)) ?_ ?_
     ·refine ⟨_,_,Z,owSender_mk h12_0 h1_1 hOf hOo,?_⟩
      exact ⟨hF.p,hvf,hvo,hF.hp,hhf,hho,hF.e0,hF.eK,(Nat.le_trans (Nat.le_of_eq hL12) hF.c)⟩
     ·exact (List.sublist_append_left _ _).trans (List.sublist_append_right _ _)
    refine SK<|SQ<|gw_drawF [(0,.det),(1,.det),(2,.det),(3,.det),(4,.det),(5,.add),(6,.det),(7,.det),(8,.det),(9,(.free 30 [.int .i64 0,.int .i64 0,.int .i64 0,.slice none 0 0]))] [10,11] 8 mixed Z (free_det (free_det (free_det (free_det (free_det (free_add (free_det (free_det (free_det (free_new Z Z tyZ_impl_Ring free_nil))))))))))<|DT Z Z (fun _ q=>FA Z tyF_impl_Sender_1 Z q)<|DT Z Z (fun _ q=>LS (i:=3) [_,_,_,_] Z tyS_impl_Ring Z Z Z Z q)<|DT Z Z (fun _ q=>FA Z tyF_impl_Sender_4 Z q)<|?_
    refine DT Z Z (fun _ q=>LD (i:=0) Z tyP_S_impl_Range Z Z Z q)<|DT Z Z (fun _ q=>CV1 Z fun_spec_FirstGap Z (fun w hs=>spec_FirstGap ⟨_,_,Z,hrdo _ (fun c hc=>hs.at_ c (MR (MR (ML hc))))⟩ (Nat.le_trans hbo (by decide)) _) q)<|DA Z Z (fun _ q=>CN1 Z fun_spec_DropRing Z (fun w hs=>spec_DropRing ⟨_,Z,(hA0.s Pl.keeps hs)⟩ hb0 (Int.le_trans (gap_le hvo hho hF.e0) (by have:=hF.eK; omega))) q)<|fun v13 ch13 how13=>?_
    obtain ⟨cs13,L13,p13,ok13,rfl,how13,hL13⟩:=how13
    obtain ⟨v13_0,ch13,rfl,h13_0,rfl⟩:=how13
    obtain ⟨R13_0,b13_0,rfl,hR13_0,hrd13_0⟩:=h13_0.shape eInt
    refine dw_F (F':=ch13 ++ (chf ++ (cho ++ (c1_0 ++ (c1_1 ++ (ch5 ++ ([]))))))) (by simp only [aN])<|DM Z Z Z<|DT Z Z (fun _ q=>XT Z Z Z q)<|DT Z Z (fun _ q=>XT Z Z Z q)<|dw_free Z Z<|fun b6=>dw_nil<|?_
    refine ⟨fp_of Z Z Z (fun _ q=>XT Z Z Z q),?_⟩
    refine cw_take<|cw_st Z Z (fun _ q=>ST (i:=0) [_,_,_,_] [_,_,_,_] tyS_impl_Ring.sz Z Z Z Z Z Z Z Z q)<|cw_det Z Z (fun _ q=>AS Z Z q)<|cw_nil<|SQ<|RG<|LS (i:=0) [_,_,_,_] Z tyS_impl_Ring Z Z Z Z<|FA Z tyF_impl_Sender_1 Z<|rw_storeN (i:=1) [_,_,_,_] [_,_,_,_,_,_,_,_,_,_,_,_] [_,_,_,_,_] tyS_impl_Ring.sz Z Z Z Z Z Z Z Z Z<|ND<|SQ<|RG<|LS (i:=1) [_,_,_,_,_,_,_,_,_,_,_,_] Z tyS_impl_Sender Z Z Z Z<|?_
    refine CV1 Z fun_spec_l9State Z (fun w hs=>spec_l9State (rdSender_mk ⟨_,_,Z,hrd13_0 _ (fun c hc=>hs.at_ c (MR (ML hc)))⟩ ⟨_,_,Z,hrd1_1 _ (fun c hc=>hs.at_ c (MR (MR (MR (MR (MR (ML hc)))))))⟩ ⟨_,_,Z,hrdf _ (fun c hc=>hs.at_ c (MR (MR (ML hc))))⟩ ⟨_,_,Z,hrdo _ (fun c hc=>hs.at_ c (MR (MR (MR (ML hc)))))⟩))<|?_
    refine FA Z tyF_impl_Sender_0 Z<|rw_storeN (i:=1) [_] [_,_,_,_,_,_,_,_,_,_,_,_] [_,_,_,_,_] tyP_int.sz Z Z Z Z Z Z Z Z Z<|ND<|SQ<|RG<|LS (i:=1) [_,_,_,_,_,_,_,_,_,_,_,_] Z tyS_impl_Sender Z Z Z Z<|rw_storeN (i:=2) [_,_,_,_,_,_,_,_,_,_,_,_] [_,_,_,_,_,_,_,_,_,_,_,_] [_,_,_,_,_] tyS_impl_Sender.sz Z Z Z Z Z Z Z Z Z<|ND<|?_
    refine gw_FP (pg PR (pg (pp (pp (pp PR))) (pg PR (pg PR PR)))) (gw_F (F':=(ch13 ++ (c1_1 ++ (chf ++ (cho)))) ++ (c1_0 ++ (ch5 ++ ([])))) (by simp only [aA,aN]) ?_)
    refine ret_cn (ch13 ++ (c1_1 ++ (chf ++ (cho)))) Tryz.func184 (res1 Tryz.func184 Z (rv_s (i:=2) [_,_,_,_,_,_,_,_,_,_,_,_] tyS_impl_Sender Z Z Z Z)) ?_ ?_
    ·refine ⟨_,_,Z,owSender_mk h13_0 h1_1 hOf hOo,?_⟩
     exact ⟨hF.p,hvf,hvo,hF.hp,hhf,hho,hF.e0,hF.eK,(Nat.le_trans (Nat.le_of_eq hL13) hF.c)⟩
    ·exact (List.sublist_append_left _ _).trans (List.sublist_append_right _ _)
   refine SKP Z<|PF Z Z Z Z<|ND<|CF Z Z<|SK<|SQ<|gw_drawF [(0,.det),(1,.det),(2,.det),(3,.det),(4,.det),(5,.add),(6,.det),(7,.det),(8,.det),(9,(.free 30 [.int .i64 0,.int .i64 0,.int .i64 0,.slice none 0 0]))] [10,11] 8 mixed Z (free_det (free_det (free_det (free_det (free_det (free_add (free_det (free_det (free_det (free_new Z Z tyZ_impl_Ring free_nil))))))))))<|DT Z Z (fun _ q=>FA Z tyF_impl_Sender_1 Z q)<|DT Z Z (fun _ q=>LS (i:=3) [_,_,_,_] Z tyS_impl_Ring Z Z Z Z q)<|?_
   refine DT Z Z (fun _ q=>FA Z tyF_impl_Sender_4 Z q)<|DT Z Z (fun _ q=>LD (i:=0) Z tyP_S_impl_Range Z Z Z q)<|DT Z Z (fun _ q=>CV1 Z fun_spec_FirstGap Z (fun w hs=>spec_FirstGap ⟨_,_,Z,hrdo _ (fun c hc=>hs.at_ c (MR (MR (ML hc))))⟩ (Nat.le_trans hbo (by decide)) _) q)<|DA Z Z (fun _ q=>CN1 Z fun_spec_DropRing Z (fun w hs=>spec_DropRing ⟨_,Z,(hA0.s Pl.keeps hs)⟩ hb0 (Int.le_trans (gap_le hvo hho hF.e0) (by have:=hF.eK; omega))) q)<|fun v14 ch14 how14=>?_
   obtain ⟨cs14,L14,p14,ok14,rfl,how14,hL14⟩:=how14
   obtain ⟨v14_0,ch14,rfl,h14_0,rfl⟩:=how14
   obtain ⟨R14_0,b14_0,rfl,hR14_0,hrd14_0⟩:=h14_0.shape eInt
   refine dw_F (F':=ch14 ++ (chf ++ (cho ++ (c1_0 ++ (c1_1 ++ (ch5 ++ ([]))))))) (by simp only [aN])<|DM Z Z Z<|DT Z Z (fun _ q=>XT Z Z Z q)<|DT Z Z (fun _ q=>XT Z Z Z q)<|dw_free Z Z<|fun b7=>dw_nil<|?_
   refine ⟨fp_of Z Z Z (fun _ q=>XT Z Z Z q),?_⟩
   refine cw_take<|cw_st Z Z (fun _ q=>ST (i:=0) [_,_,_,_] [_,_,_,_] tyS_impl_Ring.sz Z Z Z Z Z Z Z Z q)<|cw_det Z Z (fun _ q=>AS Z Z q)<|cw_nil<|SQ<|RG<|LS (i:=0) [_,_,_,_] Z tyS_impl_Ring Z Z Z Z<|FA Z tyF_impl_Sender_1 Z<|rw_storeN (i:=1) [_,_,_,_] [_,_,_,_,_,_,_,_,_,_,_,_] [_,_,_,_,_] tyS_impl_Ring.sz Z Z Z Z Z Z Z Z Z<|ND<|SQ<|RG<|LS (i:=1) [_,_,_,_,_,_,_,_,_,_,_,_] Z tyS_impl_Sender Z Z Z Z<|?_
   refine CV1 Z fun_spec_l9State Z (fun w hs=>spec_l9State (rdSender_mk ⟨_,_,Z,hrd14_0 _ (fun c hc=>hs.at_ c (MR (ML hc)))⟩ ⟨_,_,Z,hrd1_1 _ (fun c hc=>hs.at_ c (MR (MR (MR (MR (MR (ML hc)))))))⟩ ⟨_,_,Z,hrdf _ (fun c hc=>hs.at_ c (MR (MR (ML hc))))⟩ ⟨_,_,Z,hrdo _ (fun c hc=>hs.at_ c (MR (MR (MR (ML hc)))))⟩))<|?_
   refine FA Z tyF_impl_Sender_0 Z<|rw_storeN (i:=1) [_] [_,_,_,_,_,_,_,_,_,_,_,_] [_,_,_,_,_] tyP_int.sz Z Z Z Z Z Z Z Z Z<|ND<|SQ<|RG<|LS (i:=1) [_,_,_,_,_,_,_,_,_,_,_,_] Z tyS_impl_Sender Z Z Z Z<|rw_storeN (i:=2) [_,_,_,_,_,_,_,_,_,_,_,_] [_,_,_,_,_,_,_,_,_,_,_,_] [_,_,_,_,_] tyS_impl_Sender.sz Z Z Z Z Z Z Z Z Z<|ND<|?_
   refine gw_FP (pg PR (pg (pp (pp (pp PR))) (pg PR (pg PR PR)))) (gw_F (F':=(ch14 ++ (c1_1 ++ (chf ++ (cho)))) ++ (c1_0 ++ (ch5 ++ ([])))) (by simp only [aA,aN]) ?_)
   refine ret_cn (ch14 ++ (c1_1 ++ (chf ++ (cho)))) Tryz.func184 (res1 Tryz.func184 Z (rv_s (i:=2) [_,_,_,_,_,_,_,_,_,_,_,_] tyS_impl_Sender Z Z Z Z)) ?_ ?_
   ·refine ⟨_,_,Z,owSender_mk h14_0 h1_1 hOf hOo,?_⟩
    exact ⟨hF.p,hvf,hvo,hF.hp,hhf,hho,hF.e0,hF.eK,(Nat.le_trans (Nat.le_of_eq hL14) hF.c)⟩
   ·exact (List.sublist_append_left _ _).trans (List.sublist_append_right _ _)
 have hse15:=str_empty h4
 refine SK<|SQ<|SQ<|RG<|FA Z tyF_impl_Piece_2 Z<|LD (i:=2) Z tyP_bool Z Z Z<|MV Z Z<|?_
 refine rw_caseL (j:=60) Z (fun h8=>?_) (fun h8=>?_)
 ·refine ON Z Z Z<|FA Z tyF_impl_Sender_6 Z<|ON Z Z Z<|LD (i:=3) Z tyP_int Z Z Z<|ON Z Z Z<|EQ1 Z Z Z<|PT Z Z Z Z<|ND<|?_
  refine gw_cond Z (fun h9=>?_) (fun h9=>?_)
  ·refine RG<|FA Z tyF_impl_Sender_6 Z<|rw_storeN (i:=0) [_] [_,_,_,_,_,_,_,_,_,_,_,_] [_,_,_,_] tyP_int.sz Z Z Z Z Z Z Z Z Z<|ND<|SQ<|gw_drawF [(0,.det),(1,.det),(2,.det),(3,.det),(4,.det),(5,.add),(6,.det),(7,.det),(8,.det),(9,(.free 30 [.int .i64 0,.int .i64 0,.int .i64 0,.slice none 0 0]))] [10,11] 8 mixed Z (free_det (free_det (free_det (free_det (free_det (free_add (free_det (free_det (free_det (free_new Z Z tyZ_impl_Ring free_nil))))))))))<|DT Z Z (fun _ q=>FA Z tyF_impl_Sender_1 Z q)<|?_
   refine DT Z Z (fun _ q=>LS (i:=3) [_,_,_,_] Z tyS_impl_Ring Z Z Z Z q)<|DT Z Z (fun _ q=>FA Z tyF_impl_Sender_4 Z q)<|DT Z Z (fun _ q=>LD (i:=0) Z tyP_S_impl_Range Z Z Z q)<|DT Z Z (fun _ q=>CV1 Z fun_spec_FirstGap Z (fun w hs=>spec_FirstGap ⟨_,_,Z,hrd1_3 _ (fun c hc=>hs.at_ c (MR (MR (MR (MR (ML hc))))))⟩ (Nat.le_trans hb3 (by decide)) _) q)<|DA Z Z (fun _ q=>CN1 Z fun_spec_DropRing Z (fun w hs=>spec_DropRing ⟨_,Z,(hA0.s Pl.keeps hs)⟩ hb0 (Int.le_trans (gap_le hF.a hF.ha hF.e0) (by have:=hF.eK; omega))) q)<|fun v16 ch16 how16=>?_
   obtain ⟨cs16,L16,p16,ok16,rfl,how16,hL16⟩:=how16
   obtain ⟨v16_0,ch16,rfl,h16_0,rfl⟩:=how16
   obtain ⟨R16_0,b16_0,rfl,hR16_0,hrd16_0⟩:=h16_0.shape eInt
   refine dw_F (F':=ch16 ++ (c1_0 ++ (c1_1 ++ (c1_2 ++ (c1_3 ++ ([])))))) (by simp only [aN])<|DM Z Z Z<|DT Z Z (fun _ q=>XT Z Z Z q)<|DT Z Z (fun _ q=>XT Z Z Z q)<|dw_free Z Z<|fun b8=>dw_nil<|?_
   refine ⟨fp_of Z Z Z (fun _ q=>XT Z Z Z q),?_⟩
   refine cw_take<|cw_st Z Z (fun _ q=>ST (i:=0) [_,_,_,_] [_,_,_,_] tyS_impl_Ring.sz Z Z Z Z Z Z Z Z q)<|cw_det Z Z (fun _ q=>AS Z Z q)<|cw_nil<|SQ<|RG<|LS (i:=0) [_,_,_,_] Z tyS_impl_Ring Z Z Z Z<|FA Z tyF_impl_Sender_1 Z<|rw_storeN (i:=1) [_,_,_,_] [_,_,_,_,_,_,_,_,_,_,_,_] [_,_,_,_,_] tyS_impl_Ring.sz Z Z Z Z Z Z Z Z Z<|ND<|SQ<|RG<|LS (i:=1) [_,_,_,_,_,_,_,_,_,_,_,_] Z tyS_impl_Sender Z Z Z Z<|?_
   refine CV1 Z fun_spec_l9State Z (fun w hs=>spec_l9State (rdSender_mk ⟨_,_,Z,hrd16_0 _ (fun c hc=>hs.at_ c (MR (ML hc)))⟩ ⟨_,_,Z,hrd1_1 _ (fun c hc=>hs.at_ c (MR (MR (MR (ML hc)))))⟩ ⟨_,_,Z,hrd1_2 _ (fun c hc=>hs.at_ c (MR (MR (MR (MR (ML hc))))))⟩ ⟨_,_,Z,hrd1_3 _ (fun c hc=>hs.at_ c (MR (MR (MR (MR (MR (ML hc)))))))⟩))<|?_
   refine FA Z tyF_impl_Sender_0 Z<|rw_storeN (i:=1) [_] [_,_,_,_,_,_,_,_,_,_,_,_] [_,_,_,_,_] tyP_int.sz Z Z Z Z Z Z Z Z Z<|ND<|SQ<|RG<|LS (i:=1) [_,_,_,_,_,_,_,_,_,_,_,_] Z tyS_impl_Sender Z Z Z Z<|rw_storeN (i:=2) [_,_,_,_,_,_,_,_,_,_,_,_] [_,_,_,_,_,_,_,_,_,_,_,_] [_,_,_,_,_] tyS_impl_Sender.sz Z Z Z Z Z Z Z Z Z<|ND<|?_
   refine gw_FP (pg PR (pg (pp PR) (pg (pp PR) (pg (pp PR) PR)))) (gw_F (F':=(ch16 ++ (c1_1 ++ (c1_2 ++ (c1_3)))) ++ (c1_0 ++ ([]))) (by simp only [aA,aN]) ?_)
   refine ret_cn (ch16 ++ (c1_1 ++ (c1_2 ++ (c1_3)))) Tryz.func184 (res1 Tryz.func184 Z (rv_s (i:=2) [_,_,_,_,_,_,_,_,_,_,_,_] tyS_impl_Sender Z Z Z Z)) ?_ ?_
   ·refine ⟨_,_,Z,owSender_mk h16_0 h1_1 h1_2 h1_3,?_⟩
    exact ⟨hF.p,hF.f,hF.a,hF.hp,hF.hf,hF.ha,hF.e0,hF.eK,(Nat.le_trans (Nat.le_of_eq hL16) hF.c)⟩
   ·exact (List.sublist_append_left _ _).trans (List.sublist_append_right _ _)
  refine SK<|SQ<|gw_drawF [(0,.det),(1,.det),(2,.det),(3,.det),(4,.det),(5,.add),(6,.det),(7,.det),(8,.det),(9,(.free 30 [.int .i64 0,.int .i64 0,.int .i64 0,.slice none 0 0]))] [10,11] 8 mixed Z (free_det (free_det (free_det (free_det (free_det (free_add (free_det (free_det (free_det (free_new Z Z tyZ_impl_Ring free_nil))))))))))<|DT Z Z (fun _ q=>FA Z tyF_impl_Sender_1 Z q)<|DT Z Z (fun _ q=>LS (i:=3) [_,_,_,_] Z tyS_impl_Ring Z Z Z Z q)<|DT Z Z (fun _ q=>FA Z tyF_impl_Sender_4 Z q)<|?_
  refine DT Z Z (fun _ q=>LD (i:=0) Z tyP_S_impl_Range Z Z Z q)<|DT Z Z (fun _ q=>CV1 Z fun_spec_FirstGap Z (fun w hs=>spec_FirstGap ⟨_,_,Z,hrd1_3 _ (fun c hc=>hs.at_ c (MR (MR (MR (MR (ML hc))))))⟩ (Nat.le_trans hb3 (by decide)) _) q)<|DA Z Z (fun _ q=>CN1 Z fun_spec_DropRing Z (fun w hs=>spec_DropRing ⟨_,Z,(hA0.s Pl.keeps hs)⟩ hb0 (Int.le_trans (gap_le hF.a hF.ha hF.e0) (by have:=hF.eK; omega))) q)<|fun v17 ch17 how17=>?_
  obtain ⟨cs17,L17,p17,ok17,rfl,how17,hL17⟩:=how17
  obtain ⟨v17_0,ch17,rfl,h17_0,rfl⟩:=how17
  obtain ⟨R17_0,b17_0,rfl,hR17_0,hrd17_0⟩:=h17_0.shape eInt
  refine dw_F (F':=ch17 ++ (c1_0 ++ (c1_1 ++ (c1_2 ++ (c1_3 ++ ([])))))) (by simp only [aN])<|DM Z Z Z<|DT Z Z (fun _ q=>XT Z Z Z q)<|DT Z Z (fun _ q=>XT Z Z Z q)<|dw_free Z Z<|fun b9=>dw_nil<|?_
  refine ⟨fp_of Z Z Z (fun _ q=>XT Z Z Z q),?_⟩
  refine cw_take<|cw_st Z Z (fun _ q=>ST (i:=0) [_,_,_,_] [_,_,_,_] tyS_impl_Ring.sz Z Z Z Z Z Z Z Z q)<|cw_det Z Z (fun _ q=>AS Z Z q)<|cw_nil<|SQ<|RG<|LS (i:=0) [_,_,_,_] Z tyS_impl_Ring Z Z Z Z<|FA Z tyF_impl_Sender_1 Z<|rw_storeN (i:=1) [_,_,_,_] [_,_,_,_,_,_,_,_,_,_,_,_] [_,_,_,_,_] tyS_impl_Ring.sz Z Z Z Z Z Z Z Z Z<|ND<|SQ<|RG<|LS (i:=1) [_,_,_,_,_,_,_,_,_,_,_,_] Z tyS_impl_Sender Z Z Z Z<|?_
  refine CV1 Z fun_spec_l9State Z (fun w hs=>spec_l9State (rdSender_mk ⟨_,_,Z,hrd17_0 _ (fun c hc=>hs.at_ c (MR (ML hc)))⟩ ⟨_,_,Z,hrd1_1 _ (fun c hc=>hs.at_ c (MR (MR (MR (ML hc)))))⟩ ⟨_,_,Z,hrd1_2 _ (fun c hc=>hs.at_ c (MR (MR (MR (MR (ML hc))))))⟩ ⟨_,_,Z,hrd1_3 _ (fun c hc=>hs.at_ c (MR (MR (MR (MR (MR (ML hc)))))))⟩))<|?_
  refine FA Z tyF_impl_Sender_0 Z<|rw_storeN (i:=1) [_] [_,_,_,_,_,_,_,_,_,_,_,_] [_,_,_,_,_] tyP_int.sz Z Z Z Z Z Z Z Z Z<|ND<|SQ<|RG<|LS (i:=1) [_,_,_,_,_,_,_,_,_,_,_,_] Z tyS_impl_Sender Z Z Z Z<|rw_storeN (i:=2) [_,_,_,_,_,_,_,_,_,_,_,_] [_,_,_,_,_,_,_,_,_,_,_,_] [_,_,_,_,_] tyS_impl_Sender.sz Z Z Z Z Z Z Z Z Z<|ND<|?_
  refine gw_FP (pg PR (pg (pp PR) (pg (pp PR) (pg (pp PR) PR)))) (gw_F (F':=(ch17 ++ (c1_1 ++ (c1_2 ++ (c1_3)))) ++ (c1_0 ++ ([]))) (by simp only [aA,aN]) ?_)
  refine ret_cn (ch17 ++ (c1_1 ++ (c1_2 ++ (c1_3)))) Tryz.func184 (res1 Tryz.func184 Z (rv_s (i:=2) [_,_,_,_,_,_,_,_,_,_,_,_] tyS_impl_Sender Z Z Z Z)) ?_ ?_
  ·refine ⟨_,_,Z,owSender_mk h17_0 h1_1 h1_2 h1_3,?_⟩
   exact ⟨hF.p,hF.f,hF.a,hF.hp,hF.hf,hF.ha,hF.e0,hF.eK,(Nat.le_trans (Nat.le_of_eq hL17) hF.c)⟩
  ·exact (List.sublist_append_left _ _).trans (List.sublist_append_right _ _)
 refine SKP Z<|PF Z Z Z Z<|ND<|CF Z Z<|SK<|SQ<|gw_drawF [(0,.det),(1,.det),(2,.det),(3,.det),(4,.det),(5,.add),(6,.det),(7,.det),(8,.det),(9,(.free 30 [.int .i64 0,.int .i64 0,.int .i64 0,.slice none 0 0]))] [10,11] 8 mixed Z (free_det (free_det (free_det (free_det (free_det (free_add (free_det (free_det (free_det (free_new Z Z tyZ_impl_Ring free_nil))))))))))<|DT Z Z (fun _ q=>FA Z tyF_impl_Sender_1 Z q)<|DT Z Z (fun _ q=>LS (i:=3) [_,_,_,_] Z tyS_impl_Ring Z Z Z Z q)<|?_
 refine DT Z Z (fun _ q=>FA Z tyF_impl_Sender_4 Z q)<|DT Z Z (fun _ q=>LD (i:=0) Z tyP_S_impl_Range Z Z Z q)<|DT Z Z (fun _ q=>CV1 Z fun_spec_FirstGap Z (fun w hs=>spec_FirstGap ⟨_,_,Z,hrd1_3 _ (fun c hc=>hs.at_ c (MR (MR (MR (MR (ML hc))))))⟩ (Nat.le_trans hb3 (by decide)) _) q)<|DA Z Z (fun _ q=>CN1 Z fun_spec_DropRing Z (fun w hs=>spec_DropRing ⟨_,Z,(hA0.s Pl.keeps hs)⟩ hb0 (Int.le_trans (gap_le hF.a hF.ha hF.e0) (by have:=hF.eK; omega))) q)<|fun v18 ch18 how18=>?_
 obtain ⟨cs18,L18,p18,ok18,rfl,how18,hL18⟩:=how18
 obtain ⟨v18_0,ch18,rfl,h18_0,rfl⟩:=how18
 obtain ⟨R18_0,b18_0,rfl,hR18_0,hrd18_0⟩:=h18_0.shape eInt
 refine dw_F (F':=ch18 ++ (c1_0 ++ (c1_1 ++ (c1_2 ++ (c1_3 ++ ([])))))) (by simp only [aN])<|DM Z Z Z<|DT Z Z (fun _ q=>XT Z Z Z q)<|DT Z Z (fun _ q=>XT Z Z Z q)<|dw_free Z Z<|fun b10=>dw_nil<|?_
 refine ⟨fp_of Z Z Z (fun _ q=>XT Z Z Z q),?_⟩
 refine cw_take<|cw_st Z Z (fun _ q=>ST (i:=0) [_,_,_,_] [_,_,_,_] tyS_impl_Ring.sz Z Z Z Z Z Z Z Z q)<|cw_det Z Z (fun _ q=>AS Z Z q)<|cw_nil<|SQ<|RG<|LS (i:=0) [_,_,_,_] Z tyS_impl_Ring Z Z Z Z<|FA Z tyF_impl_Sender_1 Z<|rw_storeN (i:=1) [_,_,_,_] [_,_,_,_,_,_,_,_,_,_,_,_] [_,_,_,_,_] tyS_impl_Ring.sz Z Z Z Z Z Z Z Z Z<|ND<|SQ<|RG<|LS (i:=1) [_,_,_,_,_,_,_,_,_,_,_,_] Z tyS_impl_Sender Z Z Z Z<|?_
 refine CV1 Z fun_spec_l9State Z (fun w hs=>spec_l9State (rdSender_mk ⟨_,_,Z,hrd18_0 _ (fun c hc=>hs.at_ c (MR (ML hc)))⟩ ⟨_,_,Z,hrd1_1 _ (fun c hc=>hs.at_ c (MR (MR (MR (ML hc)))))⟩ ⟨_,_,Z,hrd1_2 _ (fun c hc=>hs.at_ c (MR (MR (MR (MR (ML hc))))))⟩ ⟨_,_,Z,hrd1_3 _ (fun c hc=>hs.at_ c (MR (MR (MR (MR (MR (ML hc)))))))⟩))<|?_
 refine FA Z tyF_impl_Sender_0 Z<|rw_storeN (i:=1) [_] [_,_,_,_,_,_,_,_,_,_,_,_] [_,_,_,_,_] tyP_int.sz Z Z Z Z Z Z Z Z Z<|ND<|SQ<|RG<|LS (i:=1) [_,_,_,_,_,_,_,_,_,_,_,_] Z tyS_impl_Sender Z Z Z Z<|rw_storeN (i:=2) [_,_,_,_,_,_,_,_,_,_,_,_] [_,_,_,_,_,_,_,_,_,_,_,_] [_,_,_,_,_] tyS_impl_Sender.sz Z Z Z Z Z Z Z Z Z<|ND<|?_
 refine gw_FP (pg PR (pg (pp PR) (pg (pp PR) (pg (pp PR) PR)))) (gw_F (F':=(ch18 ++ (c1_1 ++ (c1_2 ++ (c1_3)))) ++ (c1_0 ++ ([]))) (by simp only [aA,aN]) ?_)
 refine ret_cn (ch18 ++ (c1_1 ++ (c1_2 ++ (c1_3)))) Tryz.func184 (res1 Tryz.func184 Z (rv_s (i:=2) [_,_,_,_,_,_,_,_,_,_,_,_] tyS_impl_Sender Z Z Z Z)) ?_ ?_
 ·refine ⟨_,_,Z,owSender_mk h18_0 h1_1 h1_2 h1_3,?_⟩
  exact ⟨hF.p,hF.f,hF.a,hF.hp,hF.hf,hF.ha,hF.e0,hF.eK,(Nat.le_trans (Nat.le_of_eq hL18) hF.c)⟩
 ·exact (List.sublist_append_left _ _).trans (List.sublist_append_right _ _)
set_option maxHeartbeats 4000000 in
set_option maxRecDepth 20000 in
theorem spec_LosePiece {w : World} {cs : List Value} {x : Sender} (hv : RdSender w cs x) {K : Nat} (hF : FineS K x) (hK : K ≤ 1000) (p : Piece) : CN Tryz.prog 186 [.agg cs.toArray, .agg p.cells.toArray] w (fun v ch => ∃ cs' s', v = .agg cs'.toArray ∧ OwSender cs' s' ch ∧ FineS K s') := by
 obtain ⟨v0,v1,v2,v3,rfl,k0,k1,k2,k3⟩:=hv
 obtain ⟨A0,c0,rfl,hA0⟩:=k0
 obtain ⟨A1,c1,rfl,hA1⟩:=k1
 obtain ⟨A2,c2,rfl,hA2⟩:=k2
 obtain ⟨A3,c3,rfl,hA3⟩:=k3
 obtain ⟨hb0,hb1,hb2,hb3⟩:=FineS.le hF (by omega)
 refine cn_of Tryz.func186 Z Z Z<|SQ<|RG<|BX [_,_,_,_,_,_,_,_,_,_,_,_] Z Z Z<|fun b1=>BX [_,_,_] Z Z Z<|fun b2=>AL Z tyZ_impl_Sender<|fun b3=>ND<|SQ<|RG<|LS (i:=2) [_,_,_,_,_,_,_,_,_,_,_,_] Z tyS_impl_Sender Z Z Z Z<|CN1 Z fun_spec_l9Copy Z (fun w hs=>spec_l9Copy ⟨_,_,_,_,Z,(hA0.s Pl.keeps hs),(hA1.s Pl.keeps hs),(hA2.s Pl.keeps hs),(hA3.s Pl.keeps hs)⟩ ⟨hb0,hb1,hb2,hb3⟩)<|fun vv1 ch1 how1=>?_
 obtain ⟨cs1,rfl,v1_0,v1_1,v1_2,v1_3,c1_0,c1_1,c1_2,c1_3,rfl,h1_0,h1_1,h1_2,h1_3,rfl⟩:=how1
 refine rw_F (F':=c1_0 ++ (c1_1 ++ (c1_2 ++ (c1_3 ++ ([]))))) (by simp only [aA])<|?_
 obtain ⟨R1_0,b1_0,rfl,hR1_0,hrd1_0⟩:=h1_0.shape eInt
 obtain ⟨R1_1,b1_1,rfl,hR1_1,hrd1_1⟩:=h1_1.shape eRange
 obtain ⟨R1_2,b1_2,rfl,hR1_2,hrd1_2⟩:=h1_2.shape eRange
 obtain ⟨R1_3,b1_3,rfl,hR1_3,hrd1_3⟩:=h1_3.shape eRange
 refine AL Z tyZ_impl_Sender<|fun b4=>rw_storeN (i:=0) [_,_,_,_,_,_,_,_,_,_,_,_] [_,_,_,_,_,_,_,_,_,_,_,_] [_,_,_,_] tyS_impl_Sender.sz Z Z Z Z Z Z Z Z Z<|ND<|SQ<|SQ<|RG<|LS (i:=3) [_,_,_,_,_,_,_,_,_,_,_,_] Z tyS_impl_Sender Z Z Z Z<|CV1 Z fun_spec_IsSender Z (fun w hs=>spec_IsSender ⟨_,_,_,_,Z,(hA0.s Pl.keeps hs),(hA1.s Pl.keeps hs),(hA2.s Pl.keeps hs),(hA3.s Pl.keeps hs)⟩ ⟨hb0,hb1,hb2,hb3⟩)<|NT Z Z<|MV Z Z<|?_
 refine rw_caseN (j:=13) Z (fun h1=>?_) (fun h1=>?_)
 ·refine SKP Z<|PT Z Z Z Z<|MV Z Z<|SKP Z<|PT Z Z Z Z<|ND<|CT Z Z<|SQ<|RG<|LS (i:=0) [_,_,_,_,_,_,_,_,_,_,_,_] Z tyS_impl_Sender Z Z Z Z<|rw_storeN (i:=1) [_,_,_,_,_,_,_,_,_,_,_,_] [_,_,_,_,_,_,_,_,_,_,_,_] [_,_,_,_] tyS_impl_Sender.sz Z Z Z Z Z Z Z Z Z<|ND<|?_
  refine gw_FP (pg PR (pg PR (pg PR (pg PR PR)))) (gw_F (F':=(c1_0 ++ (c1_1 ++ (c1_2 ++ (c1_3)))) ++ ([])) (by simp only [aN]) ?_)
  refine ret_cn (c1_0 ++ (c1_1 ++ (c1_2 ++ (c1_3)))) Tryz.func186 (res1 Tryz.func186 Z (rv_s (i:=1) [_,_,_,_,_,_,_,_,_,_,_,_] tyS_impl_Sender Z Z Z Z)) ?_ ?_
  ·refine ⟨_,_,Z,owSender_mk h1_0 h1_1 h1_2 h1_3,?_⟩
   exact ⟨hF.p,hF.f,hF.a,hF.hp,hF.hf,hF.ha,hF.e0,hF.eK,hF.c⟩
  ·exact (List.sublist_append_left _ _).trans (List.sublist_append_right _ _)
 refine ON Z Z Z<|FA Z tyF_impl_Sender_0 Z<|ON Z Z Z<|LD (i:=3) Z tyP_int Z Z Z<|ON Z Z Z<|rw_gtr Z Z Z<|PF Z Z Z Z<|MV Z Z<|?_
 refine rw_caseL (j:=18) Z (fun h2=>?_) (fun h2=>?_)
 ·refine SKP Z<|PT Z Z Z Z<|ND<|CT Z Z<|SQ<|RG<|LS (i:=0) [_,_,_,_,_,_,_,_,_,_,_,_] Z tyS_impl_Sender Z Z Z Z<|rw_storeN (i:=1) [_,_,_,_,_,_,_,_,_,_,_,_] [_,_,_,_,_,_,_,_,_,_,_,_] [_,_,_,_] tyS_impl_Sender.sz Z Z Z Z Z Z Z Z Z<|ND<|?_
  refine gw_FP (pg PR (pg PR (pg PR (pg PR PR)))) (gw_F (F':=(c1_0 ++ (c1_1 ++ (c1_2 ++ (c1_3)))) ++ ([])) (by simp only [aN]) ?_)
  refine ret_cn (c1_0 ++ (c1_1 ++ (c1_2 ++ (c1_3)))) Tryz.func186 (res1 Tryz.func186 Z (rv_s (i:=1) [_,_,_,_,_,_,_,_,_,_,_,_] tyS_impl_Sender Z Z Z Z)) ?_ ?_
  ·refine ⟨_,_,Z,owSender_mk h1_0 h1_1 h1_2 h1_3,?_⟩
   exact ⟨hF.p,hF.f,hF.a,hF.hp,hF.hf,hF.ha,hF.e0,hF.eK,hF.c⟩
  ·exact (List.sublist_append_left _ _).trans (List.sublist_append_right _ _)
 refine ON Z Z Z<|LS (i:=3) [_,_,_,_,_,_,_,_,_,_,_,_] Z tyS_impl_Sender Z Z Z Z<|ON Z Z Z<|LS (i:=2) [_,_,_] Z tyS_impl_Piece Z Z Z Z<|ON Z Z Z<|CV1 Z fun_spec_l9Piece Z (fun w hs=>spec_l9Piece ⟨_,_,_,_,Z,(hA0.s Pl.keeps hs),(hA1.s Pl.keeps hs),(hA2.s Pl.keeps hs),(hA3.s Pl.keeps hs)⟩ _)<|ON Z Z Z<|NT Z Z<|PF Z Z Z Z<|ND<|?_
 refine gw_condN Z (fun h3=>?_) (fun h3=>?_)
 ·refine SQ<|RG<|LS (i:=0) [_,_,_,_,_,_,_,_,_,_,_,_] Z tyS_impl_Sender Z Z Z Z<|rw_storeN (i:=1) [_,_,_,_,_,_,_,_,_,_,_,_] [_,_,_,_,_,_,_,_,_,_,_,_] [_,_,_,_] tyS_impl_Sender.sz Z Z Z Z Z Z Z Z Z<|ND<|?_
  refine gw_FP (pg PR (pg PR (pg PR (pg PR PR)))) (gw_F (F':=(c1_0 ++ (c1_1 ++ (c1_2 ++ (c1_3)))) ++ ([])) (by simp only [aN]) ?_)
  refine ret_cn (c1_0 ++ (c1_1 ++ (c1_2 ++ (c1_3)))) Tryz.func186 (res1 Tryz.func186 Z (rv_s (i:=1) [_,_,_,_,_,_,_,_,_,_,_,_] tyS_impl_Sender Z Z Z Z)) ?_ ?_
  ·refine ⟨_,_,Z,owSender_mk h1_0 h1_1 h1_2 h1_3,?_⟩
   exact ⟨hF.p,hF.f,hF.a,hF.hp,hF.hf,hF.ha,hF.e0,hF.eK,hF.c⟩
  ·exact (List.sublist_append_left _ _).trans (List.sublist_append_right _ _)
 have hr2:=(pieceIn_end h3 (by have:=hF.eK; omega)).2
 refine SK<|SQ<|SQ<|RG<|FA Z tyF_impl_Piece_1 Z<|LD (i:=2) Z tyP_string Z Z Z<|rw_neqS Z Z Z<|ND<|?_
 refine gw_condN Z (fun h4=>?_) (fun h4=>?_)
 ·have hse3:=str_empty h4
  refine SQ<|gw_draw' [dd 0,dd 1,dd 2,dd 3,(4,.add)] [5,6] mixed Z (FD Z) (ts:=[_,_]) Z<|DT Z Z (fun _ q=>FA Z tyF_impl_Sender_3 Z q)<|DT Z Z (fun _ q=>LD (i:=3) Z tyP_S_impl_Range Z Z Z q)<|DT Z Z (fun _ q=>LS (i:=2) [_,_,_] Z tyS_impl_Piece Z Z Z Z q)<|DT Z Z (fun _ q=>CV1 Z fun_spec_l9Range Z (fun w hs=>spec_l9Range _ w) q)<|DA Z Z (fun _ q=>rw_sliceO (f:=Range.cells) ([⟨p.offset,w64 (p.offset + (p.data.size : Int))⟩] : List Range) [_,_] Z tyM_S_impl_Range Z Z Z Z Z Z Z q)<|fun v4 ch4 how4=>?_
  obtain ⟨R4,rc4,rfl,hR4,hrd4⟩:=(OwA.s how4).shape eRange
  refine dw_nil<|CN1 Z fun_spec_CommonRanges Z (fun w hs=>spec_CommonRanges (hA2.s Pl.keeps hs) (Nat.le_trans hb2 (by decide)) ⟨_,_,Z,hrd4 _ (fun c hc=>hs.at_ c (MR (ML hc)))⟩)<|fun v5 ch5 how5=>?_
  obtain ⟨m5,how5,hm5,hH5⟩:=how5
  obtain ⟨R5,rc5,rfl,hR5,hrd5⟩:=how5.shape eRange
  refine AS Z Z<|ND<|SQ<|RG<|AS Z Z<|ND<|BK<|?_
  refine gw_FP (F':=c1_2 ++ (c1_1 ++ (c1_0 ++ (c1_3 ++ (ch5 ++ (ch4 ++ ([]))))))) (pg (pp (pp (pp (pp PR)))) (pg (pp (pp (pp PR))) (pg (pp (pp PR)) (pg (pp (pp PR)) (pg PR (pg PR PR))))))<|gw_dropF (F':=c1_2 ++ (c1_1 ++ (c1_0 ++ (c1_3 ++ (ch5 ++ ([])))))) (List.Sublist.append_left (List.Sublist.append_left (List.Sublist.append_left (List.Sublist.append_left (List.Sublist.append_left (List.nil_sublist _) _) _) _) _) _)<|?_
  refine gw_loopX (α:=Nat × List Range × Option Addr × Nat × List Ck × List Range × Option Addr × Nat × List Ck) (fun z_=>z_.1 ≤ m5.length ∧ Vf (-1) z_.2.1 ∧ Hb x.ring.fin z_.2.1 ∧ OwS 132 2 (PlO Range.cells) (.slice z_.2.2.1 z_.2.1.length z_.2.2.2.1) z_.2.1 z_.2.2.2.2.1 ∧ Vf (-1) z_.2.2.2.2.2.1 ∧ Hb x.ring.fin z_.2.2.2.2.2.1 ∧ OwS 132 2 (PlO Range.cells) (.slice z_.2.2.2.2.2.2.1 z_.2.2.2.2.2.1.length z_.2.2.2.2.2.2.2.1) z_.2.2.2.2.2.1 z_.2.2.2.2.2.2.2.2) (fun z_=>m5.length - z_.1) (fun e z_=>(7,.int .i64 (z_.1 : Int)) :: e) (fun B z_=>B.set 0 ⟨b4,33,Sender.row x (.slice R1_0 x.ring.cells.length b1_0) (.slice z_.2.2.2.2.2.2.1 z_.2.2.2.2.2.1.length z_.2.2.2.2.2.2.2.1) (.slice z_.2.2.1 z_.2.1.length z_.2.2.2.1) (.slice R1_3 x.acked.length b1_3)⟩) (fun F z_=>z_.2.2.2.2.1 ++ (z_.2.2.2.2.2.2.2.2 ++ (c1_0 ++ (c1_3 ++ (ch5 ++ ([])))))) (0,x.flight,R1_2,b1_2,c1_2,x.pending,R1_1,b1_1,c1_1) [(2,_),(3,_),(4,_),(5,_),(6,_)] (Sub.consE Z Z (Sub.cons (i:=2) Z (Sub.cons (i:=3) Z (Sub.cons (i:=4) Z (Sub.cons (i:=5) Z (Sub.cons (i:=6) Z (Sub.nil _))))))) Z Z ?_ ?_
  ·exact ⟨Nat.zero_le _,hF.f,hF.hf,h1_2,hF.p,hF.hp,h1_1⟩
  ·rintro ⟨i,lf,Rf,rf,chf,lo,Ro,ro,cho⟩ hI6 ih6
   dsimp only at hI6
   dsimp only [List.set]
   obtain ⟨hle,hvf,hhf,hOf,hvo,hho,hOo⟩:=hI6
   obtain ⟨_,_,hRf,hrdf⟩:=hOf.reshape eRange
   obtain ⟨_,_,hRo,hrdo⟩:=hOo.reshape eRange
   have hbf : lf.length ≤ 1048576:=by have h1:=hvf.len hhf (by have:=hF.e0; omega); have:=hF.eK; omega
   have hbo : lo.length ≤ 1048576:=by have h1:=hvo.len hho (by have:=hF.e0; omega); have:=hF.eK; omega
   refine SQ<|SQ<|RG<|MV Z Z<|MV Z Z<|rw_len Z tyE_S_impl_Range Z<|rw_lss Z Z Z<|ND<|?_
   refine gw_cond Z (fun h5=>?_) (fun h5=>?_)
   ·have hi7:=lt_of_dec h5
    obtain ⟨x8,hx8⟩:=get_of_lt hi7
    have hd8:=drop_cons hx8
    refine SK<|SQ<|BK<|SQ<|gw_draw' [dd 0,dd 1,dd 2,dd 3,dd 4,dd 5] [6,7,8] mixed Z (FD Z) (ts:=[_,_,_]) Z<|DT Z Z (fun _ q=>FA Z tyF_impl_Sender_3 Z q)<|DT Z Z (fun _ q=>LD (i:=0) Z tyP_S_impl_Range Z Z Z q)<|DM Z Z Z<|DM Z Z Z<|DT Z Z (fun _ q=>rw_indexAddr (i) Z tyE_S_impl_Range Z Z Z (hR5 (Nat.zero_lt_of_lt hi7)) hi7 q)<|DT Z Z (fun _ q=>rw_loadX_s [_,_] Z tyS_impl_Range Z Z (fun w hs=>((hrd5 _ (fun c hc=>hs.at_ c (MR (MR (MR (MR (MR (ML hc)))))))).plain hx8).cut0 (n:=2) Z) q)<|?_
    refine dw_nil<|CN1 Z fun_spec_RemoveRange Z (fun w hs=>spec_RemoveRange ⟨_,_,Z,hrdf _ (fun c hc=>hs.at_ c (MR (ML hc)))⟩ (Nat.le_trans hbf (by decide)) x8)<|fun v9 ch9 how9=>?_
    obtain ⟨R9,rc9,rfl,hR9,hrd9⟩:=how9.shape eRange
    refine FA Z tyF_impl_Sender_3 Z<|rw_storeN (i:=0) [_] [_,_,_,_,_,_,_,_,_,_,_,_] [_,_,_,_] tyP_S_impl_Range.sz Z Z Z Z Z Z Z Z Z<|ND<|gw_draw' [dd 0,dd 1,dd 2,dd 3,dd 4,dd 5] [6,7,8] mixed Z (FD Z) (ts:=[_,_,_]) Z<|DT Z Z (fun _ q=>FA Z tyF_impl_Sender_2 Z q)<|DT Z Z (fun _ q=>LD (i:=0) Z tyP_S_impl_Range Z Z Z q)<|DM Z Z Z<|DM Z Z Z<|DT Z Z (fun _ q=>rw_indexAddr (i) Z tyE_S_impl_Range Z Z Z (hR5 (Nat.zero_lt_of_lt hi7)) hi7 q)<|?_
    refine DT Z Z (fun _ q=>rw_loadX_s [_,_] Z tyS_impl_Range Z Z (fun w hs=>((hrd5 _ (fun c hc=>hs.at_ c (MR (MR (MR (MR (MR (MR (ML hc))))))))).plain hx8).cut0 (n:=2) Z) q)<|dw_nil<|CN1 Z fun_spec_AddRange Z (fun w hs=>spec_AddRange ⟨_,_,Z,hrdo _ (fun c hc=>hs.at_ c (MR (MR (MR (ML hc)))))⟩ (Nat.le_trans hbo (by decide)) x8)<|fun v10 ch10 how10=>?_
    obtain ⟨R10,rc10,rfl,hR10,hrd10⟩:=how10.shape eRange
    refine FA Z tyF_impl_Sender_2 Z<|rw_storeN (i:=0) [_] [_,_,_,_,_,_,_,_,_,_,_,_] [_,_,_,_] tyP_S_impl_Range.sz Z Z Z Z Z Z Z Z Z<|ND<|IB<|RG<|MV Z Z<|rw_add Z Z Z<|AS Z Z<|ND<|?_
    refine gw_FP (F':=ch9 ++ (ch10 ++ (c1_0 ++ (c1_3 ++ (ch5 ++ (chf ++ (cho ++ ([])))))))) (pg (pp PR) (pg PR (pg (pp (pp PR)) (pg (pp (pp PR)) (pg (pp (pp PR)) (pg PR (pg PR PR)))))))<|gw_dropF (F':=ch9 ++ (ch10 ++ (c1_0 ++ (c1_3 ++ (ch5 ++ ([])))))) (List.Sublist.append_left (List.Sublist.append_left (List.Sublist.append_left (List.Sublist.append_left (List.Sublist.append_left (List.nil_sublist _) _) _) _) _) _)<|?_
    refine gw_sub (Sub.consE (i:=7) Z (int_succ (by omega)) (Sub.cons (i:=2) Z (Sub.cons (i:=3) Z (Sub.cons (i:=4) Z (Sub.cons (i:=5) Z (Sub.cons (i:=6) Z (Sub.nil _))))))) (ih6 (i + 1,(removeRange lf x8),R9,rc9,ch9,(addRange lo x8),R10,rc10,ch10) ?_ ?_)
    ·exact ⟨by have:=hi7; omega,removeRange_vf hvf,removeRange_hb hhf,how9,addRange_vf hvo,addRange_hb hho (hH5 _ hF.hf _ (List.mem_of_getElem? hx8)),how10⟩
    ·show m5.length - (i + 1) < m5.length - i; have:=hi7; omega
   have hn11:=nil_of_dec h5
   refine EX Z<|SQ<|SQ<|RG<|FA Z tyF_impl_Piece_2 Z<|LD (i:=2) Z tyP_bool Z Z Z<|MV Z Z<|?_
   refine rw_caseL (j:=58) Z (fun h6=>?_) (fun h6=>?_)
   ·refine ON Z Z Z<|FA Z tyF_impl_Sender_6 Z<|ON Z Z Z<|LD (i:=3) Z tyP_int Z Z Z<|ON Z Z Z<|EQ1 Z Z Z<|PT Z Z Z Z<|ND<|?_
    refine gw_cond Z (fun h7=>?_) (fun h7=>?_)
    ·refine RG<|FA Z tyF_impl_Sender_6 Z<|rw_storeN (i:=0) [_] [_,_,_,_,_,_,_,_,_,_,_,_] [_,_,_,_] tyP_int.sz Z Z Z Z Z Z Z Z Z<|ND<|SQ<|RG<|LS (i:=0) [_,_,_,_,_,_,_,_,_,_,_,_] Z tyS_impl_Sender Z Z Z Z<|CV1 Z fun_spec_l9State Z (fun w hs=>spec_l9State (rdSender_mk ⟨_,_,Z,hrd1_0 _ (fun c hc=>hs.at_ c (MR (MR (MR (ML hc)))))⟩ ⟨_,_,Z,hrdo _ (fun c hc=>hs.at_ c (MR (MR (ML hc))))⟩ ⟨_,_,Z,hrdf _ (fun c hc=>hs.at_ c (MR (ML hc)))⟩ ⟨_,_,Z,hrd1_3 _ (fun c hc=>hs.at_ c (MR (MR (MR (MR (ML hc))))))⟩))<|?_
     refine FA Z tyF_impl_Sender_0 Z<|rw_storeN (i:=0) [_] [_,_,_,_,_,_,_,_,_,_,_,_] [_,_,_,_] tyP_int.sz Z Z Z Z Z Z Z Z Z<|ND<|SQ<|RG<|LS (i:=0) [_,_,_,_,_,_,_,_,_,_,_,_] Z tyS_impl_Sender Z Z Z Z<|rw_storeN (i:=1) [_,_,_,_,_,_,_,_,_,_,_,_] [_,_,_,_,_,_,_,_,_,_,_,_] [_,_,_,_] tyS_impl_Sender.sz Z Z Z Z Z Z Z Z Z<|ND<|?_
     refine gw_FP (pg (pp (pp PR)) (pg (pp PR) (pg PR (pg PR PR)))) (gw_F (F':=(c1_0 ++ (cho ++ (chf ++ (c1_3)))) ++ (ch5 ++ ([]))) (by simp only [aA,aN]) ?_)
     refine ret_cn (c1_0 ++ (cho ++ (chf ++ (c1_3)))) Tryz.func186 (res1 Tryz.func186 Z (rv_s (i:=1) [_,_,_,_,_,_,_,_,_,_,_,_] tyS_impl_Sender Z Z Z Z)) ?_ ?_
     ·refine ⟨_,_,Z,owSender_mk h1_0 hOo hOf h1_3,?_⟩
      exact ⟨hvo,hvf,hF.a,hho,hhf,hF.ha,hF.e0,hF.eK,hF.c⟩
     ·exact (List.sublist_append_left _ _).trans (List.sublist_append_right _ _)
    refine SK<|SQ<|RG<|LS (i:=0) [_,_,_,_,_,_,_,_,_,_,_,_] Z tyS_impl_Sender Z Z Z Z<|CV1 Z fun_spec_l9State Z (fun w hs=>spec_l9State (rdSender_mk ⟨_,_,Z,hrd1_0 _ (fun c hc=>hs.at_ c (MR (MR (MR (ML hc)))))⟩ ⟨_,_,Z,hrdo _ (fun c hc=>hs.at_ c (MR (MR (ML hc))))⟩ ⟨_,_,Z,hrdf _ (fun c hc=>hs.at_ c (MR (ML hc)))⟩ ⟨_,_,Z,hrd1_3 _ (fun c hc=>hs.at_ c (MR (MR (MR (MR (ML hc))))))⟩))<|?_
    refine FA Z tyF_impl_Sender_0 Z<|rw_storeN (i:=0) [_] [_,_,_,_,_,_,_,_,_,_,_,_] [_,_,_,_] tyP_int.sz Z Z Z Z Z Z Z Z Z<|ND<|SQ<|RG<|LS (i:=0) [_,_,_,_,_,_,_,_,_,_,_,_] Z tyS_impl_Sender Z Z Z Z<|rw_storeN (i:=1) [_,_,_,_,_,_,_,_,_,_,_,_] [_,_,_,_,_,_,_,_,_,_,_,_] [_,_,_,_] tyS_impl_Sender.sz Z Z Z Z Z Z Z Z Z<|ND<|?_
    refine gw_FP (pg (pp (pp PR)) (pg (pp PR) (pg PR (pg PR PR)))) (gw_F (F':=(c1_0 ++ (cho ++ (chf ++ (c1_3)))) ++ (ch5 ++ ([]))) (by simp only [aA,aN]) ?_)
    refine ret_cn (c1_0 ++ (cho ++ (chf ++ (c1_3)))) Tryz.func186 (res1 Tryz.func186 Z (rv_s (i:=1) [_,_,_,_,_,_,_,_,_,_,_,_] tyS_impl_Sender Z Z Z Z)) ?_ ?_
    ·refine ⟨_,_,Z,owSender_mk h1_0 hOo hOf h1_3,?_⟩
     exact ⟨hvo,hvf,hF.a,hho,hhf,hF.ha,hF.e0,hF.eK,hF.c⟩
    ·exact (List.sublist_append_left _ _).trans (List.sublist_append_right _ _)
   refine SKP Z<|PF Z Z Z Z<|ND<|CF Z Z<|SK<|SQ<|RG<|LS (i:=0) [_,_,_,_,_,_,_,_,_,_,_,_] Z tyS_impl_Sender Z Z Z Z<|CV1 Z fun_spec_l9State Z (fun w hs=>spec_l9State (rdSender_mk ⟨_,_,Z,hrd1_0 _ (fun c hc=>hs.at_ c (MR (MR (MR (ML hc)))))⟩ ⟨_,_,Z,hrdo _ (fun c hc=>hs.at_ c (MR (MR (ML hc))))⟩ ⟨_,_,Z,hrdf _ (fun c hc=>hs.at_ c (MR (ML hc)))⟩ ⟨_,_,Z,hrd1_3 _ (fun c hc=>hs.at_ c (MR (MR (MR (MR (ML hc))))))⟩))<|?_
   refine FA Z tyF_impl_Sender_0 Z<|rw_storeN (i:=0) [_] [_,_,_,_,_,_,_,_,_,_,_,_] [_,_,_,_] tyP_int.sz Z Z Z Z Z Z Z Z Z<|ND<|SQ<|RG<|LS (i:=0) [_,_,_,_,_,_,_,_,_,_,_,_] Z tyS_impl_Sender Z Z Z Z<|rw_storeN (i:=1) [_,_,_,_,_,_,_,_,_,_,_,_] [_,_,_,_,_,_,_,_,_,_,_,_] [_,_,_,_] tyS_impl_Sender.sz Z Z Z Z Z Z Z Z Z<|ND<|?_
   refine gw_FP (pg (pp (pp PR)) (pg (pp PR) (pg PR (pg PR PR)))) (gw_F (F':=(c1_0 ++ (cho ++ (chf ++ (c1_3)))) ++ (ch5 ++ ([]))) (by simp only [aA,aN]) ?_)
   refine ret_cn (c1_0 ++ (cho ++ (chf ++ (c1_3)))) Tryz.func186 (res1 Tryz.func186 Z (rv_s (i:=1) [_,_,_,_,_,_,_,_,_,_,_,_] tyS_impl_Sender Z Z Z Z)) ?_ ?_
   ·refine ⟨_,_,Z,owSender_mk h1_0 hOo hOf h1_3,?_⟩
    exact ⟨hvo,hvf,hF.a,hho,hhf,hF.ha,hF.e0,hF.eK,hF.c⟩
   ·exact (List.sublist_append_left _ _).trans (List.sublist_append_right _ _)
 have hse12:=str_empty h4
 refine SK<|SQ<|SQ<|RG<|FA Z tyF_impl_Piece_2 Z<|LD (i:=2) Z tyP_bool Z Z Z<|MV Z Z<|?_
 refine rw_caseL (j:=58) Z (fun h8=>?_) (fun h8=>?_)
 ·refine ON Z Z Z<|FA Z tyF_impl_Sender_6 Z<|ON Z Z Z<|LD (i:=3) Z tyP_int Z Z Z<|ON Z Z Z<|EQ1 Z Z Z<|PT Z Z Z Z<|ND<|?_
  refine gw_cond Z (fun h9=>?_) (fun h9=>?_)
  ·refine RG<|FA Z tyF_impl_Sender_6 Z<|rw_storeN (i:=0) [_] [_,_,_,_,_,_,_,_,_,_,_,_] [_,_,_,_] tyP_int.sz Z Z Z Z Z Z Z Z Z<|ND<|SQ<|RG<|LS (i:=0) [_,_,_,_,_,_,_,_,_,_,_,_] Z tyS_impl_Sender Z Z Z Z<|CV1 Z fun_spec_l9State Z (fun w hs=>spec_l9State (rdSender_mk ⟨_,_,Z,hrd1_0 _ (fun c hc=>hs.at_ c (MR (ML hc)))⟩ ⟨_,_,Z,hrd1_1 _ (fun c hc=>hs.at_ c (MR (MR (ML hc))))⟩ ⟨_,_,Z,hrd1_2 _ (fun c hc=>hs.at_ c (MR (MR (MR (ML hc)))))⟩ ⟨_,_,Z,hrd1_3 _ (fun c hc=>hs.at_ c (MR (MR (MR (MR (ML hc))))))⟩))<|?_
   refine FA Z tyF_impl_Sender_0 Z<|rw_storeN (i:=0) [_] [_,_,_,_,_,_,_,_,_,_,_,_] [_,_,_,_] tyP_int.sz Z Z Z Z Z Z Z Z Z<|ND<|SQ<|RG<|LS (i:=0) [_,_,_,_,_,_,_,_,_,_,_,_] Z tyS_impl_Sender Z Z Z Z<|rw_storeN (i:=1) [_,_,_,_,_,_,_,_,_,_,_,_] [_,_,_,_,_,_,_,_,_,_,_,_] [_,_,_,_] tyS_impl_Sender.sz Z Z Z Z Z Z Z Z Z<|ND<|?_
   refine gw_FP (pg PR (pg PR (pg PR (pg PR PR)))) (gw_F (F':=(c1_0 ++ (c1_1 ++ (c1_2 ++ (c1_3)))) ++ ([])) (by simp only [aN]) ?_)
   refine ret_cn (c1_0 ++ (c1_1 ++ (c1_2 ++ (c1_3)))) Tryz.func186 (res1 Tryz.func186 Z (rv_s (i:=1) [_,_,_,_,_,_,_,_,_,_,_,_] tyS_impl_Sender Z Z Z Z)) ?_ ?_
   ·refine ⟨_,_,Z,owSender_mk h1_0 h1_1 h1_2 h1_3,?_⟩
    exact ⟨hF.p,hF.f,hF.a,hF.hp,hF.hf,hF.ha,hF.e0,hF.eK,hF.c⟩
   ·exact (List.sublist_append_left _ _).trans (List.sublist_append_right _ _)
  refine SK<|SQ<|RG<|LS (i:=0) [_,_,_,_,_,_,_,_,_,_,_,_] Z tyS_impl_Sender Z Z Z Z<|CV1 Z fun_spec_l9State Z (fun w hs=>spec_l9State (rdSender_mk ⟨_,_,Z,hrd1_0 _ (fun c hc=>hs.at_ c (MR (ML hc)))⟩ ⟨_,_,Z,hrd1_1 _ (fun c hc=>hs.at_ c (MR (MR (ML hc))))⟩ ⟨_,_,Z,hrd1_2 _ (fun c hc=>hs.at_ c (MR (MR (MR (ML hc)))))⟩ ⟨_,_,Z,hrd1_3 _ (fun c hc=>hs.at_ c (MR (MR (MR (MR (ML hc))))))⟩))<|?_
  refine FA Z tyF_impl_Sender_0 Z<|rw_storeN (i:=0) [_] [_,_,_,_,_,_,_,_,_,_,_,_] [_,_,_,_] tyP_int.sz Z Z Z Z Z Z Z Z Z<|ND<|SQ<|RG<|LS (i:=0) [_,_,_,_,_,_,_,_,_,_,_,_] Z tyS_impl_Sender Z Z Z Z<|rw_storeN (i:=1) [_,_,_,_,_,_,_,_,_,_,_,_] [_,_,_,_,_,_,_,_,_,_,_,_] [_,_,_,_] tyS_impl_Sender.sz Z Z Z Z Z Z Z Z Z<|ND<|?_
  refine gw_FP (pg PR (pg PR (pg PR (pg PR PR)))) (gw_F (F':=(c1_0 ++ (c1_1 ++ (c1_2 ++ (c1_3)))) ++ ([])) (by simp only [aN]) ?_)
  refine ret_cn (c1_0 ++ (c1_1 ++ (c1_2 ++ (c1_3)))) Tryz.func186 (res1 Tryz.func186 Z (rv_s (i:=1) [_,_,_,_,_,_,_,_,_,_,_,_] tyS_impl_Sender Z Z Z Z)) ?_ ?_
  ·refine ⟨_,_,Z,owSender_mk h1_0 h1_1 h1_2 h1_3,?_⟩
   exact ⟨hF.p,hF.f,hF.a,hF.hp,hF.hf,hF.ha,hF.e0,hF.eK,hF.c⟩
  ·exact (List.sublist_append_left _ _).trans (List.sublist_append_right _ _)
 refine SKP Z<|PF Z Z Z Z<|ND<|CF Z Z<|SK<|SQ<|RG<|LS (i:=0) [_,_,_,_,_,_,_,_,_,_,_,_] Z tyS_impl_Sender Z Z Z Z<|CV1 Z fun_spec_l9State Z (fun w hs=>spec_l9State (rdSender_mk ⟨_,_,Z,hrd1_0 _ (fun c hc=>hs.at_ c (MR (ML hc)))⟩ ⟨_,_,Z,hrd1_1 _ (fun c hc=>hs.at_ c (MR (MR (ML hc))))⟩ ⟨_,_,Z,hrd1_2 _ (fun c hc=>hs.at_ c (MR (MR (MR (ML hc)))))⟩ ⟨_,_,Z,hrd1_3 _ (fun c hc=>hs.at_ c (MR (MR (MR (MR (ML hc))))))⟩))<|?_
 refine FA Z tyF_impl_Sender_0 Z<|rw_storeN (i:=0) [_] [_,_,_,_,_,_,_,_,_,_,_,_] [_,_,_,_] tyP_int.sz Z Z Z Z Z Z Z Z Z<|ND<|SQ<|RG<|LS (i:=0) [_,_,_,_,_,_,_,_,_,_,_,_] Z tyS_impl_Sender Z Z Z Z<|rw_storeN (i:=1) [_,_,_,_,_,_,_,_,_,_,_,_] [_,_,_,_,_,_,_,_,_,_,_,_] [_,_,_,_] tyS_impl_Sender.sz Z Z Z Z Z Z Z Z Z<|ND<|?_
 refine gw_FP (pg PR (pg PR (pg PR (pg PR PR)))) (gw_F (F':=(c1_0 ++ (c1_1 ++ (c1_2 ++ (c1_3)))) ++ ([])) (by simp only [aN]) ?_)
 refine ret_cn (c1_0 ++ (c1_1 ++ (c1_2 ++ (c1_3)))) Tryz.func186 (res1 Tryz.func186 Z (rv_s (i:=1) [_,_,_,_,_,_,_,_,_,_,_,_] tyS_impl_Sender Z Z Z Z)) ?_ ?_
 ·refine ⟨_,_,Z,owSender_mk h1_0 h1_1 h1_2 h1_3,?_⟩
  exact ⟨hF.p,hF.f,hF.a,hF.hp,hF.hf,hF.ha,hF.e0,hF.eK,hF.c⟩
 ·exact (List.sublist_append_left _ _).trans (List.sublist_append_right _ _)
end Go.Proofs.YtbhnekiclbfmgaaGreat
