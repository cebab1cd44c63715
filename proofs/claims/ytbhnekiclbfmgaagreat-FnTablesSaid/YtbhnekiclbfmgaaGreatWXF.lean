/- Walks: draws. -/
import Derived.Test.YtbhnekiclbfmgaaGreatWXa
import Derived.Test.YtbhnekiclbfmgaaGreatWXd
import Derived.Test.YtbhnekiclbfmgaaGreatWXs
import Derived.Test.YtbhnekiclbfmgaaGreatWXv
import Derived.Test.YtbhnekiclbfmgaaGreatWXA
import Derived.Test.YtbhnekiclbfmgaaGreatFactsX
namespace Go.Proofs.YtbhnekiclbfmgaaGreat
open SL Go.RowKit
theorem spec_DefaultConf (w : World) : CV Tryz.prog 26 [] w (.agg defaultConf.cells.toArray) := by
 refine cv_of Tryz.func26 Z Z Z<|SQ<|RG<|AL Z tyZ_impl_Conf<|fun b1=>ND<|SQ<|RG<|rw_build [_,_,_,_,_,_,_,_] Z tyB_impl_Conf tyZ_impl_Conf Z Z<|ST (i:=0) [_,_,_,_,_,_,_,_] [_,_,_,_,_,_,_,_] tyS_impl_Conf.sz Z Z Z Z Z Z Z Z<|ND<|ret_cv Tryz.func26 (res1 Tryz.func26 Z (rv_s (i:=0) [_,_,_,_,_,_,_,_] tyS_impl_Conf Z Z Z Z))<|?_
 rfl
theorem spec_l15Conf {w : World} {b cp i : Nat} {A : Option Addr} {l : List UInt8} {h : Int} (hr : Rdb byC w A l b) (hi : i ≤ l.length) (hin : ∀ c ∈ [cur b A l.length cp i h], c.In w) (hnd : ([cur b A l.length cp i h].map Ck.b).Nodup) : CH Tryz.prog 109 [.pointer (some ⟨b, 0, none⟩)] w [cur b A l.length cp i h] (Drew (fun p : Conf => Value.agg p.cells.toArray) (fun p => isConf p = true) b A l.length cp []) := by
 refine ch_of hin hnd Tryz.func109 Z Z Z<|SQ<|RG<|AL Z tyZ_impl_Conf<|fun b1=>ND<|SQ<|RG<|CV1 Z fun_spec_DefaultConf Z (fun w hs=>spec_DefaultConf w)<|AL Z tyZ_impl_Conf<|fun b2=>ST (i:=0) [_,_,_,_,_,_,_,_] [_,_,_,_,_,_,_,_] tyS_impl_Conf.sz Z Z Z Z Z Z Z Z<|ND<|SQ<|SQ<|RG<|MV Z Z<|rw_ch (G:=[cur b A l.length cp i h]) (R:=[]) Z fun_spec_l1Below Z ((pg PR PR)) (fun w hs hin hnd=>spec_l1Below (hr.sat hs) hi (n:=3) (by first | decide | omega) (by first | decide | omega) hin hnd)<|fun v1 ch1 how1=>?_
 obtain ⟨x1,i1,k1,rfl,hx1,hi1,rfl⟩:=how1
 refine ND<|BK<|SQ<|RG<|EQ1 Z Z Z<|AS Z Z<|ND<|?_
 refine gw_cond Z (fun h1=>?_) (fun h1=>?_)
 ·refine SQ<|RG<|FA Z tyF_impl_Conf_0 Z<|ST (i:=0) [_] [_,_,_,_,_,_,_,_] tyP_int.sz Z Z Z Z Z Z Z Z<|ND<|SQ<|RG<|FA Z tyF_impl_Conf_1 Z<|ST (i:=0) [_] [_,_,_,_,_,_,_,_] tyP_int.sz Z Z Z Z Z Z Z Z<|ND<|SQ<|RG<|FA Z tyF_impl_Conf_3 Z<|ST (i:=0) [_] [_,_,_,_,_,_,_,_] tyP_int.sz Z Z Z Z Z Z Z Z<|ND<|RG<|FA Z tyF_impl_Conf_5 Z<|ST (i:=0) [_] [_,_,_,_,_,_,_,_] tyP_int.sz Z Z Z Z Z Z Z Z<|?_
  refine ND<|IB<|SQ<|RG<|LS (i:=0) [_,_,_,_,_,_,_,_] Z tyS_impl_Conf Z Z Z Z<|ST (i:=1) [_,_,_,_,_,_,_,_] [_,_,_,_,_,_,_,_] tyS_impl_Conf.sz Z Z Z Z Z Z Z Z<|ND<|?_
  refine ret_ch [cur b A l.length cp i1 k1] Tryz.func109 (res1 Tryz.func109 Z (rv_s (i:=1) [_,_,_,_,_,_,_,_] tyS_impl_Conf Z Z Z Z)) ?_ ?_
  ·refine ⟨_,_,_,conf_val _ _ _ _ _ _ _ _,?_,hi1,Z⟩
   decide
  ·exact List.singleton_sublist.2 (by simp)
 refine SQ<|RG<|EQ1 Z Z Z<|AS Z Z<|ND<|?_
 refine gw_cond Z (fun h2=>?_) (fun h2=>?_)
 ·refine SQ<|RG<|FA Z tyF_impl_Conf_5 Z<|ST (i:=0) [_] [_,_,_,_,_,_,_,_] tyP_int.sz Z Z Z Z Z Z Z Z<|ND<|SQ<|RG<|FA Z tyF_impl_Conf_6 Z<|ST (i:=0) [_] [_,_,_,_,_,_,_,_] tyP_int.sz Z Z Z Z Z Z Z Z<|ND<|RG<|FA Z tyF_impl_Conf_7 Z<|ST (i:=0) [_] [_,_,_,_,_,_,_,_] tyP_int.sz Z Z Z Z Z Z Z Z<|ND<|IB<|SQ<|RG<|LS (i:=0) [_,_,_,_,_,_,_,_] Z tyS_impl_Conf Z Z Z Z<|ST (i:=1) [_,_,_,_,_,_,_,_] [_,_,_,_,_,_,_,_] tyS_impl_Conf.sz Z Z Z Z Z Z Z Z<|?_
  refine ND<|?_
  refine ret_ch [cur b A l.length cp i1 k1] Tryz.func109 (res1 Tryz.func109 Z (rv_s (i:=1) [_,_,_,_,_,_,_,_] tyS_impl_Conf Z Z Z Z)) ?_ ?_
  ·refine ⟨_,_,_,conf_val _ _ _ _ _ _ _ _,?_,hi1,Z⟩
   decide
  ·exact List.singleton_sublist.2 (by simp)
 refine SK<|IB<|SQ<|RG<|LS (i:=0) [_,_,_,_,_,_,_,_] Z tyS_impl_Conf Z Z Z Z<|ST (i:=1) [_,_,_,_,_,_,_,_] [_,_,_,_,_,_,_,_] tyS_impl_Conf.sz Z Z Z Z Z Z Z Z<|ND<|?_
 refine ret_ch [cur b A l.length cp i1 k1] Tryz.func109 (res1 Tryz.func109 Z (rv_s (i:=1) [_,_,_,_,_,_,_,_] tyS_impl_Conf Z Z Z Z)) ?_ ?_
 ·refine ⟨_,_,_,conf_val _ _ _ _ _ _ _ _,?_,hi1,Z⟩
  decide
 ·exact List.singleton_sublist.2 (by simp)
end Go.Proofs.YtbhnekiclbfmgaaGreat
namespace Go.Proofs.YtbhnekiclbfmgaaGreat
open SL Go.RowKit
set_option maxRecDepth 20000 in
theorem spec_IsConf (c : Conf) (w : World) : CV Tryz.prog 23 [.agg c.cells.toArray] w (.bool (isConf c)) := by
 refine cv_of Tryz.func23 Z Z Z<|SQ<|RG<|BX [_,_,_,_,_,_,_,_] Z Z Z<|fun b1=>AS Z Z<|ND<|SQ<|RG<|FA Z tyF_impl_Conf_0 Z<|LD (i:=0) Z tyP_int Z Z Z<|CV1 Z fun_spec_l8Power Z (fun w hs=>spec_l8Power _ w)<|MV Z Z<|?_
 refine rw_caseL (j:=6) Z (fun h1=>?_) (fun h1=>?_)
 ·refine ON Z Z Z<|FA Z tyF_impl_Conf_2 Z<|ON Z Z Z<|LD (i:=0) Z tyP_int Z Z Z<|ON Z Z Z<|CV1 Z fun_spec_l1In Z (fun w hs=>spec_l1In _ _ _ w)<|PT Z Z Z Z<|MV Z Z<|?_
  refine rw_caseL (j:=11) Z (fun h2=>?_) (fun h2=>?_)
  ·refine ON Z Z Z<|FA Z tyF_impl_Conf_1 Z<|ON Z Z Z<|LD (i:=0) Z tyP_int Z Z Z<|ON Z Z Z<|FA Z tyF_impl_Conf_2 Z<|ON Z Z Z<|LD (i:=0) Z tyP_int Z Z Z<|ON Z Z Z<|CV1 Z fun_spec_l1In Z (fun w hs=>spec_l1In _ _ _ w)<|PT Z Z Z Z<|MV Z Z<|?_
   refine rw_caseL (j:=18) Z (fun h3=>?_) (fun h3=>?_)
   ·refine ON Z Z Z<|FA Z tyF_impl_Conf_4 Z<|ON Z Z Z<|LD (i:=0) Z tyP_int Z Z Z<|ON Z Z Z<|CV1 Z fun_spec_l1In Z (fun w hs=>spec_l1In _ _ _ w)<|PT Z Z Z Z<|MV Z Z<|?_
    refine rw_caseL (j:=23) Z (fun h4=>?_) (fun h4=>?_)
    ·refine ON Z Z Z<|FA Z tyF_impl_Conf_3 Z<|ON Z Z Z<|LD (i:=0) Z tyP_int Z Z Z<|ON Z Z Z<|FA Z tyF_impl_Conf_4 Z<|ON Z Z Z<|LD (i:=0) Z tyP_int Z Z Z<|ON Z Z Z<|CV1 Z fun_spec_l1In Z (fun w hs=>spec_l1In _ _ _ w)<|PT Z Z Z Z<|MV Z Z<|?_
     refine rw_caseL (j:=30) Z (fun h5=>?_) (fun h5=>?_)
     ·refine ON Z Z Z<|FA Z tyF_impl_Conf_5 Z<|ON Z Z Z<|LD (i:=0) Z tyP_int Z Z Z<|ON Z Z Z<|CV1 Z fun_spec_l1In Z (fun w hs=>spec_l1In _ _ _ w)<|PT Z Z Z Z<|MV Z Z<|?_
      refine rw_caseL (j:=35) Z (fun h6=>?_) (fun h6=>?_)
      ·refine ON Z Z Z<|FA Z tyF_impl_Conf_6 Z<|ON Z Z Z<|LD (i:=0) Z tyP_int Z Z Z<|ON Z Z Z<|CV1 Z fun_spec_l1In Z (fun w hs=>spec_l1In _ _ _ w)<|PT Z Z Z Z<|MV Z Z<|?_
       refine rw_caseL (j:=40) Z (fun h7=>?_) (fun h7=>?_)
       ·refine ON Z Z Z<|FA Z tyF_impl_Conf_7 Z<|ON Z Z Z<|LD (i:=0) Z tyP_int Z Z Z<|ON Z Z Z<|CV1 Z fun_spec_l1In Z (fun w hs=>spec_l1In _ _ _ w)<|PT Z Z Z Z<|AS Z Z<|ND<|RT Tryz.func23 Z Z<|?_
        simp [isConf,h1,h2,h3,h4,h5,h6,h7]
       refine SKP Z<|PF Z Z Z Z<|AS Z Z<|ND<|RT Tryz.func23 Z Z<|?_
       simp [isConf,h1,h2,h3,h4,h5,h6,h7]
      refine SKP Z<|PF Z Z Z Z<|MV Z Z<|SKP Z<|PF Z Z Z Z<|AS Z Z<|ND<|RT Tryz.func23 Z Z<|?_
      simp [isConf,h1,h2,h3,h4,h5,h6]
     refine SKP Z<|PF Z Z Z Z<|MV Z Z<|SKP Z<|PF Z Z Z Z<|MV Z Z<|SKP Z<|PF Z Z Z Z<|AS Z Z<|ND<|RT Tryz.func23 Z Z<|?_
     simp [isConf,h1,h2,h3,h4,h5]
    refine SKP Z<|PF Z Z Z Z<|MV Z Z<|SKP Z<|PF Z Z Z Z<|MV Z Z<|SKP Z<|PF Z Z Z Z<|MV Z Z<|SKP Z<|PF Z Z Z Z<|AS Z Z<|ND<|RT Tryz.func23 Z Z<|?_
    simp [isConf,h1,h2,h3,h4]
   refine SKP Z<|PF Z Z Z Z<|MV Z Z<|SKP Z<|PF Z Z Z Z<|MV Z Z<|SKP Z<|PF Z Z Z Z<|MV Z Z<|SKP Z<|PF Z Z Z Z<|MV Z Z<|SKP Z<|PF Z Z Z Z<|AS Z Z<|ND<|RT Tryz.func23 Z Z<|?_
   simp [isConf,h1,h2,h3]
  refine SKP Z<|PF Z Z Z Z<|MV Z Z<|SKP Z<|PF Z Z Z Z<|MV Z Z<|SKP Z<|PF Z Z Z Z<|MV Z Z<|SKP Z<|PF Z Z Z Z<|MV Z Z<|SKP Z<|PF Z Z Z Z<|MV Z Z<|SKP Z<|PF Z Z Z Z<|AS Z Z<|ND<|RT Tryz.func23 Z Z<|?_
  simp [isConf,h1,h2]
 refine SKP Z<|PF Z Z Z Z<|MV Z Z<|SKP Z<|PF Z Z Z Z<|MV Z Z<|SKP Z<|PF Z Z Z Z<|MV Z Z<|SKP Z<|PF Z Z Z Z<|MV Z Z<|SKP Z<|PF Z Z Z Z<|MV Z Z<|SKP Z<|PF Z Z Z Z<|MV Z Z<|SKP Z<|PF Z Z Z Z<|AS Z Z<|ND<|RT Tryz.func23 Z Z<|?_
 simp [isConf,h1]
theorem spec_DefaultPriority (w : World) : CV Tryz.prog 61 [] w (.agg defaultPriority.cells.toArray) := by
 refine cv_of Tryz.func61 Z Z Z<|SQ<|RG<|AL Z tyZ_impl_Priority<|fun b1=>ND<|SQ<|RG<|rw_build [_,_] Z tyB_impl_Priority tyZ_impl_Priority Z Z<|ST (i:=0) [_,_] [_,_] tyS_impl_Priority.sz Z Z Z Z Z Z Z Z<|ND<|ret_cv Tryz.func61 (res1 Tryz.func61 Z (rv_s (i:=0) [_,_] tyS_impl_Priority Z Z Z Z))<|?_
 rfl
theorem spec_IsUniId (id : Int) (w : World) : CV Tryz.prog 113 [.int .i64 id] w (.bool (isUni id)) := by
 refine cv_of Tryz.func113 Z Z Z<|SQ<|RG<|AS Z Z<|ND<|SQ<|RG<|MV Z Z<|CV1 Z fun_spec_l4Quic Z (fun w hs=>spec_l4Quic _ w)<|MV Z Z<|?_
 refine rw_caseL (j:=5) Z (fun h1=>?_) (fun h1=>?_)
 ·refine ON Z Z Z<|MV Z Z<|ON Z Z Z<|rw_and Z Z Z<|ON Z Z Z<|EQ1 Z Z Z<|PT Z Z Z Z<|AS Z Z<|ND<|RT Tryz.func113 Z Z<|?_
  simp [isUni,h1]
 refine SKP Z<|PF Z Z Z Z<|AS Z Z<|ND<|RT Tryz.func113 Z Z<|?_
 simp [isUni,h1]
theorem spec_IsServerId (id : Int) (w : World) : CV Tryz.prog 152 [.int .i64 id] w (.bool (isServerId id)) := by
 refine cv_of Tryz.func152 Z Z Z<|SQ<|RG<|AS Z Z<|ND<|SQ<|RG<|MV Z Z<|CV1 Z fun_spec_l4Quic Z (fun w hs=>spec_l4Quic _ w)<|MV Z Z<|?_
 refine rw_caseL (j:=5) Z (fun h1=>?_) (fun h1=>?_)
 ·refine ON Z Z Z<|MV Z Z<|ON Z Z Z<|rw_and Z Z Z<|ON Z Z Z<|EQ1 Z Z Z<|PT Z Z Z Z<|AS Z Z<|ND<|RT Tryz.func152 Z Z<|?_
  simp [isServerId,h1]
 refine SKP Z<|PF Z Z Z Z<|AS Z Z<|ND<|RT Tryz.func152 Z Z<|?_
 simp [isServerId,h1]
theorem spec_IsOwn (s : Bool) (id : Int) (w : World) : CV Tryz.prog 114 [.bool s, .int .i64 id] w (.bool (isOwn s id)) := by
 refine cv_of Tryz.func114 Z Z Z<|SQ<|RG<|AS Z Z<|ND<|SQ<|RG<|MV Z Z<|CV1 Z fun_spec_l4Quic Z (fun w hs=>spec_l4Quic _ w)<|MV Z Z<|?_
 refine rw_caseL (j:=7) Z (fun h1=>?_) (fun h1=>?_)
 ·refine ON Z Z Z<|MV Z Z<|ON Z Z Z<|CV1 Z fun_spec_IsServerId Z (fun w hs=>spec_IsServerId _ w)<|ON Z Z Z<|MV Z Z<|ON Z Z Z<|rw_eqlB (by kernel_rfl) Z Z Z<|PT Z Z Z Z<|AS Z Z<|ND<|RT Tryz.func114 Z Z<|?_
  simp [isOwn,h1]
 refine SKP Z<|PF Z Z Z Z<|AS Z Z<|ND<|RT Tryz.func114 Z Z<|?_
 simp [isOwn,h1]
theorem spec_CanSendOn (s : Bool) (id : Int) (w : World) : CV Tryz.prog 63 [.bool s, .int .i64 id] w (.bool (canSendOn s id)) := by
 refine cv_of Tryz.func63 Z Z Z<|SQ<|RG<|AS Z Z<|ND<|SQ<|RG<|MV Z Z<|CV1 Z fun_spec_l4Quic Z (fun w hs=>spec_l4Quic _ w)<|MV Z Z<|?_
 refine rw_caseL (j:=7) Z (fun h1=>?_) (fun h1=>?_)
 ·refine ON Z Z Z<|MV Z Z<|ON Z Z Z<|CV1 Z fun_spec_IsUniId Z (fun w hs=>spec_IsUniId _ w)<|ON Z Z Z<|NT Z Z<|ON Z Z Z<|MV Z Z<|?_
  refine rw_caseN (j:=11) Z (fun h2=>?_) (fun h2=>?_)
  ·refine SKP Z<|ON Z Z Z<|PT Z Z Z Z<|PT Z Z Z Z<|AS Z Z<|ND<|RT Tryz.func63 Z Z<|?_
   simp [canSendOn,h1,h2]
  refine ON Z Z Z<|MV Z Z<|ON Z Z Z<|MV Z Z<|ON Z Z Z<|CV1 Z fun_spec_IsOwn Z (fun w hs=>spec_IsOwn _ _ w)<|ON Z Z Z<|PF Z Z Z Z<|PT Z Z Z Z<|AS Z Z<|ND<|RT Tryz.func63 Z Z<|?_
  simp [canSendOn,h1,h2]
 refine SKP Z<|PF Z Z Z Z<|AS Z Z<|ND<|RT Tryz.func63 Z Z<|?_
 simp [canSendOn,h1]
theorem spec_CanReceiveOn (s : Bool) (id : Int) (w : World) : CV Tryz.prog 64 [.bool s, .int .i64 id] w (.bool (canRecvOn s id)) := by
 refine cv_of Tryz.func64 Z Z Z<|SQ<|RG<|AS Z Z<|ND<|SQ<|RG<|MV Z Z<|CV1 Z fun_spec_l4Quic Z (fun w hs=>spec_l4Quic _ w)<|MV Z Z<|?_
 refine rw_caseL (j:=7) Z (fun h1=>?_) (fun h1=>?_)
 ·refine ON Z Z Z<|MV Z Z<|ON Z Z Z<|CV1 Z fun_spec_IsUniId Z (fun w hs=>spec_IsUniId _ w)<|ON Z Z Z<|NT Z Z<|ON Z Z Z<|MV Z Z<|?_
  refine rw_caseN (j:=11) Z (fun h2=>?_) (fun h2=>?_)
  ·refine SKP Z<|ON Z Z Z<|PT Z Z Z Z<|PT Z Z Z Z<|AS Z Z<|ND<|RT Tryz.func64 Z Z<|?_
   simp [canRecvOn,h1,h2]
  refine ON Z Z Z<|MV Z Z<|ON Z Z Z<|MV Z Z<|ON Z Z Z<|CV1 Z fun_spec_IsOwn Z (fun w hs=>spec_IsOwn _ _ w)<|ON Z Z Z<|NT Z Z<|ON Z Z Z<|PF Z Z Z Z<|PT Z Z Z Z<|AS Z Z<|ND<|RT Tryz.func64 Z Z<|?_
  simp [canRecvOn,h1,h2]
 refine SKP Z<|PF Z Z Z Z<|AS Z Z<|ND<|RT Tryz.func64 Z Z<|?_
 simp [canRecvOn,h1]
theorem spec_NewCredit (n : Int) (w : World) : CV Tryz.prog 66 [.int .i64 n] w (.tuple #[.agg (newCredit n).cells.toArray, .bool (isQuic n)]) := by
 refine cv_of Tryz.func66 Z Z Z<|SQ<|RG<|AL Z tyZ_impl_Credit<|fun b1=>AS Z Z<|ND<|SQ<|SQ<|RG<|MV Z Z<|CV1 Z fun_spec_l4Quic Z (fun w hs=>spec_l4Quic _ w)<|NT Z Z<|ND<|?_
 refine gw_condN Z (fun h1=>?_) (fun h1=>?_)
 ·refine SQ<|RG<|rw_build [_,_,_,_] Z tyB_impl_Credit tyZ_impl_Credit Z Z<|ST (i:=0) [_,_,_,_] [_,_,_,_] tyS_impl_Credit.sz Z Z Z Z Z Z Z Z<|AS Z Z<|ND<|ret_cv Tryz.func66 (res2 Tryz.func66 Z (rv_s (i:=0) [_,_,_,_] tyS_impl_Credit Z Z Z Z) (rv_tmp Z))<|?_
  simp [newCredit,Credit.cells,h1]
 refine SK<|SQ<|RG<|MV Z Z<|rw_build [_,_,_,_] Z tyB_impl_Credit tyZ_impl_Credit Z Z<|ST (i:=0) [_,_,_,_] [_,_,_,_] tyS_impl_Credit.sz Z Z Z Z Z Z Z Z<|AS Z Z<|ND<|ret_cv Tryz.func66 (res2 Tryz.func66 Z (rv_s (i:=0) [_,_,_,_] tyS_impl_Credit Z Z Z Z) (rv_tmp Z))<|?_
 simp [newCredit,Credit.cells,h1]
theorem spec_NewWindow (n m : Int) (w : World) : CV Tryz.prog 67 [.int .i64 n, .int .i64 m] w (.tuple #[.agg (newWindow n m).cells.toArray, .bool (within m 1 4096 && within n 1 m)]) := by
 refine cv_of Tryz.func67 Z Z Z<|SQ<|RG<|AL Z tyZ_impl_Window<|fun b1=>AS Z Z<|ND<|SQ<|SQ<|RG<|MV Z Z<|CV1 Z fun_spec_l1In Z (fun w hs=>spec_l1In _ _ _ w)<|NT Z Z<|MV Z Z<|?_
 refine rw_caseN (j:=9) Z (fun h1=>?_) (fun h1=>?_)
 ·refine SKP Z<|PT Z Z Z Z<|ND<|CT Z Z<|SQ<|RG<|rw_build [_,_,_,_,_,_] Z tyB_impl_Window tyZ_impl_Window Z Z<|ST (i:=0) [_,_,_,_,_,_] [_,_,_,_,_,_] tyS_impl_Window.sz Z Z Z Z Z Z Z Z<|AS Z Z<|ND<|ret_cv Tryz.func67 (res2 Tryz.func67 Z (rv_s (i:=0) [_,_,_,_,_,_] tyS_impl_Window Z Z Z Z) (rv_tmp Z))<|?_
  simp [newWindow,Window.cells,h1]
 refine ON Z Z Z<|MV Z Z<|ON Z Z Z<|MV Z Z<|ON Z Z Z<|CV1 Z fun_spec_l1In Z (fun w hs=>spec_l1In _ _ _ w)<|ON Z Z Z<|NT Z Z<|PF Z Z Z Z<|ND<|?_
 refine gw_condN Z (fun h2=>?_) (fun h2=>?_)
 ·refine SQ<|RG<|rw_build [_,_,_,_,_,_] Z tyB_impl_Window tyZ_impl_Window Z Z<|ST (i:=0) [_,_,_,_,_,_] [_,_,_,_,_,_] tyS_impl_Window.sz Z Z Z Z Z Z Z Z<|AS Z Z<|ND<|ret_cv Tryz.func67 (res2 Tryz.func67 Z (rv_s (i:=0) [_,_,_,_,_,_] tyS_impl_Window Z Z Z Z) (rv_tmp Z))<|?_
  simp [newWindow,Window.cells,h1,h2]
 refine SK<|SQ<|RG<|MV Z Z<|MV Z Z<|MV Z Z<|rw_build [_,_,_,_,_,_] Z tyB_impl_Window tyZ_impl_Window Z Z<|ST (i:=0) [_,_,_,_,_,_] [_,_,_,_,_,_] tyS_impl_Window.sz Z Z Z Z Z Z Z Z<|AS Z Z<|ND<|ret_cv Tryz.func67 (res2 Tryz.func67 Z (rv_s (i:=0) [_,_,_,_,_,_] tyS_impl_Window Z Z Z Z) (rv_tmp Z))<|?_
 simp [newWindow,Window.cells,h1,h2]
theorem spec_NewStream_T {w : World} (s : Bool) (id : Int) (o p : Conf) (n : Nat) (hq : isQuic id = true) (hc1 : isConf o = true) (hc2 : isConf p = true) (hn : o.ring = (n : Int)) (hr : isRingSize (n : Int) = true) (h64 : n ≤ 64) : CN Tryz.prog 8 [.bool s, .int .i64 id, .agg o.cells.toArray, .agg p.cells.toArray] w (fun v ch => ∃ sv, v = .tuple #[.agg (Stream.row (newStream s id o p n) sv (.slice none 0 0) (.slice none 0 0) (.slice none 0 0) (.slice none 0 0)).toArray, .bool true] ∧ OwS 3 1 (PlO intC) sv (List.replicate n 0) ch) := by
 refine cn_of Tryz.func8 Z Z Z<|SQ<|RG<|BX [_,_,_,_,_,_,_,_] Z Z Z<|fun b1=>BX [_,_,_,_,_,_,_,_] Z Z Z<|fun b2=>AL Z tyZ_impl_Stream<|fun b3=>AS Z Z<|ND<|SQ<|SQ<|RG<|MV Z Z<|CV1 Z fun_spec_l4Quic Z (fun w hs=>spec_l4Quic _ w)<|NT Z Z<|MV Z Z<|rw_lit (j:=20) Z (not_T hq)<|ON Z Z Z<|LS (i:=2) [_,_,_,_,_,_,_,_] Z tyS_impl_Conf Z Z Z Z<|ON Z Z Z<|CV1 Z fun_spec_IsConf Z (fun w hs=>spec_IsConf _ w)<|?_
 refine ON Z Z Z<|NT Z Z<|PF Z Z Z Z<|MV Z Z<|rw_lit (j:=25) Z (not_T hc1)<|ON Z Z Z<|LS (i:=1) [_,_,_,_,_,_,_,_] Z tyS_impl_Conf Z Z Z Z<|ON Z Z Z<|CV1 Z fun_spec_IsConf Z (fun w hs=>spec_IsConf _ w)<|ON Z Z Z<|NT Z Z<|PF Z Z Z Z<|ND<|CF Z (not_T hc2)<|SK<|SQ<|RG<|MV Z Z<|CV1 Z fun_spec_DefaultPriority Z (fun w hs=>spec_DefaultPriority w)<|CV1 Z fun_spec_NewReceiver Z (fun w hs=>spec_NewReceiver w)<|?_
 refine MV Z Z<|MV Z Z<|CV1 Z fun_spec_CanSendOn Z (fun w hs=>spec_CanSendOn _ _ w)<|MV Z Z<|MV Z Z<|CV1 Z fun_spec_CanReceiveOn Z (fun w hs=>spec_CanReceiveOn _ _ w)<|rw_build [_,_,_,_,_,_,_,_,_,_,_,_,_,_,_,_,_,_,_,_,_,_,_,_,_,_,_,_,_,_,_,_,_,_,_,_,_,_,_] Z tyB_impl_Stream tyZ_impl_Stream Z Z<|AL Z tyZ_impl_Stream<|fun b4=>rw_storeN (i:=0) [_,_,_,_,_,_,_,_,_,_,_,_,_,_,_,_,_,_,_,_,_,_,_,_,_,_,_,_,_,_,_,_,_,_,_,_,_,_,_] [_,_,_,_,_,_,_,_,_,_,_,_,_,_,_,_,_,_,_,_,_,_,_,_,_,_,_,_,_,_,_,_,_,_,_,_,_,_,_] [_,_,_,_] tyS_impl_Stream.sz Z Z Z Z Z Z Z Z Z<|?_
 refine ND<|SQ<|RG<|FA Z tyF_impl_Conf_0 Z<|LD (i:=3) Z tyP_int Z Z Z<|CN1 Z fun_spec_NewSender Z (fun w hs=>spec_NewSender _ n hn hr h64)<|fun vv1 ch1 how1=>?_
 obtain ⟨sv1,rfl,hO1⟩:=how1
 obtain ⟨R1,rc1,rfl,hR1,hrd1⟩:=hO1.shape eInt
 refine MV Z Z<|XT Z Z Z<|XT Z Z Z<|AL Z tyZ_impl_Sender<|fun b5=>rw_storeN (i:=0) [_,_,_,_,_,_,_,_,_,_,_,_] [_,_,_,_,_,_,_,_,_,_,_,_] [_,_,_,_,_] tyS_impl_Sender.sz Z Z Z Z Z Z Z Z Z<|AS Z Z<|ND<|SQ<|RG<|LS (i:=0) [_,_,_,_,_,_,_,_,_,_,_,_] Z tyS_impl_Sender Z Z Z Z<|FA Z tyF_impl_Stream_1 Z<|rw_storeN (i:=1) [_,_,_,_,_,_,_,_,_,_,_,_] [_,_,_,_,_,_,_,_,_,_,_,_,_,_,_,_,_,_,_,_,_,_,_,_,_,_,_,_,_,_,_,_,_,_,_,_,_,_,_] [_,_,_,_,_] tyS_impl_Sender.sz Z Z Z Z Z Z Z Z Z<|?_
 refine ND<|SQ<|RG<|FA Z tyF_impl_Conf_1 Z<|LD (i:=3) Z tyP_int Z Z Z<|CV1 Z fun_spec_NewCredit Z (fun w hs=>spec_NewCredit _ w)<|MV Z Z<|XT Z Z Z<|XT Z Z Z<|AL Z tyZ_impl_Credit<|fun b6=>ST (i:=0) [_,_,_,_] [_,_,_,_] tyS_impl_Credit.sz Z Z Z Z Z Z Z Z<|AS Z Z<|ND<|SQ<|RG<|LS (i:=0) [_,_,_,_] Z tyS_impl_Credit Z Z Z Z<|FA Z tyF_impl_Stream_2 Z<|rw_storeN (i:=2) [_,_,_,_] [_,_,_,_,_,_,_,_,_,_,_,_,_,_,_,_,_,_,_,_,_,_,_,_,_,_,_,_,_,_,_,_,_,_,_,_,_,_,_] [_,_,_,_,_,_] tyS_impl_Credit.sz Z Z Z Z Z Z Z Z Z<|?_
 refine ND<|SQ<|RG<|FA Z tyF_impl_Conf_1 Z<|LD (i:=5) Z tyP_int Z Z Z<|FA Z tyF_impl_Conf_2 Z<|LD (i:=5) Z tyP_int Z Z Z<|CV1 Z fun_spec_NewWindow Z (fun w hs=>spec_NewWindow _ _ w)<|MV Z Z<|XT Z Z Z<|XT Z Z Z<|AL Z tyZ_impl_Window<|fun b7=>ST (i:=0) [_,_,_,_,_,_] [_,_,_,_,_,_] tyS_impl_Window.sz Z Z Z Z Z Z Z Z<|AS Z Z<|ND<|SQ<|RG<|LS (i:=0) [_,_,_,_,_,_] Z tyS_impl_Window Z Z Z Z<|?_
 refine FA Z tyF_impl_Stream_4 Z<|rw_storeN (i:=3) [_,_,_,_,_,_] [_,_,_,_,_,_,_,_,_,_,_,_,_,_,_,_,_,_,_,_,_,_,_,_,_,_,_,_,_,_,_,_,_,_,_,_,_,_,_] [_,_,_,_,_,_,_] tyS_impl_Window.sz Z Z Z Z Z Z Z Z Z<|ND<|SQ<|RG<|LS (i:=3) [_,_,_,_,_,_,_,_,_,_,_,_,_,_,_,_,_,_,_,_,_,_,_,_,_,_,_,_,_,_,_,_,_,_,_,_,_,_,_] Z tyS_impl_Stream Z Z Z Z<|rw_storeN (i:=4) [_,_,_,_,_,_,_,_,_,_,_,_,_,_,_,_,_,_,_,_,_,_,_,_,_,_,_,_,_,_,_,_,_,_,_,_,_,_,_] [_,_,_,_,_,_,_,_,_,_,_,_,_,_,_,_,_,_,_,_,_,_,_,_,_,_,_,_,_,_,_,_,_,_,_,_,_,_,_] [_,_,_,_,_,_,_] tyS_impl_Stream.sz Z Z Z Z Z Z Z Z Z<|?_
 refine AS Z Z<|ND<|?_
 refine ret_cn ch1 Tryz.func8 (res2 Tryz.func8 Z (rv_s (i:=4) [_,_,_,_,_,_,_,_,_,_,_,_,_,_,_,_,_,_,_,_,_,_,_,_,_,_,_,_,_,_,_,_,_,_,_,_,_,_,_] tyS_impl_Stream Z Z Z Z) (rv_tmp Z)) ?_ ?_
 ·exact ⟨_,rfl,hO1⟩
 ·exact (List.sublist_append_left _ _).trans (List.sublist_append_right _ _)
theorem spec_NewStream_F (s : Bool) (id : Int) (o p : Conf) (hc : (isQuic id && isConf o && isConf p) = false) (w : World) : CV Tryz.prog 8 [.bool s, .int .i64 id, .agg o.cells.toArray, .agg p.cells.toArray] w (.tuple #[.agg (Stream.row zeroStream (.slice none 0 0) (.slice none 0 0) (.slice none 0 0) (.slice none 0 0) (.slice none 0 0)).toArray, .bool false]) := by
 refine cv_of Tryz.func8 Z Z Z<|SQ<|RG<|BX [_,_,_,_,_,_,_,_] Z Z Z<|fun b1=>BX [_,_,_,_,_,_,_,_] Z Z Z<|fun b2=>AL Z tyZ_impl_Stream<|fun b3=>AS Z Z<|ND<|SQ<|SQ<|RG<|MV Z Z<|CV1 Z fun_spec_l4Quic Z (fun w hs=>spec_l4Quic _ w)<|NT Z Z<|MV Z Z<|?_
 refine rw_caseN (j:=20) Z (fun h1=>?_) (fun h1=>?_)
 ·refine SKP Z<|PT Z Z Z Z<|MV Z Z<|SKP Z<|PT Z Z Z Z<|ND<|CT Z Z<|SQ<|RG<|rw_build [_,_,_,_,_,_,_,_,_,_,_,_,_,_,_,_,_,_,_,_,_,_,_,_,_,_,_,_,_,_,_,_,_,_,_,_,_,_,_] Z tyB_impl_Stream tyZ_impl_Stream Z Z<|rw_storeN (i:=0) [_,_,_,_,_,_,_,_,_,_,_,_,_,_,_,_,_,_,_,_,_,_,_,_,_,_,_,_,_,_,_,_,_,_,_,_,_,_,_] [_,_,_,_,_,_,_,_,_,_,_,_,_,_,_,_,_,_,_,_,_,_,_,_,_,_,_,_,_,_,_,_,_,_,_,_,_,_,_] [_,_,_] tyS_impl_Stream.sz Z Z Z Z Z Z Z Z Z<|?_
  refine AS Z Z<|ND<|ret_cv Tryz.func8 (res2 Tryz.func8 Z (rv_s (i:=0) [_,_,_,_,_,_,_,_,_,_,_,_,_,_,_,_,_,_,_,_,_,_,_,_,_,_,_,_,_,_,_,_,_,_,_,_,_,_,_] tyS_impl_Stream Z Z Z Z) (rv_tmp Z))<|?_
  rfl
 refine ON Z Z Z<|LS (i:=2) [_,_,_,_,_,_,_,_] Z tyS_impl_Conf Z Z Z Z<|ON Z Z Z<|CV1 Z fun_spec_IsConf Z (fun w hs=>spec_IsConf _ w)<|ON Z Z Z<|NT Z Z<|PF Z Z Z Z<|MV Z Z<|?_
 refine rw_caseN (j:=25) Z (fun h2=>?_) (fun h2=>?_)
 ·refine SKP Z<|PT Z Z Z Z<|ND<|CT Z Z<|SQ<|RG<|rw_build [_,_,_,_,_,_,_,_,_,_,_,_,_,_,_,_,_,_,_,_,_,_,_,_,_,_,_,_,_,_,_,_,_,_,_,_,_,_,_] Z tyB_impl_Stream tyZ_impl_Stream Z Z<|rw_storeN (i:=0) [_,_,_,_,_,_,_,_,_,_,_,_,_,_,_,_,_,_,_,_,_,_,_,_,_,_,_,_,_,_,_,_,_,_,_,_,_,_,_] [_,_,_,_,_,_,_,_,_,_,_,_,_,_,_,_,_,_,_,_,_,_,_,_,_,_,_,_,_,_,_,_,_,_,_,_,_,_,_] [_,_,_] tyS_impl_Stream.sz Z Z Z Z Z Z Z Z Z<|AS Z Z<|?_
  refine ND<|ret_cv Tryz.func8 (res2 Tryz.func8 Z (rv_s (i:=0) [_,_,_,_,_,_,_,_,_,_,_,_,_,_,_,_,_,_,_,_,_,_,_,_,_,_,_,_,_,_,_,_,_,_,_,_,_,_,_] tyS_impl_Stream Z Z Z Z) (rv_tmp Z))<|?_
  rfl
 refine ON Z Z Z<|LS (i:=1) [_,_,_,_,_,_,_,_] Z tyS_impl_Conf Z Z Z Z<|ON Z Z Z<|CV1 Z fun_spec_IsConf Z (fun w hs=>spec_IsConf _ w)<|ON Z Z Z<|NT Z Z<|PF Z Z Z Z<|ND<|?_
 refine gw_condN Z (fun h3=>?_) (fun h3=>?_)
 ·refine SQ<|RG<|rw_build [_,_,_,_,_,_,_,_,_,_,_,_,_,_,_,_,_,_,_,_,_,_,_,_,_,_,_,_,_,_,_,_,_,_,_,_,_,_,_] Z tyB_impl_Stream tyZ_impl_Stream Z Z<|rw_storeN (i:=0) [_,_,_,_,_,_,_,_,_,_,_,_,_,_,_,_,_,_,_,_,_,_,_,_,_,_,_,_,_,_,_,_,_,_,_,_,_,_,_] [_,_,_,_,_,_,_,_,_,_,_,_,_,_,_,_,_,_,_,_,_,_,_,_,_,_,_,_,_,_,_,_,_,_,_,_,_,_,_] [_,_,_] tyS_impl_Stream.sz Z Z Z Z Z Z Z Z Z<|AS Z Z<|ND<|ret_cv Tryz.func8 (res2 Tryz.func8 Z (rv_s (i:=0) [_,_,_,_,_,_,_,_,_,_,_,_,_,_,_,_,_,_,_,_,_,_,_,_,_,_,_,_,_,_,_,_,_,_,_,_,_,_,_] tyS_impl_Stream Z Z Z Z) (rv_tmp Z))<|?_
  rfl
 refine SK<|SQ<|?_
 exact absurd hc (by simp [h1,h2,h3])
end Go.Proofs.YtbhnekiclbfmgaaGreat
namespace Go.Proofs.YtbhnekiclbfmgaaGreat
open SL Go.RowKit
set_option maxHeartbeats 8000000 in
set_option maxRecDepth 20000 in
theorem spec_l15Stream {w : World} {b cp i : Nat} {A : Option Addr} {l : List UInt8} {h : Int} (hr : Rdb byC w A l b) (hi : i ≤ l.length) (hin : ∀ c ∈ [cur b A l.length cp i h], c.In w) (hnd : ([cur b A l.length cp i h].map Ck.b).Nodup) : CH Tryz.prog 130 [.pointer (some ⟨b, 0, none⟩)] w [cur b A l.length cp i h] (DrewO OwStream FineSt b A l.length cp) := by
 refine ch_of hin hnd Tryz.func130 Z Z Z<|SQ<|RG<|AL Z tyZ_impl_Stream<|fun b1=>ND<|SQ<|RG<|MV Z Z<|rw_ch (G:=[cur b A l.length cp i h]) (R:=[]) Z fun_spec_l1Once Z ((pg PR PR)) (fun w hs hin hnd=>spec_l1Once (hr.sat hs) hi (n:=2) (by first | decide | omega) (by first | decide | omega) hin hnd)<|fun v1 ch1 how1=>?_
 obtain ⟨x1,i1,k1,rfl,hx1,hi1,rfl⟩:=how1
 refine MV Z Z<|rw_ch (G:=[cur b A l.length cp i1 k1]) (R:=[]) Z fun_spec_l1Below Z ((pg PR PR)) (fun w hs hin hnd=>spec_l1Below (hr.sat hs) hi1 (n:=8) (by first | decide | omega) (by first | decide | omega) hin hnd)<|fun v2 ch2 how2=>?_
 obtain ⟨x2,i2,k2,rfl,hx2,hi2,rfl⟩:=how2
 refine MV Z Z<|rw_ch (G:=[cur b A l.length cp i2 k2]) (R:=[]) Z fun_spec_l15Conf Z ((pg PR PR)) (fun w hs hin hnd=>spec_l15Conf (hr.sat hs) hi2 hin hnd)<|fun v3 ch3 how3=>?_
 obtain ⟨x3,i3,k3,rfl,hx3,hi3,rfl⟩:=how3
 refine MV Z Z<|rw_ch (G:=[cur b A l.length cp i3 k3]) (R:=[]) Z fun_spec_l15Conf Z ((pg PR PR)) (fun w hs hin hnd=>spec_l15Conf (hr.sat hs) hi3 hin hnd)<|fun v4 ch4 how4=>?_
 obtain ⟨x4,i4,k4,rfl,hx4,hi4,rfl⟩:=how4
 obtain ⟨nr_,hnr_,hn64_,hnz_⟩:=ring_nat (conf_ring hx3)
 refine CN1 Z fun_spec_NewStream Z (fun w hs=>spec_NewStream_T _ _ x3 x4 nr_ (quic_small hx2) hx3 hx4 hnr_ hnz_ hn64_)<|fun vv5 ch5 how5=>?_
 obtain ⟨sv5,rfl,hO5⟩:=how5
 obtain ⟨R5,rc5,rfl,hR5,hrd5⟩:=hO5.shape eInt
 refine MV Z Z<|XT Z Z Z<|XT Z Z Z<|AL Z tyZ_impl_Stream<|fun b2=>rw_storeN (i:=0) [_,_,_,_,_,_,_,_,_,_,_,_,_,_,_,_,_,_,_,_,_,_,_,_,_,_,_,_,_,_,_,_,_,_,_,_,_,_,_] [_,_,_,_,_,_,_,_,_,_,_,_,_,_,_,_,_,_,_,_,_,_,_,_,_,_,_,_,_,_,_,_,_,_,_,_,_,_,_] [_,_] tyS_impl_Stream.sz Z Z Z Z Z Z Z Z Z<|AS Z Z<|ND<|SQ<|SQ<|RG<|FA Z tyF_impl_Stream_6 Z<|LD (i:=0) Z tyP_bool Z Z Z<|ND<|?_
 refine gw_cond Z (fun h1=>?_) (fun h1=>?_)
 ·refine SQ<|RG<|MV Z Z<|?_
  have hpm7 : (ch5 ++ ([cur b A l.length cp i4 k4] ++ ([]))).Perm ([cur b A l.length cp i4 k4] ++ (ch5 ++ ([]))):=by
   refine List.Perm.trans ((pg (pp PR) PR) : (ch5 ++ ([cur b A l.length cp i4 k4] ++ ([]))).Perm ([cur b A l.length cp i4 k4] ++ (ch5 ++ ([])))) (List.Perm.of_eq ?_)
   simp only [List.cons_append,List.nil_append,List.append_nil]
  refine rw_ch (G:=[cur b A l.length cp i4 k4]) (R:=ch5 ++ ([])) Z fun_spec_l9Sender Z hpm7 (fun w hs hin hnd=>spec_l9Sender (RdbX.own hr.X hs hpm7).b hi4 hin hnd)<|fun v6 ch6 how6=>?_
  obtain ⟨cs6,s6,ch6,i6,k6,rfl,how6,hF6,hi6,rfl⟩:=how6
  obtain ⟨v6_0,v6_1,v6_2,v6_3,c6_0,c6_1,c6_2,c6_3,rfl,h6_0,h6_1,h6_2,h6_3,rfl⟩:=how6
  obtain ⟨R6_0,b6_0,rfl,hR6_0,hrd6_0⟩:=h6_0.shape eInt
  obtain ⟨R6_1,b6_1,rfl,hR6_1,hrd6_1⟩:=h6_1.shape eRange
  obtain ⟨R6_2,b6_2,rfl,hR6_2,hrd6_2⟩:=h6_2.shape eRange
  obtain ⟨R6_3,b6_3,rfl,hR6_3,hrd6_3⟩:=h6_3.shape eRange
  refine rw_F (F':=[cur b A l.length cp i6 k6] ++ (c6_0 ++ (c6_1 ++ (c6_2 ++ (c6_3 ++ (ch5 ++ ([]))))))) (by simp only [aA,nA,aN,cA])<|?_
  obtain ⟨hbf8_0,hbf8_1,hbf8_2,hbf8_3⟩:=FineS.le hF6 (by omega)
  refine FA Z tyF_impl_Stream_1 Z<|rw_storeN (i:=0) [_,_,_,_,_,_,_,_,_,_,_,_] [_,_,_,_,_,_,_,_,_,_,_,_,_,_,_,_,_,_,_,_,_,_,_,_,_,_,_,_,_,_,_,_,_,_,_,_,_,_,_] [_,_] tyS_impl_Sender.sz Z Z Z Z Z Z Z Z Z<|ND<|SQ<|gw_draw' [(0,.detB),(1,.detB),(2,.detB),dd 3,(4,.chg)] [5,6,7,8] mixed Z (FD Z) (ts:=[_,_,_,_]) Z<|dw_detB Z Z (fun _ q=>FA Z tyF_impl_Stream_1 Z q)<|dw_detB Z Z (fun _ q=>FA Z tyF_impl_Sender_7 Z q)<|dw_detB Z Z (fun _ q=>LD (i:=0) Z tyP_int Z Z Z q)<|?_
  refine DM Z Z Z<|dw_chg Z Z (fun _ q=>rw_ch (G:=[cur b A l.length cp i6 k6]) (R:=c6_0 ++ (c6_1 ++ (c6_2 ++ (c6_3 ++ (ch5 ++ ([])))))) Z fun_spec_l1Below Z ((pg PR PR)) (fun w hs hin hnd=>spec_l1Below (hr.sat hs) hi6 (n:=9) (by first | decide | omega) (by first | decide | omega) hin hnd) q)<|fun v9 ch9 how9=>?_
  obtain ⟨x9,i9,k9,rfl,hx9,hi9,rfl⟩:=how9
  refine dw_nil<|rw_add Z Z Z<|FA Z tyF_impl_Stream_2 Z<|FA Z tyF_impl_Credit_0 Z<|rw_storeN (i:=0) [_] [_,_,_,_,_,_,_,_,_,_,_,_,_,_,_,_,_,_,_,_,_,_,_,_,_,_,_,_,_,_,_,_,_,_,_,_,_,_,_] [_,_] tyP_int.sz Z Z Z Z Z Z Z Z Z<|ND<|RG<|FA Z tyF_impl_Stream_1 Z<|FA Z tyF_impl_Sender_7 Z<|LD (i:=0) Z tyP_int Z Z Z<|FA Z tyF_impl_Stream_2 Z<|FA Z tyF_impl_Credit_1 Z<|rw_storeN (i:=0) [_] [_,_,_,_,_,_,_,_,_,_,_,_,_,_,_,_,_,_,_,_,_,_,_,_,_,_,_,_,_,_,_,_,_,_,_,_,_,_,_] [_,_] tyP_int.sz Z Z Z Z Z Z Z Z Z<|?_
  refine ND<|SQ<|SQ<|RG<|FA Z tyF_impl_Stream_7 Z<|LD (i:=0) Z tyP_bool Z Z Z<|ND<|?_
  refine gw_cond Z (fun h2=>?_) (fun h2=>?_)
  ·refine SQ<|RG<|MV Z Z<|?_
   have hpm11 : ([cur b A l.length cp i9 k9] ++ (c6_0 ++ (c6_1 ++ (c6_2 ++ (c6_3 ++ (ch5 ++ ([]))))))).Perm ([cur b A l.length cp i9 k9] ++ (c6_0 ++ (c6_1 ++ (c6_2 ++ (c6_3 ++ (ch5 ++ ([]))))))):=by
    refine List.Perm.trans ((pg PR PR) : ([cur b A l.length cp i9 k9] ++ (c6_0 ++ (c6_1 ++ (c6_2 ++ (c6_3 ++ (ch5 ++ ([]))))))).Perm ([cur b A l.length cp i9 k9] ++ (c6_0 ++ (c6_1 ++ (c6_2 ++ (c6_3 ++ (ch5 ++ ([])))))))) (List.Perm.of_eq ?_)
    simp only [List.cons_append,List.nil_append,List.append_nil]
   refine rw_ch (G:=[cur b A l.length cp i9 k9]) (R:=c6_0 ++ (c6_1 ++ (c6_2 ++ (c6_3 ++ (ch5 ++ ([])))))) Z fun_spec_l7Receiver Z hpm11 (fun w hs hin hnd=>spec_l7Receiver (RdbX.own hr.X hs hpm11).b hi9 hin hnd)<|fun v10 ch10 how10=>?_
   obtain ⟨cs10,s10,ch10,i10,k10,rfl,how10,hF10,hi10,rfl⟩:=how10
   obtain ⟨v10_0,ch10,rfl,h10_0,rfl⟩:=how10
   obtain ⟨R10_0,b10_0,rfl,hR10_0,hrd10_0⟩:=h10_0.shape eChunk
   refine rw_F (F':=[cur b A l.length cp i10 k10] ++ (ch10 ++ (c6_0 ++ (c6_1 ++ (c6_2 ++ (c6_3 ++ (ch5 ++ ([])))))))) (by simp only [nA,aN,cA])<|?_
   obtain ⟨hbr12_0,hbr12_1⟩:=FineC.leR hF10.c
   refine FA Z tyF_impl_Stream_3 Z<|rw_storeN (i:=0) [_,_,_,_,_,_] [_,_,_,_,_,_,_,_,_,_,_,_,_,_,_,_,_,_,_,_,_,_,_,_,_,_,_,_,_,_,_,_,_,_,_,_,_,_,_] [_,_] tyS_impl_Receiver.sz Z Z Z Z Z Z Z Z Z<|ND<|RG<|FA Z tyF_impl_Stream_3 Z<|FA Z tyF_impl_Receiver_3 Z<|LD (i:=0) Z tyP_int Z Z Z<|rw_min Z Z Z<|rw_build [_,_,_,_,_,_] Z tyB_impl_Window tyZ_impl_Window Z Z<|FA Z tyF_impl_Stream_4 Z<|rw_storeN (i:=0) [_,_,_,_,_,_] [_,_,_,_,_,_,_,_,_,_,_,_,_,_,_,_,_,_,_,_,_,_,_,_,_,_,_,_,_,_,_,_,_,_,_,_,_,_,_] [_,_] tyS_impl_Window.sz Z Z Z Z Z Z Z Z Z<|?_
   refine ND<|SQ<|RG<|LS (i:=0) [_,_,_,_,_,_,_,_,_,_,_,_,_,_,_,_,_,_,_,_,_,_,_,_,_,_,_,_,_,_,_,_,_,_,_,_,_,_,_] Z tyS_impl_Stream Z Z Z Z<|rw_storeN (i:=1) [_,_,_,_,_,_,_,_,_,_,_,_,_,_,_,_,_,_,_,_,_,_,_,_,_,_,_,_,_,_,_,_,_,_,_,_,_,_,_] [_,_,_,_,_,_,_,_,_,_,_,_,_,_,_,_,_,_,_,_,_,_,_,_,_,_,_,_,_,_,_,_,_,_,_,_,_,_,_] [_,_] tyS_impl_Stream.sz Z Z Z Z Z Z Z Z Z<|ND<|?_
   refine gw_FP (pg PR (pg (pp PR) (pg (pp PR) (pg (pp PR) (pg (pp PR) (pg PR PR)))))) (gw_F (F':=(cur b A l.length cp i10 k10 :: (c6_0 ++ (c6_1 ++ (c6_2 ++ (c6_3 ++ (ch10)))))) ++ (ch5 ++ ([]))) (by simp only [aA,nA,aN,cA]) ?_)
   refine ret_ch (cur b A l.length cp i10 k10 :: (c6_0 ++ (c6_1 ++ (c6_2 ++ (c6_3 ++ (ch10)))))) Tryz.func130 (res1 Tryz.func130 Z (rv_s (i:=1) [_,_,_,_,_,_,_,_,_,_,_,_,_,_,_,_,_,_,_,_,_,_,_,_,_,_,_,_,_,_,_,_,_,_,_,_,_,_,_] tyS_impl_Stream Z Z Z Z)) ?_ ?_
   ·refine ⟨_,_,_,_,_,Z,owStream_mk h6_0 h6_1 h6_2 h6_3 h10_0,?_,hi10,Z⟩
    exact ⟨(hF6),hF10⟩
   ·exact (List.sublist_append_left _ _).trans (List.sublist_append_right _ _)
  refine SK<|SQ<|RG<|LS (i:=0) [_,_,_,_,_,_,_,_,_,_,_,_,_,_,_,_,_,_,_,_,_,_,_,_,_,_,_,_,_,_,_,_,_,_,_,_,_,_,_] Z tyS_impl_Stream Z Z Z Z<|rw_storeN (i:=1) [_,_,_,_,_,_,_,_,_,_,_,_,_,_,_,_,_,_,_,_,_,_,_,_,_,_,_,_,_,_,_,_,_,_,_,_,_,_,_] [_,_,_,_,_,_,_,_,_,_,_,_,_,_,_,_,_,_,_,_,_,_,_,_,_,_,_,_,_,_,_,_,_,_,_,_,_,_,_] [_,_] tyS_impl_Stream.sz Z Z Z Z Z Z Z Z Z<|ND<|?_
  refine gw_FP (pg PR (pg PR (pg PR (pg PR (pg PR PR))))) (gw_F (F':=(cur b A l.length cp i9 k9 :: (c6_0 ++ (c6_1 ++ (c6_2 ++ (c6_3 ++ ([])))))) ++ (ch5 ++ ([]))) (by simp only [aA,nA,aN,cA]) ?_)
  refine ret_ch (cur b A l.length cp i9 k9 :: (c6_0 ++ (c6_1 ++ (c6_2 ++ (c6_3 ++ ([])))))) Tryz.func130 (res1 Tryz.func130 Z (rv_s (i:=1) [_,_,_,_,_,_,_,_,_,_,_,_,_,_,_,_,_,_,_,_,_,_,_,_,_,_,_,_,_,_,_,_,_,_,_,_,_,_,_] tyS_impl_Stream Z Z Z Z)) ?_ ?_
  ·refine ⟨_,_,_,_,_,Z,owStream_mk h6_0 h6_1 h6_2 h6_3 ⟨[],.inl ⟨none,Z,Z,Z⟩⟩,?_,hi9,Z⟩
   exact ⟨(hF6),⟨FineC.nil,(show (0 : Int) ≤ 100 by decide)⟩⟩
  ·exact (List.sublist_append_left _ _).trans (List.sublist_append_right _ _)
 refine SK<|SQ<|SQ<|RG<|FA Z tyF_impl_Stream_7 Z<|LD (i:=0) Z tyP_bool Z Z Z<|ND<|?_
 refine gw_cond Z (fun h3=>?_) (fun h3=>?_)
 ·refine SQ<|RG<|MV Z Z<|?_
  have hpm14 : (ch5 ++ ([cur b A l.length cp i4 k4] ++ ([]))).Perm ([cur b A l.length cp i4 k4] ++ (ch5 ++ ([]))):=by
   refine List.Perm.trans ((pg (pp PR) PR) : (ch5 ++ ([cur b A l.length cp i4 k4] ++ ([]))).Perm ([cur b A l.length cp i4 k4] ++ (ch5 ++ ([])))) (List.Perm.of_eq ?_)
   simp only [List.cons_append,List.nil_append,List.append_nil]
  refine rw_ch (G:=[cur b A l.length cp i4 k4]) (R:=ch5 ++ ([])) Z fun_spec_l7Receiver Z hpm14 (fun w hs hin hnd=>spec_l7Receiver (RdbX.own hr.X hs hpm14).b hi4 hin hnd)<|fun v13 ch13 how13=>?_
  obtain ⟨cs13,s13,ch13,i13,k13,rfl,how13,hF13,hi13,rfl⟩:=how13
  obtain ⟨v13_0,ch13,rfl,h13_0,rfl⟩:=how13
  obtain ⟨R13_0,b13_0,rfl,hR13_0,hrd13_0⟩:=h13_0.shape eChunk
  refine rw_F (F':=[cur b A l.length cp i13 k13] ++ (ch13 ++ (ch5 ++ ([])))) (by simp only [nA,aN,cA])<|?_
  obtain ⟨hbr15_0,hbr15_1⟩:=FineC.leR hF13.c
  refine FA Z tyF_impl_Stream_3 Z<|rw_storeN (i:=0) [_,_,_,_,_,_] [_,_,_,_,_,_,_,_,_,_,_,_,_,_,_,_,_,_,_,_,_,_,_,_,_,_,_,_,_,_,_,_,_,_,_,_,_,_,_] [_,_] tyS_impl_Receiver.sz Z Z Z Z Z Z Z Z Z<|ND<|RG<|FA Z tyF_impl_Stream_3 Z<|FA Z tyF_impl_Receiver_3 Z<|LD (i:=0) Z tyP_int Z Z Z<|rw_min Z Z Z<|rw_build [_,_,_,_,_,_] Z tyB_impl_Window tyZ_impl_Window Z Z<|FA Z tyF_impl_Stream_4 Z<|rw_storeN (i:=0) [_,_,_,_,_,_] [_,_,_,_,_,_,_,_,_,_,_,_,_,_,_,_,_,_,_,_,_,_,_,_,_,_,_,_,_,_,_,_,_,_,_,_,_,_,_] [_,_] tyS_impl_Window.sz Z Z Z Z Z Z Z Z Z<|?_
  refine ND<|SQ<|RG<|LS (i:=0) [_,_,_,_,_,_,_,_,_,_,_,_,_,_,_,_,_,_,_,_,_,_,_,_,_,_,_,_,_,_,_,_,_,_,_,_,_,_,_] Z tyS_impl_Stream Z Z Z Z<|rw_storeN (i:=1) [_,_,_,_,_,_,_,_,_,_,_,_,_,_,_,_,_,_,_,_,_,_,_,_,_,_,_,_,_,_,_,_,_,_,_,_,_,_,_] [_,_,_,_,_,_,_,_,_,_,_,_,_,_,_,_,_,_,_,_,_,_,_,_,_,_,_,_,_,_,_,_,_,_,_,_,_,_,_] [_,_] tyS_impl_Stream.sz Z Z Z Z Z Z Z Z Z<|ND<|?_
  refine gw_FP (pg PR (pg (pp PR) (pg PR PR))) (gw_F (F':=(cur b A l.length cp i13 k13 :: (ch5 ++ ([] ++ ([] ++ ([] ++ (ch13)))))) ++ ([])) (by simp only [nA,aN,cA]) ?_)
  refine ret_ch (cur b A l.length cp i13 k13 :: (ch5 ++ ([] ++ ([] ++ ([] ++ (ch13)))))) Tryz.func130 (res1 Tryz.func130 Z (rv_s (i:=1) [_,_,_,_,_,_,_,_,_,_,_,_,_,_,_,_,_,_,_,_,_,_,_,_,_,_,_,_,_,_,_,_,_,_,_,_,_,_,_] tyS_impl_Stream Z Z Z Z)) ?_ ?_
  ·refine ⟨_,_,_,_,_,Z,owStream_mk hO5 ⟨[],.inl ⟨none,Z,Z,Z⟩⟩ ⟨[],.inl ⟨none,Z,Z,Z⟩⟩ ⟨[],.inl ⟨none,Z,Z,Z⟩⟩ h13_0,?_,hi13,Z⟩
   exact ⟨((newSender_fine hn64_).mono (by decide)),hF13⟩
  ·exact (List.sublist_append_left _ _).trans (List.sublist_append_right _ _)
 refine SK<|SQ<|RG<|LS (i:=0) [_,_,_,_,_,_,_,_,_,_,_,_,_,_,_,_,_,_,_,_,_,_,_,_,_,_,_,_,_,_,_,_,_,_,_,_,_,_,_] Z tyS_impl_Stream Z Z Z Z<|rw_storeN (i:=1) [_,_,_,_,_,_,_,_,_,_,_,_,_,_,_,_,_,_,_,_,_,_,_,_,_,_,_,_,_,_,_,_,_,_,_,_,_,_,_] [_,_,_,_,_,_,_,_,_,_,_,_,_,_,_,_,_,_,_,_,_,_,_,_,_,_,_,_,_,_,_,_,_,_,_,_,_,_,_] [_,_] tyS_impl_Stream.sz Z Z Z Z Z Z Z Z Z<|ND<|?_
 refine gw_FP (pg (pp PR) (pg PR PR)) (gw_F (F':=(cur b A l.length cp i4 k4 :: (ch5 ++ ([] ++ ([] ++ ([] ++ ([])))))) ++ ([])) (by simp only [nA,aN,cA]) ?_)
 refine ret_ch (cur b A l.length cp i4 k4 :: (ch5 ++ ([] ++ ([] ++ ([] ++ ([])))))) Tryz.func130 (res1 Tryz.func130 Z (rv_s (i:=1) [_,_,_,_,_,_,_,_,_,_,_,_,_,_,_,_,_,_,_,_,_,_,_,_,_,_,_,_,_,_,_,_,_,_,_,_,_,_,_] tyS_impl_Stream Z Z Z Z)) ?_ ?_
 ·refine ⟨_,_,_,_,_,Z,owStream_mk hO5 ⟨[],.inl ⟨none,Z,Z,Z⟩⟩ ⟨[],.inl ⟨none,Z,Z,Z⟩⟩ ⟨[],.inl ⟨none,Z,Z,Z⟩⟩ ⟨[],.inl ⟨none,Z,Z,Z⟩⟩,?_,hi4,Z⟩
  exact ⟨((newSender_fine hn64_).mono (by decide)),⟨FineC.nil,(show (0 : Int) ≤ 100 by decide)⟩⟩
 ·exact (List.sublist_append_left _ _).trans (List.sublist_append_right _ _)
set_option maxHeartbeats 8000000 in
set_option maxRecDepth 20000 in
theorem spec_l15Any {w : World} {b cp i : Nat} {A : Option Addr} {l : List UInt8} {h : Int} (hr : Rdb byC w A l b) (hi : i ≤ l.length) (hin : ∀ c ∈ [cur b A l.length cp i h], c.In w) (hnd : ([cur b A l.length cp i h].map Ck.b).Nodup) : CH Tryz.prog 77 [.pointer (some ⟨b, 0, none⟩)] w [cur b A l.length cp i h] (DrewO OwStream FineSt b A l.length cp) := by
 refine ch_of hin hnd Tryz.func77 Z Z Z<|SQ<|RG<|AL Z tyZ_impl_Stream<|fun b1=>ND<|SQ<|RG<|MV Z Z<|?_
 have hpm2 : ([cur b A l.length cp i h] ++ ([])).Perm ([cur b A l.length cp i h] ++ ([])):=by
  refine List.Perm.trans ((pg PR PR) : ([cur b A l.length cp i h] ++ ([])).Perm ([cur b A l.length cp i h] ++ ([]))) (List.Perm.of_eq ?_)
  simp only [List.append_nil]
 refine rw_ch (G:=[cur b A l.length cp i h]) (R:=[]) Z fun_spec_l15Stream Z hpm2 (fun w hs hin hnd=>spec_l15Stream (RdbX.own hr.X hs hpm2).b hi hin hnd)<|fun v1 ch1 how1=>?_
 obtain ⟨cs1,s1,ch1,i1,k1,rfl,how1,hF1,hi1,rfl⟩:=how1
 obtain ⟨v1_0,v1_1,v1_2,v1_3,v1_4,c1_0,c1_1,c1_2,c1_3,c1_4,rfl,h1_0,h1_1,h1_2,h1_3,h1_4,rfl⟩:=how1
 obtain ⟨R1_0,b1_0,rfl,hR1_0,hrd1_0⟩:=h1_0.shape eInt
 obtain ⟨R1_1,b1_1,rfl,hR1_1,hrd1_1⟩:=h1_1.shape eRange
 obtain ⟨R1_2,b1_2,rfl,hR1_2,hrd1_2⟩:=h1_2.shape eRange
 obtain ⟨R1_3,b1_3,rfl,hR1_3,hrd1_3⟩:=h1_3.shape eRange
 obtain ⟨R1_4,b1_4,rfl,hR1_4,hrd1_4⟩:=h1_4.shape eChunk
 refine rw_F (F':=[cur b A l.length cp i1 k1] ++ (c1_0 ++ (c1_1 ++ (c1_2 ++ (c1_3 ++ (c1_4 ++ ([]))))))) (by simp only [nA,aN,cA])<|?_
 obtain ⟨hbt3_0,hbt3_1,hbt3_2,hbt3_3,hbt3_4,hbt3_5⟩:=FineSt.le hF1
 refine AL Z tyZ_impl_Stream<|fun b2=>rw_storeN (i:=0) [_,_,_,_,_,_,_,_,_,_,_,_,_,_,_,_,_,_,_,_,_,_,_,_,_,_,_,_,_,_,_,_,_,_,_,_,_,_,_] [_,_,_,_,_,_,_,_,_,_,_,_,_,_,_,_,_,_,_,_,_,_,_,_,_,_,_,_,_,_,_,_,_,_,_,_,_,_,_] [_,_] tyS_impl_Stream.sz Z Z Z Z Z Z Z Z Z<|ND<|SQ<|SQ<|RG<|MV Z Z<|rw_ch (G:=[cur b A l.length cp i1 k1]) (R:=c1_0 ++ (c1_1 ++ (c1_2 ++ (c1_3 ++ (c1_4 ++ ([])))))) Z fun_spec_l1Below Z ((pg PR PR)) (fun w hs hin hnd=>spec_l1Below (hr.sat hs) hi1 (n:=16) (by first | decide | omega) (by first | decide | omega) hin hnd)<|fun v4 ch4 how4=>?_
 obtain ⟨x4,i4,k4,rfl,hx4,hi4,rfl⟩:=how4
 refine ND<|BK<|SQ<|RG<|EQ1 Z Z Z<|AS Z Z<|ND<|?_
 refine gw_cond Z (fun h1=>?_) (fun h1=>?_)
 ·refine RG<|FA Z tyF_impl_Stream_8 Z<|rw_storeN (i:=0) [_] [_,_,_,_,_,_,_,_,_,_,_,_,_,_,_,_,_,_,_,_,_,_,_,_,_,_,_,_,_,_,_,_,_,_,_,_,_,_,_] [_,_] tyP_bool.sz Z Z Z Z Z Z Z Z Z<|ND<|IB<|SQ<|RG<|LS (i:=0) [_,_,_,_,_,_,_,_,_,_,_,_,_,_,_,_,_,_,_,_,_,_,_,_,_,_,_,_,_,_,_,_,_,_,_,_,_,_,_] Z tyS_impl_Stream Z Z Z Z<|rw_storeN (i:=1) [_,_,_,_,_,_,_,_,_,_,_,_,_,_,_,_,_,_,_,_,_,_,_,_,_,_,_,_,_,_,_,_,_,_,_,_,_,_,_] [_,_,_,_,_,_,_,_,_,_,_,_,_,_,_,_,_,_,_,_,_,_,_,_,_,_,_,_,_,_,_,_,_,_,_,_,_,_,_] [_,_] tyS_impl_Stream.sz Z Z Z Z Z Z Z Z Z<|?_
  refine ND<|?_
  refine gw_FP (pg PR (pg PR (pg PR (pg PR (pg PR (pg PR PR)))))) (gw_F (F':=(cur b A l.length cp i4 k4 :: (c1_0 ++ (c1_1 ++ (c1_2 ++ (c1_3 ++ (c1_4)))))) ++ ([])) (by simp only [nA,aN,cA]) ?_)
  refine ret_ch (cur b A l.length cp i4 k4 :: (c1_0 ++ (c1_1 ++ (c1_2 ++ (c1_3 ++ (c1_4)))))) Tryz.func77 (res1 Tryz.func77 Z (rv_s (i:=1) [_,_,_,_,_,_,_,_,_,_,_,_,_,_,_,_,_,_,_,_,_,_,_,_,_,_,_,_,_,_,_,_,_,_,_,_,_,_,_] tyS_impl_Stream Z Z Z Z)) ?_ ?_
  ·refine ⟨_,_,_,_,_,Z,owStream_mk h1_0 h1_1 h1_2 h1_3 h1_4,?_,hi4,Z⟩
   exact ⟨hF1.1,hF1.2⟩
  ·exact (List.sublist_append_left _ _).trans (List.sublist_append_right _ _)
 refine SQ<|RG<|EQ1 Z Z Z<|AS Z Z<|ND<|?_
 refine gw_cond Z (fun h2=>?_) (fun h2=>?_)
 ·refine RG<|FA Z tyF_impl_Stream_9 Z<|rw_storeN (i:=0) [_] [_,_,_,_,_,_,_,_,_,_,_,_,_,_,_,_,_,_,_,_,_,_,_,_,_,_,_,_,_,_,_,_,_,_,_,_,_,_,_] [_,_] tyP_bool.sz Z Z Z Z Z Z Z Z Z<|ND<|IB<|SQ<|RG<|LS (i:=0) [_,_,_,_,_,_,_,_,_,_,_,_,_,_,_,_,_,_,_,_,_,_,_,_,_,_,_,_,_,_,_,_,_,_,_,_,_,_,_] Z tyS_impl_Stream Z Z Z Z<|rw_storeN (i:=1) [_,_,_,_,_,_,_,_,_,_,_,_,_,_,_,_,_,_,_,_,_,_,_,_,_,_,_,_,_,_,_,_,_,_,_,_,_,_,_] [_,_,_,_,_,_,_,_,_,_,_,_,_,_,_,_,_,_,_,_,_,_,_,_,_,_,_,_,_,_,_,_,_,_,_,_,_,_,_] [_,_] tyS_impl_Stream.sz Z Z Z Z Z Z Z Z Z<|?_
  refine ND<|?_
  refine gw_FP (pg PR (pg PR (pg PR (pg PR (pg PR (pg PR PR)))))) (gw_F (F':=(cur b A l.length cp i4 k4 :: (c1_0 ++ (c1_1 ++ (c1_2 ++ (c1_3 ++ (c1_4)))))) ++ ([])) (by simp only [nA,aN,cA]) ?_)
  refine ret_ch (cur b A l.length cp i4 k4 :: (c1_0 ++ (c1_1 ++ (c1_2 ++ (c1_3 ++ (c1_4)))))) Tryz.func77 (res1 Tryz.func77 Z (rv_s (i:=1) [_,_,_,_,_,_,_,_,_,_,_,_,_,_,_,_,_,_,_,_,_,_,_,_,_,_,_,_,_,_,_,_,_,_,_,_,_,_,_] tyS_impl_Stream Z Z Z Z)) ?_ ?_
  ·refine ⟨_,_,_,_,_,Z,owStream_mk h1_0 h1_1 h1_2 h1_3 h1_4,?_,hi4,Z⟩
   exact ⟨hF1.1,hF1.2⟩
  ·exact (List.sublist_append_left _ _).trans (List.sublist_append_right _ _)
 refine SQ<|RG<|EQ1 Z Z Z<|AS Z Z<|ND<|?_
 refine gw_cond Z (fun h3=>?_) (fun h3=>?_)
 ·refine RG<|MV Z Z<|rw_sliceO (f:=intC) ([-1,3] : List Int) [_,_] Z tyM_S_int Z Z Z Z Z Z Z<|fun v5 ch5 how5=>rw_ch (G:=[cur b A l.length cp i4 k4]) (R:=ch5 ++ (c1_0 ++ (c1_1 ++ (c1_2 ++ (c1_3 ++ (c1_4 ++ ([]))))))) Z fun_spec_l1PickInt Z ((pg (pp PR) PR)) (fun w hs hin hnd=>spec_l1PickInt (hr.sat hs) hi4 (lit_rdb (c:=cur b A l.length cp i4 k4) eInt how5 (by decide) hs (pg (pp PR) (pg PR PR))) (by decide) (by decide) hin hnd)<|fun v6 ch6 how6=>?_
  obtain ⟨x6,i6,k6,rfl,hx6,hi6,rfl⟩:=how6
  refine FA Z tyF_impl_Stream_12 Z<|rw_storeN (i:=0) [_] [_,_,_,_,_,_,_,_,_,_,_,_,_,_,_,_,_,_,_,_,_,_,_,_,_,_,_,_,_,_,_,_,_,_,_,_,_,_,_] [_,_] tyP_int.sz Z Z Z Z Z Z Z Z Z<|ND<|IB<|SQ<|RG<|LS (i:=0) [_,_,_,_,_,_,_,_,_,_,_,_,_,_,_,_,_,_,_,_,_,_,_,_,_,_,_,_,_,_,_,_,_,_,_,_,_,_,_] Z tyS_impl_Stream Z Z Z Z<|rw_storeN (i:=1) [_,_,_,_,_,_,_,_,_,_,_,_,_,_,_,_,_,_,_,_,_,_,_,_,_,_,_,_,_,_,_,_,_,_,_,_,_,_,_] [_,_,_,_,_,_,_,_,_,_,_,_,_,_,_,_,_,_,_,_,_,_,_,_,_,_,_,_,_,_,_,_,_,_,_,_,_,_,_] [_,_] tyS_impl_Stream.sz Z Z Z Z Z Z Z Z Z<|?_
  refine ND<|?_
  refine gw_FP (pg PR (pg (pp PR) (pg (pp PR) (pg (pp PR) (pg (pp PR) (pg (pp PR) PR)))))) (gw_F (F':=(cur b A l.length cp i6 k6 :: (c1_0 ++ (c1_1 ++ (c1_2 ++ (c1_3 ++ (c1_4)))))) ++ (ch5 ++ ([]))) (by simp only [aA,nA,aN,cA]) ?_)
  refine ret_ch (cur b A l.length cp i6 k6 :: (c1_0 ++ (c1_1 ++ (c1_2 ++ (c1_3 ++ (c1_4)))))) Tryz.func77 (res1 Tryz.func77 Z (rv_s (i:=1) [_,_,_,_,_,_,_,_,_,_,_,_,_,_,_,_,_,_,_,_,_,_,_,_,_,_,_,_,_,_,_,_,_,_,_,_,_,_,_] tyS_impl_Stream Z Z Z Z)) ?_ ?_
  ·refine ⟨_,_,_,_,_,Z,owStream_mk h1_0 h1_1 h1_2 h1_3 h1_4,?_,hi6,Z⟩
   exact ⟨hF1.1,hF1.2⟩
  ·exact (List.sublist_append_left _ _).trans (List.sublist_append_right _ _)
 refine SQ<|RG<|EQ1 Z Z Z<|AS Z Z<|ND<|?_
 refine gw_cond Z (fun h4=>?_) (fun h4=>?_)
 ·refine RG<|MV Z Z<|rw_sliceO (f:=intC) ([-1,0] : List Int) [_,_] Z tyM_S_int Z Z Z Z Z Z Z<|fun v7 ch7 how7=>rw_ch (G:=[cur b A l.length cp i4 k4]) (R:=ch7 ++ (c1_0 ++ (c1_1 ++ (c1_2 ++ (c1_3 ++ (c1_4 ++ ([]))))))) Z fun_spec_l1PickInt Z ((pg (pp PR) PR)) (fun w hs hin hnd=>spec_l1PickInt (hr.sat hs) hi4 (lit_rdb (c:=cur b A l.length cp i4 k4) eInt how7 (by decide) hs (pg (pp PR) (pg PR PR))) (by decide) (by decide) hin hnd)<|fun v8 ch8 how8=>?_
  obtain ⟨x8,i8,k8,rfl,hx8,hi8,rfl⟩:=how8
  refine FA Z tyF_impl_Stream_2 Z<|FA Z tyF_impl_Credit_1 Z<|rw_storeN (i:=0) [_] [_,_,_,_,_,_,_,_,_,_,_,_,_,_,_,_,_,_,_,_,_,_,_,_,_,_,_,_,_,_,_,_,_,_,_,_,_,_,_] [_,_] tyP_int.sz Z Z Z Z Z Z Z Z Z<|ND<|IB<|SQ<|RG<|LS (i:=0) [_,_,_,_,_,_,_,_,_,_,_,_,_,_,_,_,_,_,_,_,_,_,_,_,_,_,_,_,_,_,_,_,_,_,_,_,_,_,_] Z tyS_impl_Stream Z Z Z Z<|rw_storeN (i:=1) [_,_,_,_,_,_,_,_,_,_,_,_,_,_,_,_,_,_,_,_,_,_,_,_,_,_,_,_,_,_,_,_,_,_,_,_,_,_,_] [_,_,_,_,_,_,_,_,_,_,_,_,_,_,_,_,_,_,_,_,_,_,_,_,_,_,_,_,_,_,_,_,_,_,_,_,_,_,_] [_,_] tyS_impl_Stream.sz Z Z Z Z Z Z Z Z Z<|?_
  refine ND<|?_
  refine gw_FP (pg PR (pg (pp PR) (pg (pp PR) (pg (pp PR) (pg (pp PR) (pg (pp PR) PR)))))) (gw_F (F':=(cur b A l.length cp i8 k8 :: (c1_0 ++ (c1_1 ++ (c1_2 ++ (c1_3 ++ (c1_4)))))) ++ (ch7 ++ ([]))) (by simp only [aA,nA,aN,cA]) ?_)
  refine ret_ch (cur b A l.length cp i8 k8 :: (c1_0 ++ (c1_1 ++ (c1_2 ++ (c1_3 ++ (c1_4)))))) Tryz.func77 (res1 Tryz.func77 Z (rv_s (i:=1) [_,_,_,_,_,_,_,_,_,_,_,_,_,_,_,_,_,_,_,_,_,_,_,_,_,_,_,_,_,_,_,_,_,_,_,_,_,_,_] tyS_impl_Stream Z Z Z Z)) ?_ ?_
  ·refine ⟨_,_,_,_,_,Z,owStream_mk h1_0 h1_1 h1_2 h1_3 h1_4,?_,hi8,Z⟩
   exact ⟨hF1.1,hF1.2⟩
  ·exact (List.sublist_append_left _ _).trans (List.sublist_append_right _ _)
 refine SK<|IB<|SQ<|RG<|LS (i:=0) [_,_,_,_,_,_,_,_,_,_,_,_,_,_,_,_,_,_,_,_,_,_,_,_,_,_,_,_,_,_,_,_,_,_,_,_,_,_,_] Z tyS_impl_Stream Z Z Z Z<|rw_storeN (i:=1) [_,_,_,_,_,_,_,_,_,_,_,_,_,_,_,_,_,_,_,_,_,_,_,_,_,_,_,_,_,_,_,_,_,_,_,_,_,_,_] [_,_,_,_,_,_,_,_,_,_,_,_,_,_,_,_,_,_,_,_,_,_,_,_,_,_,_,_,_,_,_,_,_,_,_,_,_,_,_] [_,_] tyS_impl_Stream.sz Z Z Z Z Z Z Z Z Z<|ND<|?_
 refine gw_FP (pg PR (pg PR (pg PR (pg PR (pg PR (pg PR PR)))))) (gw_F (F':=(cur b A l.length cp i4 k4 :: (c1_0 ++ (c1_1 ++ (c1_2 ++ (c1_3 ++ (c1_4)))))) ++ ([])) (by simp only [nA,aN,cA]) ?_)
 refine ret_ch (cur b A l.length cp i4 k4 :: (c1_0 ++ (c1_1 ++ (c1_2 ++ (c1_3 ++ (c1_4)))))) Tryz.func77 (res1 Tryz.func77 Z (rv_s (i:=1) [_,_,_,_,_,_,_,_,_,_,_,_,_,_,_,_,_,_,_,_,_,_,_,_,_,_,_,_,_,_,_,_,_,_,_,_,_,_,_] tyS_impl_Stream Z Z Z Z)) ?_ ?_
 ·refine ⟨_,_,_,_,_,Z,owStream_mk h1_0 h1_1 h1_2 h1_3 h1_4,?_,hi4,Z⟩
  exact ⟨hF1.1,hF1.2⟩
 ·exact (List.sublist_append_left _ _).trans (List.sublist_append_right _ _)
end Go.Proofs.YtbhnekiclbfmgaaGreat
namespace Go.Proofs.YtbhnekiclbfmgaaGreat
open SL Go.RowKit
set_option maxHeartbeats 4000000 in
theorem spec_l15Copy {w : World} {cs : List Value} {x : Stream} (hv : RdStream w cs x) (hb : x.le 1048576) : CN Tryz.prog 78 [.agg cs.toArray] w (OwV OwStream x) := by
 obtain ⟨v0,v1,v2,v3,v4,rfl,k0,k1,k2,k3,k4⟩:=hv
 obtain ⟨A0,c0,rfl,hA0⟩:=k0
 obtain ⟨A1,c1,rfl,hA1⟩:=k1
 obtain ⟨A2,c2,rfl,hA2⟩:=k2
 obtain ⟨A3,c3,rfl,hA3⟩:=k3
 obtain ⟨A4,c4,rfl,hA4⟩:=k4
 obtain ⟨hb0,hb1,hb2,hb3,hb4,hb5⟩:=hb
 refine cn_of Tryz.func78 Z Z Z<|SQ<|RG<|BX [_,_,_,_,_,_,_,_,_,_,_,_,_,_,_,_,_,_,_,_,_,_,_,_,_,_,_,_,_,_,_,_,_,_,_,_,_,_,_] Z Z Z<|fun b1=>AL Z tyZ_impl_Stream<|fun b2=>ND<|SQ<|RG<|LS (i:=1) [_,_,_,_,_,_,_,_,_,_,_,_,_,_,_,_,_,_,_,_,_,_,_,_,_,_,_,_,_,_,_,_,_,_,_,_,_,_,_] Z tyS_impl_Stream Z Z Z Z<|AL Z tyZ_impl_Stream<|fun b3=>rw_storeN (i:=0) [_,_,_,_,_,_,_,_,_,_,_,_,_,_,_,_,_,_,_,_,_,_,_,_,_,_,_,_,_,_,_,_,_,_,_,_,_,_,_] [_,_,_,_,_,_,_,_,_,_,_,_,_,_,_,_,_,_,_,_,_,_,_,_,_,_,_,_,_,_,_,_,_,_,_,_,_,_,_] [_,_,_] tyS_impl_Stream.sz Z Z Z Z Z Z Z Z Z<|?_
 refine ND<|SQ<|RG<|FA Z tyF_impl_Stream_1 Z<|LS (i:=2) [_,_,_,_,_,_,_,_,_,_,_,_] Z tyS_impl_Sender Z Z Z Z<|CN1 Z fun_spec_l9Copy Z (fun w hs=>spec_l9Copy ⟨_,_,_,_,Z,(hA0.s Pl.keeps hs),(hA1.s Pl.keeps hs),(hA2.s Pl.keeps hs),(hA3.s Pl.keeps hs)⟩ ⟨hb0,hb1,hb2,hb3⟩)<|fun vv1 ch1 how1=>?_
 obtain ⟨cs1,rfl,v1_0,v1_1,v1_2,v1_3,c1_0,c1_1,c1_2,c1_3,rfl,h1_0,h1_1,h1_2,h1_3,rfl⟩:=how1
 refine rw_F (F':=c1_0 ++ (c1_1 ++ (c1_2 ++ (c1_3 ++ ([]))))) (by simp only [aA])<|?_
 obtain ⟨R1_0,b1_0,rfl,hR1_0,hrd1_0⟩:=h1_0.shape eInt
 obtain ⟨R1_1,b1_1,rfl,hR1_1,hrd1_1⟩:=h1_1.shape eRange
 obtain ⟨R1_2,b1_2,rfl,hR1_2,hrd1_2⟩:=h1_2.shape eRange
 obtain ⟨R1_3,b1_3,rfl,hR1_3,hrd1_3⟩:=h1_3.shape eRange
 refine FA Z tyF_impl_Stream_1 Z<|rw_storeN (i:=0) [_,_,_,_,_,_,_,_,_,_,_,_] [_,_,_,_,_,_,_,_,_,_,_,_,_,_,_,_,_,_,_,_,_,_,_,_,_,_,_,_,_,_,_,_,_,_,_,_,_,_,_] [_,_,_] tyS_impl_Sender.sz Z Z Z Z Z Z Z Z Z<|ND<|SQ<|RG<|FA Z tyF_impl_Stream_3 Z<|LS (i:=2) [_,_,_,_,_,_] Z tyS_impl_Receiver Z Z Z Z<|CN1 Z fun_spec_l7Copy Z (fun w hs=>spec_l7Copy ⟨_,Z,(hA4.s Pl.keeps hs)⟩ ⟨hb4,hb5⟩)<|fun vv2 ch2 how2=>?_
 obtain ⟨cs2,rfl,v2_0,c2_0,rfl,h2_0,rfl⟩:=how2
 obtain ⟨R2_0,b2_0,rfl,hR2_0,hrd2_0⟩:=h2_0.shape eChunk
 refine FA Z tyF_impl_Stream_3 Z<|rw_storeN (i:=0) [_,_,_,_,_,_] [_,_,_,_,_,_,_,_,_,_,_,_,_,_,_,_,_,_,_,_,_,_,_,_,_,_,_,_,_,_,_,_,_,_,_,_,_,_,_] [_,_,_] tyS_impl_Receiver.sz Z Z Z Z Z Z Z Z Z<|ND<|SQ<|RG<|LS (i:=0) [_,_,_,_,_,_,_,_,_,_,_,_,_,_,_,_,_,_,_,_,_,_,_,_,_,_,_,_,_,_,_,_,_,_,_,_,_,_,_] Z tyS_impl_Stream Z Z Z Z<|rw_storeN (i:=1) [_,_,_,_,_,_,_,_,_,_,_,_,_,_,_,_,_,_,_,_,_,_,_,_,_,_,_,_,_,_,_,_,_,_,_,_,_,_,_] [_,_,_,_,_,_,_,_,_,_,_,_,_,_,_,_,_,_,_,_,_,_,_,_,_,_,_,_,_,_,_,_,_,_,_,_,_,_,_] [_,_,_] tyS_impl_Stream.sz Z Z Z Z Z Z Z Z Z<|?_
 refine ND<|?_
 refine ret_cnP (ch:=c1_0 ++ (c1_1 ++ (c1_2 ++ (c1_3 ++ (ch2))))) (G:=c1_0 ++ (c1_1 ++ (c1_2 ++ (c1_3 ++ (ch2 ++ ([])))))) (F':=[]) Tryz.func78 (res1 Tryz.func78 Z (rv_s (i:=1) [_,_,_,_,_,_,_,_,_,_,_,_,_,_,_,_,_,_,_,_,_,_,_,_,_,_,_,_,_,_,_,_,_,_,_,_,_,_,_] tyS_impl_Stream Z Z Z Z)) ?_ ?_ ?_
 ·exact ⟨_,rfl,_,_,_,_,_,_,_,_,_,_,rfl,h1_0,h1_1,h1_2,h1_3,h2_0,rfl⟩
 ·exact (pg (pp PR) (pg (pp PR) (pg (pp PR) (pg (pp PR) (pg PR PR)))))
 ·simp only [List.append_assoc]
end Go.Proofs.YtbhnekiclbfmgaaGreat
