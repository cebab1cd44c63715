/- Walks: draws. -/
import Derived.Test.YtbhnekiclbfmgaaGreatWXa
import Derived.Test.YtbhnekiclbfmgaaGreatWXd
import Derived.Test.YtbhnekiclbfmgaaGreatWXs
import Derived.Test.YtbhnekiclbfmgaaGreatWXv
import Derived.Test.YtbhnekiclbfmgaaGreatFactsX
import Derived.Test.YtbhnekiclbfmgaaGreatRcv
import Derived.Test.YtbhnekiclbfmgaaGreatSlv
namespace Go.Proofs.YtbhnekiclbfmgaaGreat
open SL Go.RowKit
theorem spec_IsBuffer {w : World} {cs : List Value} {x : Buffer} (hv : RdBuffer w cs x) (hb : x.le 1048576) : CV Tryz.prog 139 [.agg cs.toArray] w (.bool (isBuffer x)) := by
 obtain ⟨v0,rfl,k0⟩:=hv
 obtain ⟨A0,c0,rfl,hA0⟩:=k0
 obtain ⟨hb0,hb1⟩:=hb
 refine cv_of Tryz.func139 Z Z Z<|SQ<|RG<|BX [_,_] Z Z Z<|fun b1=>AS Z Z<|ND<|SQ<|RG<|FA Z tyF_impl_Buffer_0 Z<|LD (i:=0) Z tyP_int Z Z Z<|rw_sub Z Z Z<|AS Z Z<|ND<|SQ<|SQ<|RG<|AS Z Z<|ND<|BK<|?_
 refine gw_loopC (α:=Nat × Int) (fun z_=>z_.1 ≤ x.chunks.length ∧ isBufferS x = (bufS z_.2 (x.chunks.drop z_.1) && isQuic x.next)) (fun z_=>x.chunks.length - z_.1) (fun e z_=>(4,.int .i64 (z_.1 : Int)) :: (3,.int .i64 z_.2) :: e) (0,w64 (x.next - 1)) [(1,_)] (Sub.consE Z Z (Sub.consE Z Z (Sub.cons (i:=1) Z (Sub.nil _)))) ?_ ?_
 ·exact ⟨Nat.zero_le _,rfl⟩
 ·rintro ⟨i,e⟩ hI1 ih1
  dsimp only at hI1
  dsimp only
  obtain ⟨hle,hI⟩:=hI1
  refine SQ<|SQ<|RG<|MV Z Z<|FA Z tyF_impl_Buffer_1 Z<|LD (i:=0) Z tyP_S_impl_Chunk Z Z Z<|rw_len Z tyE_S_impl_Chunk Z<|rw_lss Z Z Z<|ND<|?_
  refine gw_cond Z (fun h1=>?_) (fun h1=>?_)
  ·have hi2:=lt_of_dec h1
   obtain ⟨x3,hx3⟩:=get_of_lt hi2
   have hd3:=drop_cons hx3
   refine SK<|SQ<|BK<|SQ<|RG<|FA Z tyF_impl_Buffer_1 Z<|LD (i:=0) Z tyP_S_impl_Chunk Z Z Z<|MV Z Z<|?_
   have hq4:=hA0.plain hx3
   refine rw_indexAddr (i) Z tyE_S_impl_Chunk Z Z Z (hA0.some hi2) hi2<|rw_loadX_s [_,_] Z tyS_impl_Chunk Z Z (fun w hs=>hq4.lds0 (n:=2) hs Z)<|AL Z tyZ_impl_Chunk<|fun b2=>ST (i:=0) [_,_] [_,_] tyS_impl_Chunk.sz Z Z Z Z Z Z Z Z<|ND<|SQ<|SQ<|RG<|FA Z tyF_impl_Chunk_0 Z<|LD (i:=0) Z tyP_int Z Z Z<|MV Z Z<|rw_leq Z Z Z<|MV Z Z<|?_
   refine rw_caseL (j:=25) Z (fun h2=>?_) (fun h2=>?_)
   ·refine SKP Z<|PT Z Z Z Z<|MV Z Z<|SKP Z<|PT Z Z Z Z<|ND<|CT Z Z<|SQ<|RG<|AS Z Z<|ND<|RT Tryz.func139 Z Z<|?_
    rw [isBuffer_s x hb1]; rw [hI,hd3]; simp [bufS,maxQuic,h2]
   refine ON Z Z Z<|FA Z tyF_impl_Chunk_1 Z<|ON Z Z Z<|LD (i:=0) Z tyP_string Z Z Z<|ON Z Z Z<|rw_eqlS Z Z Z<|PF Z Z Z Z<|MV Z Z<|?_
   refine rw_caseL (j:=30) Z (fun h3=>?_) (fun h3=>?_)
   ·have hse5:=str_empty h3
    refine SKP Z<|PT Z Z Z Z<|ND<|CT Z Z<|SQ<|RG<|AS Z Z<|ND<|RT Tryz.func139 Z Z<|?_
    rw [isBuffer_s x hb1]; rw [hI,hd3]; simp [bufS,maxQuic,h2,hse5]
   have hse6:=str_empty h3
   refine ON Z Z Z<|FA Z tyF_impl_Chunk_0 Z<|ON Z Z Z<|LD (i:=0) Z tyP_int Z Z Z<|ON Z Z Z<|FA Z tyF_impl_Chunk_1 Z<|ON Z Z Z<|LD (i:=0) Z tyP_string Z Z Z<|ON Z Z Z<|rw_lenS Z (by kernel_rfl) Z<|ON Z Z Z<|rw_sub Z Z Z<|ON Z Z Z<|rw_gtr Z Z Z<|PF Z Z Z Z<|ND<|?_
   refine gw_cond Z (fun h4=>?_) (fun h4=>?_)
   ·refine SQ<|RG<|AS Z Z<|ND<|RT Tryz.func139 Z Z<|?_
    rw [isBuffer_s x hb1]; rw [hI,hd3]; simp [bufS,maxQuic,h2,hse6,h4]
   refine SK<|RG<|FA Z tyF_impl_Chunk_0 Z<|LD (i:=0) Z tyP_int Z Z Z<|FA Z tyF_impl_Chunk_1 Z<|LD (i:=0) Z tyP_string Z Z Z<|rw_lenS Z (by kernel_rfl) Z<|rw_add Z Z Z<|AS Z Z<|ND<|IB<|RG<|MV Z Z<|rw_add Z Z Z<|AS Z Z<|ND<|gw_dropN 1<|?_
   refine gw_sub (Sub.consE (i:=4) Z (int_succ (by omega)) (Sub.consE (i:=3) Z Z (Sub.cons (i:=1) Z (Sub.nil _)))) (ih1 (i + 1,chunkEnd x3) ?_ ?_)
   ·exact ⟨by omega,by rw [hI,hd3]; simp [bufS,maxQuic,h2,hse6,h4]⟩
   ·show x.chunks.length - (i + 1) < x.chunks.length - i; omega
  have hn7:=nil_of_dec h1
  refine EX Z<|SQ<|RG<|FA Z tyF_impl_Buffer_0 Z<|LD (i:=0) Z tyP_int Z Z Z<|CV1 Z fun_spec_l4Quic Z (fun w hs=>spec_l4Quic _ w)<|AS Z Z<|ND<|RT Tryz.func139 Z Z<|?_
  rw [isBuffer_s x hb1]; rw [hI,hn7]; rfl
set_option maxHeartbeats 2000000 in
set_option maxRecDepth 20000 in
theorem spec_BufferRanges {w : World} {cs : List Value} {x : Buffer} (hv : RdBuffer w cs x) (hF : FineC x.chunks) (hbuf : isBuffer x = true) : CN Tryz.prog 199 [.agg cs.toArray] w (fun v ch => OwS 132 2 (PlO Range.cells) v (bufRs x.chunks) ch) := by
 obtain ⟨v0,rfl,k0⟩:=hv
 obtain ⟨A0,c0,rfl,hA0⟩:=k0
 obtain ⟨hb0,hb1⟩:=FineC.le hF
 refine cn_of Tryz.func199 Z Z Z<|SQ<|RG<|BX [_,_] Z Z Z<|fun b1=>AS Z Z<|ND<|SQ<|RG<|rw_slice0 Z tyM_S_impl_Range (PlO Range.cells)<|fun v1 how1=>AS Z Z<|ND<|SQ<|SQ<|RG<|AS Z Z<|ND<|BK<|?_
 refine gw_loopX (α:=Nat × Value × List Ck) (fun z_=>z_.1 ≤ x.chunks.length ∧ OwA 132 2 (PlO Range.cells) z_.2.1 (bufRs (x.chunks.take z_.1)) z_.2.2) (fun z_=>x.chunks.length - z_.1) (fun e z_=>(4,.int .i64 (z_.1 : Int)) :: (3,z_.2.1) :: e) (fun B _=>B) (fun F z_=>z_.2.2 ++ ([])) (0,v1,[]) [(1,_),(2,_)] (Sub.consE Z Z (Sub.consE Z Z (Sub.cons (i:=1) Z (Sub.cons (i:=2) Z (Sub.nil _))))) Z Z ?_ ?_
 ·exact ⟨Nat.zero_le _,how1⟩
 ·rintro ⟨i,v,ch⟩ hI2 ih2
  dsimp only at hI2
  dsimp only
  obtain ⟨hle,hO⟩:=hI2
  refine SQ<|SQ<|RG<|MV Z Z<|FA Z tyF_impl_Buffer_1 Z<|LD (i:=0) Z tyP_S_impl_Chunk Z Z Z<|rw_len Z tyE_S_impl_Chunk Z<|rw_lss Z Z Z<|MV Z Z<|?_
  refine rw_caseL (j:=11) Z (fun h1=>?_) (fun h1=>?_)
  ·have hi3:=lt_of_dec h1
   obtain ⟨x4,hx4⟩:=get_of_lt hi3
   have hd4:=drop_cons hx4
   refine ON Z Z Z<|LS (i:=0) [_,_] Z tyS_impl_Buffer Z Z Z Z<|ON Z Z Z<|CV1 Z fun_spec_IsBuffer Z (fun w hs=>spec_IsBuffer ⟨_,Z,(hA0.s Pl.keeps hs)⟩ ⟨hb0,hb1⟩)<|PT Z Z Z Z<|ND<|CT Z hbuf<|SK<|SQ<|BK<|gw_draw' [dd 0,dd 1,dd 2,dd 3,dd 4,dd 5,dd 6,dd 7,dd 8,dd 9,dd 10,dd 11,dd 12,dd 13,dd 14,dd 15,dd 16,dd 17,dd 18,dd 19,dd 20,dd 21,(22,.add)] [23,24] mixed Z (FD Z) (ts:=[_,_]) Z<|?_
   refine DM Z Z Z<|DT Z Z (fun _ q=>FA Z tyF_impl_Buffer_1 Z q)<|DT Z Z (fun _ q=>LD (i:=0) Z tyP_S_impl_Chunk Z Z Z q)<|DM Z Z Z<|?_
   have hq5:=hA0.plain hx4
   refine DT Z Z (fun _ q=>rw_indexAddr (i) Z tyE_S_impl_Chunk Z Z Z (hA0.some hi3) hi3 q)<|DT Z Z (fun _ q=>FX Z tyF_impl_Chunk_0 Z q)<|DT Z Z (fun _ q=>rw_loadX _ Z tyP_int Z (fun w hs=>hq5.ld hs Z) q)<|DT Z Z (fun _ q=>FA Z tyF_impl_Buffer_1 Z q)<|DT Z Z (fun _ q=>LD (i:=0) Z tyP_S_impl_Chunk Z Z Z q)<|DM Z Z Z<|DT Z Z (fun _ q=>rw_indexAddr (i) Z tyE_S_impl_Chunk Z Z Z (hA0.some hi3) hi3 q)<|?_
   refine DT Z Z (fun _ q=>FX Z tyF_impl_Chunk_0 Z q)<|DT Z Z (fun _ q=>rw_loadX _ Z tyP_int Z (fun w hs=>hq5.ld hs Z) q)<|DT Z Z (fun _ q=>FA Z tyF_impl_Buffer_1 Z q)<|DT Z Z (fun _ q=>LD (i:=0) Z tyP_S_impl_Chunk Z Z Z q)<|DM Z Z Z<|DT Z Z (fun _ q=>rw_indexAddr (i) Z tyE_S_impl_Chunk Z Z Z (hA0.some hi3) hi3 q)<|DT Z Z (fun _ q=>FX Z tyF_impl_Chunk_1 Z q)<|DT Z Z (fun _ q=>rw_loadX _ Z tyP_string Z (fun w hs=>hq5.ld hs Z) q)<|?_
   refine DT Z Z (fun _ q=>rw_lenS Z (by kernel_rfl) Z q)<|DT Z Z (fun _ q=>rw_add Z Z Z q)<|DT Z Z (fun _ q=>rw_build [_,_] Z tyB_impl_Range tyZ_impl_Range Z Z q)<|DA Z Z (fun _ q=>rw_slice1F (xs:=[(0,_)]) [_,_] Z tyM_S_impl_Range Z Z Z q)<|fun v6 ch6 how6=>?_
   obtain ⟨bl6,rfl,hch6⟩:=how6
   refine dw_nil<|?_
   have hpm8 : (ch6 ++ (ch ++ ([]))).Perm (ch ++ ([] ++ (ch6 ++ ([])))):=by
    refine List.Perm.trans ((pg (pp PR) PR) : (ch6 ++ (ch ++ ([]))).Perm (ch ++ (ch6 ++ ([])))) (List.Perm.of_eq ?_)
    simp only [List.nil_append]
   refine rw_append1F (a:=⟨x4.offset,chunkEnd x4⟩) (ch2:=[]) (F2:=ch6 ++ ([])) Z tyM_S_impl_Range eRange Z Z (mem_ch hch6 (fun c hc=>ML hc)) hO ⟨Z,Z⟩ hpm8 (by simp only [bufRs,List.length_map,List.length_take]; omega)<|fun v7 ch7 how7=>AS Z Z<|ND<|IB<|RG<|MV Z Z<|rw_add Z Z Z<|AS Z Z<|ND<|?_
   refine gw_dropF (F':=ch7 ++ ([])) (List.Sublist.append_left (List.nil_sublist _) _)<|?_
   refine gw_sub (Sub.consE (i:=4) Z (int_succ (by omega)) (Sub.consE (i:=3) Z Z (Sub.cons (i:=1) Z (Sub.cons (i:=2) Z (Sub.nil _))))) (ih2 (i + 1,v7,ch7) ?_ ?_)
   ·exact ⟨by omega,by rw [bufRs_snoc hx4]; exact how7⟩
   ·show x.chunks.length - (i + 1) < x.chunks.length - i; omega
  have hn9:=nil_of_dec h1
  refine SKP Z<|PF Z Z Z Z<|ND<|CF Z Z<|EX Z<|SQ<|RG<|MV Z Z<|AS Z Z<|ND<|?_
  refine ret_cn ch Tryz.func199 (res1 Tryz.func199 Z (rv_tmp Z)) ?_ ?_
  ·rw [take_all hn9] at hO; exact OwA.s hO
  ·exact (List.sublist_append_left _ _).trans (List.sublist_append_right _ _)
set_option maxHeartbeats 2000000 in
set_option maxRecDepth 20000 in
theorem spec_ByteAt {w : World} {cs : List Value} {x : Buffer} (hv : RdBuffer w cs x) (hF : FineC x.chunks) (n : Int) : CN Tryz.prog 200 [.agg cs.toArray, .int .i64 n] w (fun v ch => ∃ u : Int, v = .int .i64 u ∧ (u < 0 → ∀ c ∈ x.chunks, byteHit n c = false) ∧ ch = []) := by
 obtain ⟨v0,rfl,k0⟩:=hv
 obtain ⟨A0,c0,rfl,hA0⟩:=k0
 obtain ⟨hb0,hb1⟩:=FineC.le hF
 refine cn_of Tryz.func200 Z Z Z<|SQ<|RG<|BX [_,_] Z Z Z<|fun b1=>AS Z Z<|ND<|SQ<|SQ<|RG<|AS Z Z<|ND<|BK<|?_
 refine gw_loopC (α:=Nat) (fun z_=>z_ ≤ x.chunks.length ∧ ∀ c ∈ x.chunks.take z_,byteHit n c = false) (fun z_=>x.chunks.length - z_) (fun e z_=>(5,.int .i64 (z_ : Int)) :: e) 0 [(1,_),(2,_)] (Sub.consE Z Z (Sub.cons (i:=1) Z (Sub.cons (i:=2) Z (Sub.nil _)))) ?_ ?_
 ·exact ⟨Nat.zero_le _,fun c hc=>by simp at hc⟩
 ·rintro i hI1 ih1
  try dsimp only
  obtain ⟨hle,hno⟩:=hI1
  refine SQ<|SQ<|RG<|MV Z Z<|FA Z tyF_impl_Buffer_1 Z<|LD (i:=0) Z tyP_S_impl_Chunk Z Z Z<|rw_len Z tyE_S_impl_Chunk Z<|rw_lss Z Z Z<|ND<|?_
  refine gw_cond Z (fun h1=>?_) (fun h1=>?_)
  ·have hi2:=lt_of_dec h1
   obtain ⟨x3,hx3⟩:=get_of_lt hi2
   have hd3:=drop_cons hx3
   refine SK<|SQ<|BK<|SQ<|RG<|MV Z Z<|FA Z tyF_impl_Buffer_1 Z<|LD (i:=0) Z tyP_S_impl_Chunk Z Z Z<|MV Z Z<|?_
   have hq4:=hA0.plain hx3
   refine rw_indexAddr (i) Z tyE_S_impl_Chunk Z Z Z (hA0.some hi2) hi2<|FX Z tyF_impl_Chunk_0 Z<|rw_loadX _ Z tyP_int Z (fun w hs=>hq4.ld hs Z)<|rw_sub Z Z Z<|AS Z Z<|ND<|SQ<|RG<|MV Z Z<|rw_geq Z Z Z<|MV Z Z<|?_
   refine rw_caseL (j:=24) Z (fun h2=>?_) (fun h2=>?_)
   ·refine ON Z Z Z<|FA Z tyF_impl_Buffer_1 Z<|ON Z Z Z<|LD (i:=0) Z tyP_S_impl_Chunk Z Z Z<|ON Z Z Z<|MV Z Z<|ON Z Z Z<|rw_indexAddr (i) Z tyE_S_impl_Chunk Z Z Z (hA0.some hi2) hi2<|ON Z Z Z<|FX Z tyF_impl_Chunk_0 Z<|ON Z Z Z<|rw_loadX _ Z tyP_int Z (fun w hs=>hq4.ld hs Z)<|ON Z Z Z<|rw_geq Z Z Z<|PT Z Z Z Z<|MV Z Z<|?_
    refine rw_caseL (j:=33) Z (fun h3=>?_) (fun h3=>?_)
    ·refine ON Z Z Z<|MV Z Z<|ON Z Z Z<|rw_geq Z Z Z<|PT Z Z Z Z<|MV Z Z<|?_
     refine rw_caseL (j:=37) Z (fun h4=>?_) (fun h4=>?_)
     ·refine ON Z Z Z<|MV Z Z<|ON Z Z Z<|FA Z tyF_impl_Buffer_1 Z<|ON Z Z Z<|LD (i:=0) Z tyP_S_impl_Chunk Z Z Z<|ON Z Z Z<|MV Z Z<|ON Z Z Z<|rw_indexAddr (i) Z tyE_S_impl_Chunk Z Z Z (hA0.some hi2) hi2<|ON Z Z Z<|FX Z tyF_impl_Chunk_1 Z<|ON Z Z Z<|rw_loadX _ Z tyP_string Z (fun w hs=>hq4.ld hs Z)<|ON Z Z Z<|rw_lenS Z (by kernel_rfl) Z<|ON Z Z Z<|?_
      refine rw_lss Z Z Z<|PT Z Z Z Z<|ND<|?_
      refine gw_cond Z (fun h5=>?_) (fun h5=>?_)
      ·refine SQ<|RG<|FA Z tyF_impl_Buffer_1 Z<|LD (i:=0) Z tyP_S_impl_Chunk Z Z Z<|MV Z Z<|rw_indexAddr (i) Z tyE_S_impl_Chunk Z Z Z (hA0.some hi2) hi2<|FX Z tyF_impl_Chunk_1 Z<|rw_loadX _ Z tyP_string Z (fun w hs=>hq4.ld hs Z)<|MV Z Z<|?_
       obtain ⟨k5,u5,hk5,hu5⟩:=hit_get h4 h5
       refine rw_idxL (l:=x3.data.data.toList) k5 Z tyStr_string Z Z hk5 hu5<|rw_convI Z tyCI_uint8_int Z<|AS Z Z<|ND<|?_
       refine ret_cn [] Tryz.func200 (res1 Tryz.func200 Z (rv_tmp Z)) ?_ ?_
       ·exact ⟨_,rfl,fun h=>absurd h (byte_nn _),rfl⟩
       ·simp
      refine SK<|IB<|RG<|MV Z Z<|rw_add Z Z Z<|AS Z Z<|ND<|?_
      refine gw_sub (Sub.consE (i:=5) Z (int_succ (by omega)) (Sub.cons (i:=1) Z (Sub.cons (i:=2) Z (Sub.nil _)))) (ih1 (i + 1) ?_ ?_)
      ·exact ⟨by omega,hit_snoc hno hx3 (by simp [byteHit,h2,h3,h4,h5])⟩
      ·show x.chunks.length - (i + 1) < x.chunks.length - i; omega
     refine SKP Z<|PF Z Z Z Z<|ND<|CF Z Z<|SK<|IB<|RG<|MV Z Z<|rw_add Z Z Z<|AS Z Z<|ND<|?_
     refine gw_sub (Sub.consE (i:=5) Z (int_succ (by omega)) (Sub.cons (i:=1) Z (Sub.cons (i:=2) Z (Sub.nil _)))) (ih1 (i + 1) ?_ ?_)
     ·exact ⟨by omega,hit_snoc hno hx3 (by simp [byteHit,h2,h3,h4])⟩
     ·show x.chunks.length - (i + 1) < x.chunks.length - i; omega
    refine SKP Z<|PF Z Z Z Z<|MV Z Z<|SKP Z<|PF Z Z Z Z<|ND<|CF Z Z<|SK<|IB<|RG<|MV Z Z<|rw_add Z Z Z<|AS Z Z<|ND<|?_
    refine gw_sub (Sub.consE (i:=5) Z (int_succ (by omega)) (Sub.cons (i:=1) Z (Sub.cons (i:=2) Z (Sub.nil _)))) (ih1 (i + 1) ?_ ?_)
    ·exact ⟨by omega,hit_snoc hno hx3 (by simp [byteHit,h2,h3])⟩
    ·show x.chunks.length - (i + 1) < x.chunks.length - i; omega
   refine SKP Z<|PF Z Z Z Z<|MV Z Z<|SKP Z<|PF Z Z Z Z<|MV Z Z<|SKP Z<|PF Z Z Z Z<|ND<|CF Z Z<|SK<|IB<|RG<|MV Z Z<|rw_add Z Z Z<|AS Z Z<|ND<|?_
   refine gw_sub (Sub.consE (i:=5) Z (int_succ (by omega)) (Sub.cons (i:=1) Z (Sub.cons (i:=2) Z (Sub.nil _)))) (ih1 (i + 1) ?_ ?_)
   ·exact ⟨by omega,hit_snoc hno hx3 (by simp [byteHit,h2])⟩
   ·show x.chunks.length - (i + 1) < x.chunks.length - i; omega
  have hn6:=nil_of_dec h1
  refine EX Z<|SQ<|RG<|AS Z Z<|ND<|?_
  refine ret_cn [] Tryz.func200 (res1 Tryz.func200 Z (rv_tmp Z)) ?_ ?_
  ·exact ⟨_,rfl,fun _=>by rw [take_all hn6] at hno; exact hno,rfl⟩
  ·simp
end Go.Proofs.YtbhnekiclbfmgaaGreat
namespace Go.Proofs.YtbhnekiclbfmgaaGreat
open SL Go.RowKit
theorem spec_l6Copy {w : World} {cs : List Value} {x : Buffer} (hv : RdBuffer w cs x) (hb : x.le 1048576) : CN Tryz.prog 165 [.agg cs.toArray] w (OwV OwBuffer x) := by
 obtain ⟨v0,rfl,k0⟩:=hv
 obtain ⟨A0,c0,rfl,hA0⟩:=k0
 obtain ⟨hb0,hb1⟩:=hb
 refine cn_of Tryz.func165 Z Z Z<|SQ<|RG<|BX [_,_] Z Z Z<|fun b1=>AL Z tyZ_impl_Buffer<|fun b2=>ND<|SQ<|gw_draw' [dd 0,dd 1,dd 3,dd 4,(2,.add),(5,.add)] [6,7] mixed Z (FD Z) (ts:=[_,_]) Z<|DT Z Z (fun _ q=>FA Z tyF_impl_Buffer_0 Z q)<|DT Z Z (fun _ q=>LD (i:=1) Z tyP_int Z Z Z q)<|DT Z Z (fun _ q=>FA Z tyF_impl_Buffer_1 Z q)<|DT Z Z (fun _ q=>LD (i:=1) Z tyP_S_impl_Chunk Z Z Z q)<|?_
 refine DA Z Z (fun _ q=>rw_slice0D Z tyM_S_impl_Chunk (PlO Chunk.cells) q)<|fun v1 ch1 how1=>?_
 obtain ⟨how1,rfl⟩:=how1
 refine DA Z Z (fun _ q=>rw_appendP Z tyM_S_impl_Chunk eChunk (fun _=>Z) Z Z how1 (fun w hs=>hA0.sat Pl.keeps hs) (.refl _) (by first | omega | (simp; omega)) q)<|fun v2 ch2 how2=>?_
 obtain ⟨R3,rc3,rfl,hR3,hrd3⟩:=(OwA.s (l:=x.chunks) how2).shape eChunk
 refine dw_nil<|rw_build [_,_] Z tyB_impl_Buffer tyZ_impl_Buffer Z Z<|ST (i:=0) [_,_] [_,_] tyS_impl_Buffer.sz Z Z Z Z Z Z Z Z<|ND<|?_
 refine ret_cnP (ch:=ch2) (G:=ch2 ++ ([])) (F':=[]) Tryz.func165 (res1 Tryz.func165 Z (rv_s (i:=0) [_,_] tyS_impl_Buffer Z Z Z Z)) ?_ ?_ ?_
 ·exact ⟨_,rfl,_,_,rfl,(OwA.s (l:=x.chunks) how2),rfl⟩
 ·exact (pg PR PR)
 ·simp only []
set_option maxHeartbeats 4000000 in
set_option maxRecDepth 20000 in
theorem spec_InsertData {w : World} {cs : List Value} {x : Buffer} (hv : RdBuffer w cs x) (hF : FineC x.chunks) (o : Int) {D : List UInt8} (hn_ : o + (D.length : Int) ≤ 100) : CN Tryz.prog 191 [.agg cs.toArray, .int .i64 o, .string (mkS D)] w (fun v ch => ∃ cs' b', v = .agg cs'.toArray ∧ OwBuffer cs' b' ch ∧ FineC b'.chunks) := by
 obtain ⟨v0,rfl,k0⟩:=hv
 obtain ⟨A0,c0,rfl,hA0⟩:=k0
 obtain ⟨hb0,hb1⟩:=FineC.le hF
 refine cn_of Tryz.func191 Z Z Z<|SQ<|RG<|BX [_,_] Z Z Z<|fun b1=>AL Z tyZ_impl_Buffer<|fun b2=>ND<|SQ<|SQ<|RG<|LS (i:=1) [_,_] Z tyS_impl_Buffer Z Z Z Z<|CV1 Z fun_spec_IsBuffer Z (fun w hs=>spec_IsBuffer ⟨_,Z,(hA0.s Pl.keeps hs)⟩ ⟨hb0,hb1⟩)<|NT Z Z<|MV Z Z<|?_
 refine rw_caseN (j:=18) Z (fun h1=>?_) (fun h1=>?_)
 ·refine SKP Z<|PT Z Z Z Z<|MV Z Z<|SKP Z<|PT Z Z Z Z<|MV Z Z<|SKP Z<|PT Z Z Z Z<|ND<|CT Z Z<|SQ<|RG<|LS (i:=1) [_,_] Z tyS_impl_Buffer Z Z Z Z<|CN1 Z fun_spec_l6Copy Z (fun w hs=>spec_l6Copy ⟨_,Z,(hA0.s Pl.keeps hs)⟩ ⟨hb0,hb1⟩)<|fun vv1 ch1 how1=>?_
  obtain ⟨cs1,rfl,v1_0,c1_0,rfl,h1_0,rfl⟩:=how1
  obtain ⟨R1_0,b1_0,rfl,hR1_0,hrd1_0⟩:=h1_0.shape eChunk
  refine ST (i:=0) [_,_] [_,_] tyS_impl_Buffer.sz Z Z Z Z Z Z Z Z<|ND<|?_
  refine gw_FP (pg PR PR) (gw_F (F':=(ch1) ++ ([])) (by simp only [aN]) ?_)
  refine ret_cn (ch1) Tryz.func191 (res1 Tryz.func191 Z (rv_s (i:=0) [_,_] tyS_impl_Buffer Z Z Z Z)) ?_ ?_
  ·refine ⟨_,_,Z,owBuffer_mk h1_0,?_⟩
   exact hF
  ·exact (List.sublist_append_left _ _).trans (List.sublist_append_right _ _)
 refine ON Z Z Z<|MV Z Z<|ON Z Z Z<|rw_eqlL Z Z Z<|PF Z Z Z Z<|MV Z Z<|?_
 refine rw_caseL (j:=22) Z (fun h2=>?_) (fun h2=>?_)
 ·refine SKP Z<|PT Z Z Z Z<|MV Z Z<|SKP Z<|PT Z Z Z Z<|ND<|CT Z Z<|SQ<|RG<|LS (i:=1) [_,_] Z tyS_impl_Buffer Z Z Z Z<|CN1 Z fun_spec_l6Copy Z (fun w hs=>spec_l6Copy ⟨_,Z,(hA0.s Pl.keeps hs)⟩ ⟨hb0,hb1⟩)<|fun vv2 ch2 how2=>?_
  obtain ⟨cs2,rfl,v2_0,c2_0,rfl,h2_0,rfl⟩:=how2
  obtain ⟨R2_0,b2_0,rfl,hR2_0,hrd2_0⟩:=h2_0.shape eChunk
  refine ST (i:=0) [_,_] [_,_] tyS_impl_Buffer.sz Z Z Z Z Z Z Z Z<|ND<|?_
  refine gw_FP (pg PR PR) (gw_F (F':=(ch2) ++ ([])) (by simp only [aN]) ?_)
  refine ret_cn (ch2) Tryz.func191 (res1 Tryz.func191 Z (rv_s (i:=0) [_,_] tyS_impl_Buffer Z Z Z Z)) ?_ ?_
  ·refine ⟨_,_,Z,owBuffer_mk h2_0,?_⟩
   exact hF
  ·exact (List.sublist_append_left _ _).trans (List.sublist_append_right _ _)
 refine ON Z Z Z<|MV Z Z<|ON Z Z Z<|rw_lss Z Z Z<|PF Z Z Z Z<|MV Z Z<|?_
 refine rw_caseL (j:=26) Z (fun h3=>?_) (fun h3=>?_)
 ·refine SKP Z<|PT Z Z Z Z<|ND<|CT Z Z<|SQ<|RG<|LS (i:=1) [_,_] Z tyS_impl_Buffer Z Z Z Z<|CN1 Z fun_spec_l6Copy Z (fun w hs=>spec_l6Copy ⟨_,Z,(hA0.s Pl.keeps hs)⟩ ⟨hb0,hb1⟩)<|fun vv3 ch3 how3=>?_
  obtain ⟨cs3,rfl,v3_0,c3_0,rfl,h3_0,rfl⟩:=how3
  obtain ⟨R3_0,b3_0,rfl,hR3_0,hrd3_0⟩:=h3_0.shape eChunk
  refine ST (i:=0) [_,_] [_,_] tyS_impl_Buffer.sz Z Z Z Z Z Z Z Z<|ND<|?_
  refine gw_FP (pg PR PR) (gw_F (F':=(ch3) ++ ([])) (by simp only [aN]) ?_)
  refine ret_cn (ch3) Tryz.func191 (res1 Tryz.func191 Z (rv_s (i:=0) [_,_] tyS_impl_Buffer Z Z Z Z)) ?_ ?_
  ·refine ⟨_,_,Z,owBuffer_mk h3_0,?_⟩
   exact hF
  ·exact (List.sublist_append_left _ _).trans (List.sublist_append_right _ _)
 refine ON Z Z Z<|MV Z Z<|ON Z Z Z<|MV Z Z<|ON Z Z Z<|rw_lenL Z tyStr_string Z<|ON Z Z Z<|rw_sub Z Z Z<|ON Z Z Z<|rw_gtr Z Z Z<|PF Z Z Z Z<|ND<|?_
 refine gw_cond Z (fun h4=>?_) (fun h4=>?_)
 ·refine SQ<|RG<|LS (i:=1) [_,_] Z tyS_impl_Buffer Z Z Z Z<|CN1 Z fun_spec_l6Copy Z (fun w hs=>spec_l6Copy ⟨_,Z,(hA0.s Pl.keeps hs)⟩ ⟨hb0,hb1⟩)<|fun vv4 ch4 how4=>?_
  obtain ⟨cs4,rfl,v4_0,c4_0,rfl,h4_0,rfl⟩:=how4
  obtain ⟨R4_0,b4_0,rfl,hR4_0,hrd4_0⟩:=h4_0.shape eChunk
  refine ST (i:=0) [_,_] [_,_] tyS_impl_Buffer.sz Z Z Z Z Z Z Z Z<|ND<|?_
  refine gw_FP (pg PR PR) (gw_F (F':=(ch4) ++ ([])) (by simp only [aN]) ?_)
  refine ret_cn (ch4) Tryz.func191 (res1 Tryz.func191 Z (rv_s (i:=0) [_,_] tyS_impl_Buffer Z Z Z Z)) ?_ ?_
  ·refine ⟨_,_,Z,owBuffer_mk h4_0,?_⟩
   exact hF
  ·exact (List.sublist_append_left _ _).trans (List.sublist_append_right _ _)
 refine SK<|SQ<|RG<|MV Z Z<|FA Z tyF_impl_Buffer_0 Z<|LD (i:=1) Z tyP_int Z Z Z<|rw_max Z Z Z<|AS Z Z<|ND<|SQ<|RG<|MV Z Z<|MV Z Z<|rw_lenL Z tyStr_string Z<|rw_add Z Z Z<|AS Z Z<|ND<|SQ<|SQ<|RG<|MV Z Z<|MV Z Z<|rw_geq Z Z Z<|ND<|?_
 refine gw_cond Z (fun h5=>?_) (fun h5=>?_)
 ·refine SQ<|RG<|LS (i:=1) [_,_] Z tyS_impl_Buffer Z Z Z Z<|CN1 Z fun_spec_l6Copy Z (fun w hs=>spec_l6Copy ⟨_,Z,(hA0.s Pl.keeps hs)⟩ ⟨hb0,hb1⟩)<|fun vv5 ch5 how5=>?_
  obtain ⟨cs5,rfl,v5_0,c5_0,rfl,h5_0,rfl⟩:=how5
  obtain ⟨R5_0,b5_0,rfl,hR5_0,hrd5_0⟩:=h5_0.shape eChunk
  refine ST (i:=0) [_,_] [_,_] tyS_impl_Buffer.sz Z Z Z Z Z Z Z Z<|ND<|?_
  refine gw_FP (pg PR PR) (gw_F (F':=(ch5) ++ ([])) (by simp only [aN]) ?_)
  refine ret_cn (ch5) Tryz.func191 (res1 Tryz.func191 Z (rv_s (i:=0) [_,_] tyS_impl_Buffer Z Z Z Z)) ?_ ?_
  ·refine ⟨_,_,Z,owBuffer_mk h5_0,?_⟩
   exact hF
  ·exact (List.sublist_append_left _ _).trans (List.sublist_append_right _ _)
 refine SK<|SQ<|RG<|FA Z tyF_impl_Buffer_0 Z<|LD (i:=1) Z tyP_int Z Z Z<|rw_build [_,_] Z tyB_impl_Buffer tyZ_impl_Buffer Z Z<|AL Z tyZ_impl_Buffer<|fun b3=>ST (i:=0) [_,_] [_,_] tyS_impl_Buffer.sz Z Z Z Z Z Z Z Z<|ND<|SQ<|RG<|LS (i:=2) [_,_] Z tyS_impl_Buffer Z Z Z Z<|?_
 have hbuf_:=h1
 have ho_ : 0 ≤ o:=by have:=of_decide_eq_false h3; omega
 refine CN1 Z fun_spec_BufferRanges Z (fun w hs=>spec_BufferRanges ⟨_,Z,(hA0.s Pl.keeps hs)⟩ hF hbuf_)<|fun v6 ch6 how6=>?_
 obtain ⟨R6,rc6,rfl,hR6,hrd6⟩:=how6.shape eRange
 have hbl6 : (bufRs x.chunks).length ≤ 1048576:=by simp only [bufRs,List.length_map]; omega
 refine MV Z Z<|MV Z Z<|rw_build [_,_] Z tyB_impl_Range tyZ_impl_Range Z Z<|CN1 Z fun_spec_AddRange Z (fun w hs=>spec_AddRange ⟨_,_,Z,hrd6 _ (fun c hc=>hs.at_ c (MR (ML hc)))⟩ (Nat.le_trans hbl6 (by decide)) ⟨max o x.next,w64 (o + (D.length : Int))⟩)<|fun v7 ch7 how7=>?_
 obtain ⟨R7,rc7,rfl,hR7,hrd7⟩:=how7.shape eRange
 obtain ⟨hv_,hh_,hlen_⟩:=ins_facts hbuf_ hF ho_ hn_
 refine AS Z Z<|ND<|SQ<|SQ<|RG<|AS Z Z<|ND<|BK<|?_
 refine gw_dropF (F':=ch7 ++ ([])) (List.Sublist.append_left (List.nil_sublist _) _)<|?_
 refine gw_loopX (α:=Nat × List Chunk × Option Addr × Nat × Nat × List Ck) (fun z_=>z_.1 ≤ (addRange (bufRs x.chunks) ⟨max o x.next,w64 (o + (D.length : Int))⟩).length ∧ z_.2.1.length ≤ z_.1 ∧ OwA 141 2 (PlO Chunk.cells) (.slice z_.2.2.1 z_.2.2.2.1 z_.2.2.2.2.1) z_.2.1 z_.2.2.2.2.2 ∧ ∀ c ∈ z_.2.1,c.data.size ≤ 100 ∧ c.offset + (c.data.size : Int) ≤ 100) (fun z_=>(addRange (bufRs x.chunks) ⟨max o x.next,w64 (o + (D.length : Int))⟩).length - z_.1) (fun e z_=>(11,.int .i64 (z_.1 : Int)) :: e) (fun B z_=>B.set 0 ⟨b3,38,[.int .i64 x.next,.slice z_.2.2.1 z_.2.2.2.1 z_.2.2.2.2.1]⟩) (fun F z_=>z_.2.2.2.2.2 ++ (ch7 ++ ([]))) (0,[],none,0,0,[]) [(1,_),(2,_),(3,_),(6,_),(9,_),(10,_)] (Sub.consE Z Z (Sub.cons (i:=1) Z (Sub.cons (i:=2) Z (Sub.cons (i:=3) Z (Sub.cons (i:=6) Z (Sub.cons (i:=9) Z (Sub.cons (i:=10) Z (Sub.nil _)))))))) Z Z ?_ ?_
 ·exact ⟨Nat.zero_le _,Nat.le_refl _,.inl ⟨none,rfl,rfl,rfl⟩,fun _ h=>by cases h⟩
 ·rintro ⟨i,cl,A_,n_,cp_,ch⟩ hI8 ih8
  dsimp only at hI8
  dsimp only [List.set]
  obtain ⟨hle,hcn,hO,hcl⟩:=hI8
  refine SQ<|SQ<|RG<|MV Z Z<|MV Z Z<|rw_len Z tyE_S_impl_Range Z<|rw_lss Z Z Z<|ND<|?_
  refine gw_cond Z (fun h6=>?_) (fun h6=>?_)
  ·have hi9:=lt_of_dec h6
   obtain ⟨x10,hx10⟩:=get_of_lt hi9
   have hd10:=drop_cons hx10
   refine SK<|SQ<|BK<|SQ<|RG<|AS Z Z<|ND<|SQ<|SQ<|RG<|MV Z Z<|MV Z Z<|rw_indexAddr (i) Z tyE_S_impl_Range Z Z Z (hR7 (Nat.zero_lt_of_lt hi9)) hi9<|FX Z tyF_impl_Range_0 Z<|rw_loadX _ Z tyP_int Z (fun w hs=>((hrd7 _ (fun c hc=>hs.at_ c (MR (MR (ML hc))))).plain hx10).cell Z)<|AS Z Z<|ND<|BK<|?_
   have hxm_:=hv_.mem (List.mem_of_getElem? hx10)
   have hxh_:=hh_ _ (List.mem_of_getElem? hx10)
   refine gw_loopC (α:=Int × List UInt8) (fun z_=>x10.low ≤ z_.1 ∧ z_.1 ≤ x10.high ∧ (z_.2.length : Int) = z_.1 - x10.low) (fun z_=>(x10.high - z_.1).toNat) (fun e z_=>(13,.int .i64 z_.1) :: (12,.string ⟨z_.2.toArray⟩) :: e) (x10.low,[]) [(1,_),(2,_),(3,_),(6,_),(9,_),(10,_),(11,_),(57,_),(58,_),(59,_),(60,_),(63,_),(64,_),(65,_),(66,_),(67,_)] (Sub.consE Z Z (Sub.consE Z Z (Sub.cons (i:=1) Z (Sub.cons (i:=2) Z (Sub.cons (i:=3) Z (Sub.cons (i:=6) Z (Sub.cons (i:=9) Z (Sub.cons (i:=10) Z (Sub.cons (i:=11) Z (Sub.cons (i:=57) Z (Sub.cons (i:=58) Z (Sub.cons (i:=59) Z (Sub.cons (i:=60) Z (Sub.cons (i:=63) Z (Sub.cons (i:=64) Z (Sub.cons (i:=65) Z (Sub.cons (i:=66) Z (Sub.cons (i:=67) Z (Sub.nil _))))))))))))))))))) ?_ ?_
   ·exact ⟨Int.le_refl _,by have:=hxm_.2; omega,by show (([] : List UInt8).length : Int) = _; simp⟩
   ·rintro ⟨a,s⟩ hI11 ih11
    dsimp only at hI11
    dsimp only
    obtain ⟨hlo_,hhi_,hsl_⟩:=hI11
    refine SQ<|SQ<|RG<|MV Z Z<|MV Z Z<|MV Z Z<|rw_indexAddr (i) Z tyE_S_impl_Range Z Z Z (hR7 (Nat.zero_lt_of_lt hi9)) hi9<|FX Z tyF_impl_Range_1 Z<|rw_loadX _ Z tyP_int Z (fun w hs=>((hrd7 _ (fun c hc=>hs.at_ c (MR (MR (ML hc))))).plain hx10).cell Z)<|rw_lss Z Z Z<|ND<|?_
    refine gw_cond Z (fun h7=>?_) (fun h7=>?_)
    ·refine SK<|SQ<|BK<|SQ<|RG<|LS (i:=2) [_,_] Z tyS_impl_Buffer Z Z Z Z<|MV Z Z<|CN1 Z fun_spec_ByteAt Z (fun w hs=>spec_ByteAt ⟨_,Z,(hA0.s Pl.keeps hs)⟩ hF _)<|fun v12 ch12 how12=>?_
     obtain ⟨u12,rfl,hno12,rfl⟩:=how12
     refine rw_F (F':=ch ++ (ch7 ++ ([]))) (by simp only [nA,aN])<|AS Z Z<|ND<|SQ<|SQ<|RG<|MV Z Z<|rw_lss Z Z Z<|ND<|?_
     refine gw_cond Z (fun h8=>?_) (fun h8=>?_)
     ·refine RG<|MV Z Z<|MV Z Z<|MV Z Z<|rw_sub Z Z Z<|?_
      obtain ⟨k13,u13,hk13,hu13⟩:=ins_at hbuf_ hF ho_ hn_ (List.mem_of_getElem? hx10) hlo_ (of_decide_eq_true h7) (hno12 (of_decide_eq_true h8))
      refine rw_idxL k13 Z tyStr_string Z Z hk13 hu13<|rw_convI Z tyCI_uint8_int Z<|AS Z Z<|ND<|RG<|MV Z Z<|MV Z Z<|CV1 Z fun_spec_l2Byte Z (fun w hs=>spec_l2Byte _ w)<|rw_catS Z Z Z (by first | omega | (simp; done) | (simp; omega)) (by first | omega | (simp; done) | (simp; omega))<|AS Z Z<|ND<|IB<|RG<|MV Z Z<|rw_add Z Z Z<|AS Z Z<|ND<|?_
      refine gw_sub (Sub.consE (i:=13) Z Z (Sub.consE (i:=12) Z Z (Sub.cons (i:=1) Z (Sub.cons (i:=2) Z (Sub.cons (i:=3) Z (Sub.cons (i:=6) Z (Sub.cons (i:=9) Z (Sub.cons (i:=10) Z (Sub.cons (i:=11) Z (Sub.cons (i:=57) Z (Sub.cons (i:=58) Z (Sub.cons (i:=59) Z (Sub.cons (i:=60) Z (Sub.cons (i:=63) Z (Sub.cons (i:=64) Z (Sub.cons (i:=65) Z (Sub.cons (i:=66) Z (Sub.cons (i:=67) Z (Sub.nil _))))))))))))))))))) (ih11 (w64 (a + 1),(s ++ [bytOf _])) ?_ ?_)
      ·have hlt_:=of_decide_eq_true h7
       have e_ : w64 (a + 1) = a + 1:=w64_id (by omega) (by omega)
       exact ⟨by show x10.low ≤ w64 (a + 1); omega,by show w64 (a + 1) ≤ x10.high; omega,by show (((s ++ [_]).length : Nat) : Int) = w64 (a + 1) - x10.low; simp only [List.length_append,List.length_cons,List.length_nil]; omega⟩
      ·have hlt_:=of_decide_eq_true h7
       have e_ : w64 (a + 1) = a + 1:=w64_id (by omega) (by omega)
       show (x10.high - w64 (a + 1)).toNat < (x10.high - a).toNat; omega
     refine SK<|RG<|MV Z Z<|MV Z Z<|CV1 Z fun_spec_l2Byte Z (fun w hs=>spec_l2Byte _ w)<|rw_catS Z Z Z (by first | omega | (simp; done) | (simp; omega)) (by first | omega | (simp; done) | (simp; omega))<|AS Z Z<|ND<|IB<|RG<|MV Z Z<|rw_add Z Z Z<|AS Z Z<|ND<|?_
     refine gw_sub (Sub.consE (i:=13) Z Z (Sub.consE (i:=12) Z Z (Sub.cons (i:=1) Z (Sub.cons (i:=2) Z (Sub.cons (i:=3) Z (Sub.cons (i:=6) Z (Sub.cons (i:=9) Z (Sub.cons (i:=10) Z (Sub.cons (i:=11) Z (Sub.cons (i:=57) Z (Sub.cons (i:=58) Z (Sub.cons (i:=59) Z (Sub.cons (i:=60) Z (Sub.cons (i:=63) Z (Sub.cons (i:=64) Z (Sub.cons (i:=65) Z (Sub.cons (i:=66) Z (Sub.cons (i:=67) Z (Sub.nil _))))))))))))))))))) (ih11 (w64 (a + 1),(s ++ [bytOf _])) ?_ ?_)
     ·have hlt_:=of_decide_eq_true h7
      have e_ : w64 (a + 1) = a + 1:=w64_id (by omega) (by omega)
      exact ⟨by show x10.low ≤ w64 (a + 1); omega,by show w64 (a + 1) ≤ x10.high; omega,by show (((s ++ [_]).length : Nat) : Int) = w64 (a + 1) - x10.low; simp only [List.length_append,List.length_cons,List.length_nil]; omega⟩
     ·have hlt_:=of_decide_eq_true h7
      have e_ : w64 (a + 1) = a + 1:=w64_id (by omega) (by omega)
      show (x10.high - w64 (a + 1)).toNat < (x10.high - a).toNat; omega
    refine EX Z<|gw_draw' [dd 0,dd 1,dd 2,dd 3,dd 4,dd 5,dd 6,dd 7,dd 8,(9,.add)] [10,11,12] mixed Z (FD Z) (ts:=[_,_,_]) Z<|DT Z Z (fun _ q=>FA Z tyF_impl_Buffer_1 Z q)<|DT Z Z (fun _ q=>LD (i:=0) Z tyP_S_impl_Chunk Z Z Z q)<|DM Z Z Z<|DM Z Z Z<|DT Z Z (fun _ q=>rw_indexAddr (i) Z tyE_S_impl_Range Z Z Z (hR7 (Nat.zero_lt_of_lt hi9)) hi9 q)<|DT Z Z (fun _ q=>FX Z tyF_impl_Range_0 Z q)<|?_
    refine DT Z Z (fun _ q=>rw_loadX _ Z tyP_int Z (fun w hs=>((hrd7 _ (fun c hc=>hs.at_ c (MR (MR (ML hc))))).plain hx10).cell Z) q)<|DM Z Z Z<|DT Z Z (fun _ q=>rw_build [_,_] Z tyB_impl_Chunk tyZ_impl_Chunk Z Z q)<|DA Z Z (fun _ q=>rw_slice1F (xs:=[(0,_)]) [_,_] Z tyM_S_impl_Chunk Z Z Z q)<|fun v14 ch14 how14=>?_
    obtain ⟨bl14,rfl,hch14⟩:=how14
    refine dw_nil<|?_
    have hpm16 : (ch14 ++ (ch ++ (ch7 ++ ([])))).Perm (ch ++ ([] ++ (ch14 ++ (ch7 ++ ([]))))):=by
     refine List.Perm.trans ((pg (pp PR) PR) : (ch14 ++ (ch ++ (ch7 ++ ([])))).Perm (ch ++ (ch14 ++ (ch7 ++ ([]))))) (List.Perm.of_eq ?_)
     simp only [List.nil_append]
    refine rw_append1F (a:=(⟨x10.low,mkS s⟩ : Chunk)) (ch2:=[]) (F2:=ch14 ++ (ch7 ++ ([]))) Z tyM_S_impl_Chunk eChunk Z Z (mem_ch hch14 (fun c hc=>ML hc)) hO ⟨Z,Z⟩ hpm16 (by have:=hlen_; omega)<|fun v15 ch15 how15=>?_
    obtain ⟨R17,rc17,rfl,_,_⟩:=(OwA.s how15).shape eChunk
    refine FA Z tyF_impl_Buffer_1 Z<|ST (i:=0) [_] [_,_] tyP_S_impl_Chunk.sz Z Z Z Z Z Z Z Z<|ND<|IB<|RG<|MV Z Z<|rw_add Z Z Z<|AS Z Z<|ND<|?_
    refine gw_FP (F':=ch15 ++ (ch7 ++ (ch14 ++ ([])))) (pg PR (pg (pp PR) (pg PR PR)))<|gw_dropF (F':=ch15 ++ (ch7 ++ ([]))) (List.Sublist.append_left (List.Sublist.append_left (List.nil_sublist _) _) _)<|?_
    refine gw_sub (Sub.consE (i:=11) Z (int_succ (by omega)) (Sub.cons (i:=1) Z (Sub.cons (i:=2) Z (Sub.cons (i:=3) Z (Sub.cons (i:=6) Z (Sub.cons (i:=9) Z (Sub.cons (i:=10) Z (Sub.nil _)))))))) (ih8 (i + 1,cl ++ [(⟨x10.low,mkS s⟩ : Chunk)],R17,(cl ++ [(⟨x10.low,mkS s⟩ : Chunk)]).length,rc17,ch15) ?_ ?_)
    ·refine ⟨by have:=hi9; omega,by show (cl ++ [_]).length ≤ i + 1; simp only [List.length_append,List.length_cons,List.length_nil]; omega,how15,?_⟩
     exact FineC.snoc hcl (i:=0) hxm_.1 hxh_ hlo_ hhi_ hsl_
    ·show (addRange (bufRs x.chunks) ⟨max o x.next,w64 (o + (D.length : Int))⟩).length - (i + 1) < (addRange (bufRs x.chunks) ⟨max o x.next,w64 (o + (D.length : Int))⟩).length - i; have:=hi9; omega
  have hn18:=nil_of_dec h6
  refine EX Z<|SQ<|RG<|LS (i:=0) [_,_] Z tyS_impl_Buffer Z Z Z Z<|ST (i:=1) [_,_] [_,_] tyS_impl_Buffer.sz Z Z Z Z Z Z Z Z<|ND<|?_
  refine ret_cn ch Tryz.func191 (res1 Tryz.func191 Z (rv_s (i:=1) [_,_] tyS_impl_Buffer Z Z Z Z)) ?_ ?_
  ·refine ⟨_,_,Z,owBuffer_mk (OwA.s hO),?_⟩
   exact ⟨by show cl.length ≤ 101; have:=hlen_; omega,hcl⟩
  ·exact (List.sublist_append_left _ _).trans (List.sublist_append_right _ _)
end Go.Proofs.YtbhnekiclbfmgaaGreat
namespace Go.Proofs.YtbhnekiclbfmgaaGreat
open SL Go.RowKit
theorem spec_ReadyBytes {w : World} {cs : List Value} {x : Buffer} (hv : RdBuffer w cs x) (hb : x.le 1048576) : CV Tryz.prog 141 [.agg cs.toArray] w (.int .i64 (readyBytes x)) := by
 obtain ⟨v0,rfl,k0⟩:=hv
 obtain ⟨A0,c0,rfl,hA0⟩:=k0
 obtain ⟨hb0,hb1⟩:=hb
 refine cv_of Tryz.func141 Z Z Z<|SQ<|RG<|BX [_,_] Z Z Z<|fun b1=>AS Z Z<|ND<|SQ<|SQ<|gw_draw' [dd 0,dd 1,dd 2,dd 3,dd 4,dd 5,dd 6,dd 7,dd 8,dd 9,dd 10,dd 11,dd 12,dd 13,dd 14,dd 15,dd 16] [17,18] mixed Z (FD Z) (ts:=[_,_]) Z<|DT Z Z (fun _ q=>LS (i:=0) [_,_] Z tyS_impl_Buffer Z Z Z Z q)<|DT Z Z (fun _ q=>CV1 Z fun_spec_IsBuffer Z (fun w hs=>spec_IsBuffer ⟨_,Z,(hA0.s Pl.keeps hs)⟩ ⟨hb0,hb1⟩) q)<|?_
 refine DT Z Z (fun _ q=>NT Z Z q)<|DM Z Z Z<|?_
 refine dw_caseN (j:=6) Z (fun h1=>?_) (fun h1=>?_)
 ·refine DSK Z<|DT Z Z (fun _ q=>PT Z Z Z Z q)<|DM Z Z Z<|DSK Z<|dw_nil<|OF Z Z Z Z<|PT Z Z Z Z<|ND<|CT Z Z<|SQ<|RG<|AS Z Z<|ND<|RT Tryz.func141 Z Z<|?_
  simp [readyBytes,h1]
 refine DT Z Z (fun _ q=>ON Z Z Z (FA Z tyF_impl_Buffer_1 Z q))<|DT Z Z (fun _ q=>ON Z Z Z (LD (i:=0) Z tyP_S_impl_Chunk Z Z Z q))<|DT Z Z (fun _ q=>ON Z Z Z (rw_len Z tyE_S_impl_Chunk Z q))<|DT Z Z (fun _ q=>ON Z Z Z (EQ1 Z Z Z q))<|DT Z Z (fun _ q=>PF Z Z Z Z q)<|DM Z Z Z<|?_
 refine dw_caseL (j:=12) Z (fun h2=>?_) (fun h2=>?_)
 ·have hnil1:=nil_of_eq h2
  refine DSK Z<|dw_nil<|OF Z Z Z Z<|PT Z Z Z Z<|ND<|CT Z Z<|SQ<|RG<|AS Z Z<|ND<|RT Tryz.func141 Z Z<|?_
  simp [readyBytes,h1,hnil1]
 have hpos2:=pos_of_ne h2
 refine DT Z Z (fun _ q=>ON Z Z Z (FA Z tyF_impl_Buffer_1 Z q))<|DT Z Z (fun _ q=>ON Z Z Z (LD (i:=0) Z tyP_S_impl_Chunk Z Z Z q))<|?_
 have hi3 : 0 < x.chunks.length:=by omega
 obtain ⟨x4,hx4⟩:=get_of_lt hi3
 have hd4:=drop_cons hx4
 have hq5:=hA0.plain hx4
 refine DT Z Z (fun _ q=>ON Z Z Z (rw_indexAddr (0) Z tyE_S_impl_Chunk Z Z Z (hA0.some hi3) hi3 q))<|DT Z Z (fun _ q=>ON Z Z Z (FX Z tyF_impl_Chunk_0 Z q))<|DT Z Z (fun _ q=>ON Z Z Z (rw_loadX _ Z tyP_int Z (fun w hs=>hq5.ld hs Z) q))<|DT Z Z (fun _ q=>ON Z Z Z (FA Z tyF_impl_Buffer_0 Z q))<|DT Z Z (fun _ q=>ON Z Z Z (LD (i:=0) Z tyP_int Z Z Z q))<|dw_nil<|ON Z Z Z<|?_
 refine rw_neq Z Z Z<|PF Z Z Z Z<|ND<|?_
 refine gw_condN Z (fun h3=>?_) (fun h3=>?_)
 ·refine SQ<|RG<|AS Z Z<|ND<|RT Tryz.func141 Z Z<|?_
  simp [readyBytes,h1,h3,hx4]
 refine SK<|SQ<|RG<|FA Z tyF_impl_Buffer_1 Z<|LD (i:=0) Z tyP_S_impl_Chunk Z Z Z<|rw_indexAddr (0) Z tyE_S_impl_Chunk Z Z Z (hA0.some hi3) hi3<|FX Z tyF_impl_Chunk_1 Z<|rw_loadX _ Z tyP_string Z (fun w hs=>hq5.ld hs Z)<|rw_lenS Z (by kernel_rfl) Z<|AS Z Z<|ND<|RT Tryz.func141 Z Z<|?_
 simp [readyBytes,h1,h3,hx4]
set_option maxHeartbeats 4000000 in
set_option maxRecDepth 20000 in
theorem spec_TakeBytes {w : World} {cs : List Value} {x : Buffer} (hv : RdBuffer w cs x) (hF : FineC x.chunks) (m : Int) : CN Tryz.prog 192 [.agg cs.toArray, .int .i64 m] w (fun v ch => ∃ (D : List UInt8) (cs' : List Value) (b' : Buffer), v = .tuple #[.string (mkS D), .agg cs'.toArray] ∧ OwBuffer cs' b' ch ∧ FineC b'.chunks) := by
 obtain ⟨v0,rfl,k0⟩:=hv
 obtain ⟨A0,c0,rfl,hA0⟩:=k0
 obtain ⟨hb0,hb1⟩:=FineC.le hF
 refine cn_of Tryz.func192 Z Z Z<|SQ<|RG<|BX [_,_] Z Z Z<|fun b1=>AS Z Z<|AL Z tyZ_impl_Buffer<|fun b2=>ND<|SQ<|RG<|LS (i:=1) [_,_] Z tyS_impl_Buffer Z Z Z Z<|CV1 Z fun_spec_ReadyBytes Z (fun w hs=>spec_ReadyBytes ⟨_,Z,(hA0.s Pl.keeps hs)⟩ ⟨hb0,hb1⟩)<|MV Z Z<|rw_max Z Z Z<|rw_min Z Z Z<|AS Z Z<|ND<|SQ<|RG<|LS (i:=1) [_,_] Z tyS_impl_Buffer Z Z Z Z<|CN1 Z fun_spec_l6Copy Z (fun w hs=>spec_l6Copy ⟨_,Z,(hA0.s Pl.keeps hs)⟩ ⟨hb0,hb1⟩)<|fun v1 ch1 how1=>?_
 obtain ⟨cs1,rfl,v1_,ch1,rfl,how1,rfl⟩:=how1
 obtain ⟨R1,rc1,rfl,hR1,hrd1⟩:=how1.shape eChunk
 refine AL Z tyZ_impl_Buffer<|fun b3=>ST (i:=0) [_,_] [_,_] tyS_impl_Buffer.sz Z Z Z Z Z Z Z Z<|ND<|SQ<|SQ<|RG<|MV Z Z<|EQ1 Z Z Z<|ND<|?_
 refine gw_cond Z (fun h1=>?_) (fun h1=>?_)
 ·refine SQ<|gw_draw' [dd 0,dd 1] [2] mixed Z (FD Z) (ts:=[_]) Z<|DT Z Z (fun _ q=>LS (i:=0) [_,_] Z tyS_impl_Buffer Z Z Z Z q)<|DT Z Z (fun _ q=>AS Z Z q)<|dw_nil<|ST (i:=1) [_,_] [_,_] tyS_impl_Buffer.sz Z Z Z Z Z Z Z Z<|ND<|?_
  refine gw_FP (pg PR PR) (gw_F (F':=(ch1) ++ ([])) (by simp only [aN]) ?_)
  refine ret_cn (ch1) Tryz.func192 (res2 Tryz.func192 Z (rv_tmp Z) (rv_s (i:=1) [_,_] tyS_impl_Buffer Z Z Z Z)) ?_ ?_
  ·refine ⟨[],_,_,Z,owBuffer_mk how1,?_⟩
   exact hF
  ·exact (List.sublist_append_left _ _).trans (List.sublist_append_right _ _)
 obtain ⟨xc,k_,hxc,hk_,hk0_,hk1_,ho_,h0_⟩:=take_ok h1
 rw [hk_]
 have hic:=(List.getElem?_eq_some_iff.1 hxc).1
 refine SK<|SQ<|RG<|FA Z tyF_impl_Buffer_1 Z<|LD (i:=0) Z tyP_S_impl_Chunk Z Z Z<|rw_indexAddr (0) Z tyE_S_impl_Chunk Z Z Z (hR1 (Nat.zero_lt_of_lt hic)) hic<|FX Z tyF_impl_Chunk_1 Z<|rw_loadX _ Z tyP_string Z (fun w hs=>((hrd1 _ (fun c hc=>hs.at_ c (MR (ML hc)))).plain hxc).cell Z)<|AS Z Z<|ND<|SQ<|RG<|FA Z tyF_impl_Buffer_0 Z<|LD (i:=0) Z tyP_int Z Z Z<|MV Z Z<|rw_add Z Z Z<|?_
 refine FA Z tyF_impl_Buffer_0 Z<|ST (i:=0) [_] [_,_] tyP_int.sz Z Z Z Z Z Z Z Z<|ND<|SQ<|SQ<|RG<|MV Z Z<|MV Z Z<|rw_lenL Z tyStr_string Z<|EQ1 Z Z Z<|ND<|?_
 refine gw_cond Z (fun h2=>?_) (fun h2=>?_)
 ·refine SQ<|RG<|FA Z tyF_impl_Buffer_1 Z<|LD (i:=0) Z tyP_S_impl_Chunk Z Z Z<|rw_sliceTl Z tyM_S_impl_Chunk eChunk how1 hic Z Z Z<|fun At2 ct2 hAt2 hrt2=>FA Z tyF_impl_Buffer_1 Z<|ST (i:=0) [_] [_,_] tyP_S_impl_Chunk.sz Z Z Z Z Z Z Z Z<|ND<|SQ<|RG<|MV Z Z<|LS (i:=0) [_,_] Z tyS_impl_Buffer Z Z Z Z<|CN1 Z fun_spec_l6Copy Z (fun w hs=>spec_l6Copy (rdBuffer_mk ⟨_,_,Z,hrt2 _ (fun c hc=>hs.at_ c (MR (ML hc)))⟩) ⟨by rw [List.length_drop]; omega,fun c hc=>hb1 c (List.mem_of_mem_drop hc)⟩)<|fun v3 ch3 how3=>?_
  obtain ⟨cs3,rfl,v3_,ch3,rfl,how3,rfl⟩:=how3
  obtain ⟨R3,rc3,rfl,hR3,hrd3⟩:=how3.shape eChunk
  refine AS Z Z<|ST (i:=1) [_,_] [_,_] tyS_impl_Buffer.sz Z Z Z Z Z Z Z Z<|ND<|?_
  refine gw_FP (pg PR PR) (gw_F (F':=(ch3) ++ (ch1 ++ ([]))) (by simp only [aN]) ?_)
  refine ret_cn (ch3) Tryz.func192 (res2 Tryz.func192 Z (rv_tmp Z) (rv_s (i:=1) [_,_] tyS_impl_Buffer Z Z Z Z)) ?_ ?_
  ·refine ⟨xc.data.data.toList,_,_,Z,owBuffer_mk how3,?_⟩
   exact hF.drop
  ·exact (List.sublist_append_left _ _).trans (List.sublist_append_right _ _)
 refine SK<|SQ<|gw_draw' [dd 0,dd 1,dd 2,dd 3,dd 4,dd 5,dd 6,dd 7] [8,9] mixed Z (FD Z) (ts:=[_,_]) Z<|DT Z Z (fun _ q=>FA Z tyF_impl_Buffer_1 Z q)<|DT Z Z (fun _ q=>LD (i:=0) Z tyP_S_impl_Chunk Z Z Z q)<|DT Z Z (fun _ q=>FA Z tyF_impl_Buffer_0 Z q)<|DT Z Z (fun _ q=>LD (i:=0) Z tyP_int Z Z Z q)<|DM Z Z Z<|DM Z Z Z<|DT Z Z (fun _ q=>rw_sliceW (l:=xc.data.data.toList) k_ Z tyStr_string Z Z Z (by omega) q)<|?_
 refine DT Z Z (fun _ q=>rw_build [_,_] Z tyB_impl_Chunk tyZ_impl_Chunk Z Z q)<|dw_nil<|rw_indexAddr 0 Z tyE_S_impl_Chunk Z Z Z (hR1 (Nat.zero_lt_of_lt hic)) hic<|rw_storeOwE (F':=[]) (a:=(⟨w64 (x.next + (k_ : Int)),mkS (xc.data.data.toList.drop k_)⟩ : Chunk)) [_,_] eChunk tyS_impl_Chunk.sz how1 hic Z Z Z Z ((pg PR PR))<|fun ch4 how4=>ND<|SQ<|gw_draw' [dd 0,dd 1,dd 2,dd 3,dd 4] [5] mixed Z (FD Z) (ts:=[_]) Z<|DM Z Z Z<|DM Z Z Z<|?_
 refine DT Z Z (fun _ q=>rw_sliceH (l:=xc.data.data.toList) k_ (xc.data.data.toList.take k_) Z tyStr_string Z Z Z (by omega) Z q)<|DT Z Z (fun _ q=>LS (i:=0) [_,_] Z tyS_impl_Buffer Z Z Z Z q)<|DT Z Z (fun _ q=>AS Z Z q)<|dw_nil<|ST (i:=1) [_,_] [_,_] tyS_impl_Buffer.sz Z Z Z Z Z Z Z Z<|ND<|?_
 refine gw_FP (pg PR PR) (gw_F (F':=(ch4) ++ ([])) (by simp only [aN]) ?_)
 refine ret_cn (ch4) Tryz.func192 (res2 Tryz.func192 Z (rv_tmp Z) (rv_s (i:=1) [_,_] tyS_impl_Buffer Z Z Z Z)) ?_ ?_
 ·refine ⟨(xc.data.data.toList.take k_),_,_,Z,owBuffer_mk how4,?_⟩
  exact hF.take hxc hk1_ ho_ h0_
 ·exact (List.sublist_append_left _ _).trans (List.sublist_append_right _ _)
end Go.Proofs.YtbhnekiclbfmgaaGreat
namespace Go.Proofs.YtbhnekiclbfmgaaGreat
open SL Go.RowKit
theorem spec_l7Copy {w : World} {cs : List Value} {x : Receiver} (hv : RdReceiver w cs x) (hb : x.le 1048576) : CN Tryz.prog 132 [.agg cs.toArray] w (OwV OwReceiver x) := by
 obtain ⟨v0,rfl,k0⟩:=hv
 obtain ⟨A0,c0,rfl,hA0⟩:=k0
 obtain ⟨hb0,hb1⟩:=hb
 refine cn_of Tryz.func132 Z Z Z<|SQ<|RG<|BX [_,_,_,_,_,_] Z Z Z<|fun b1=>AL Z tyZ_impl_Receiver<|fun b2=>ND<|SQ<|gw_draw' [dd 0,dd 1,dd 2,dd 3,dd 5,dd 6,dd 7,dd 8,dd 9,dd 10,(4,.add)] [11,12] mixed Z (FD Z) (ts:=[_,_]) Z<|DT Z Z (fun _ q=>FA Z tyF_impl_Receiver_0 Z q)<|DT Z Z (fun _ q=>LD (i:=1) Z tyP_int Z Z Z q)<|DT Z Z (fun _ q=>FA Z tyF_impl_Receiver_1 Z q)<|DT Z Z (fun _ q=>LS (i:=1) [_,_] Z tyS_impl_Buffer Z Z Z Z q)<|?_
 refine DT Z Z (fun _ q=>FA Z tyF_impl_Receiver_2 Z q)<|DT Z Z (fun _ q=>LD (i:=1) Z tyP_int Z Z Z q)<|DT Z Z (fun _ q=>FA Z tyF_impl_Receiver_3 Z q)<|DT Z Z (fun _ q=>LD (i:=1) Z tyP_int Z Z Z q)<|DT Z Z (fun _ q=>FA Z tyF_impl_Receiver_4 Z q)<|DT Z Z (fun _ q=>LD (i:=1) Z tyP_int Z Z Z q)<|DA Z Z (fun _ q=>CN1 Z fun_spec_l6Copy Z (fun w hs=>spec_l6Copy ⟨_,Z,(hA0.s Pl.keeps hs)⟩ ⟨hb0,hb1⟩) q)<|fun vv1 ch1 how1=>?_
 obtain ⟨cs1,rfl,v1_0,c1_0,rfl,h1_0,rfl⟩:=how1
 obtain ⟨R1_0,b1_0,rfl,hR1_0,hrd1_0⟩:=h1_0.shape eChunk
 refine dw_nil<|rw_build [_,_,_,_,_,_] Z tyB_impl_Receiver tyZ_impl_Receiver Z Z<|ST (i:=0) [_,_,_,_,_,_] [_,_,_,_,_,_] tyS_impl_Receiver.sz Z Z Z Z Z Z Z Z<|ND<|?_
 refine ret_cnP (ch:=ch1) (G:=ch1 ++ ([])) (F':=[]) Tryz.func132 (res1 Tryz.func132 Z (rv_s (i:=0) [_,_,_,_,_,_] tyS_impl_Receiver Z Z Z Z)) ?_ ?_ ?_
 ·exact ⟨_,rfl,_,_,rfl,h1_0,rfl⟩
 ·exact (pg PR PR)
 ·simp only []
theorem spec_EndOf {w : World} {cs : List Value} {x : Buffer} (hv : RdBuffer w cs x) (hb : x.le 1048576) : CV Tryz.prog 140 [.agg cs.toArray] w (.int .i64 (endOf x)) := by
 obtain ⟨v0,rfl,k0⟩:=hv
 obtain ⟨A0,c0,rfl,hA0⟩:=k0
 obtain ⟨hb0,hb1⟩:=hb
 refine cv_of Tryz.func140 Z Z Z<|SQ<|RG<|BX [_,_] Z Z Z<|fun b1=>AS Z Z<|ND<|SQ<|SQ<|RG<|FA Z tyF_impl_Buffer_1 Z<|LD (i:=0) Z tyP_S_impl_Chunk Z Z Z<|rw_len Z tyE_S_impl_Chunk Z<|EQ1 Z Z Z<|MV Z Z<|?_
 refine rw_caseL (j:=8) Z (fun h1=>?_) (fun h1=>?_)
 ·have hnil1:=nil_of_eq h1
  refine SKP Z<|PT Z Z Z Z<|ND<|CT Z Z<|SQ<|RG<|FA Z tyF_impl_Buffer_0 Z<|LD (i:=0) Z tyP_int Z Z Z<|AS Z Z<|ND<|RT Tryz.func140 Z Z<|?_
  simp [endOf,hnil1]
 have hpos2:=pos_of_ne h1
 refine ON Z Z Z<|LS (i:=0) [_,_] Z tyS_impl_Buffer Z Z Z Z<|ON Z Z Z<|CV1 Z fun_spec_IsBuffer Z (fun w hs=>spec_IsBuffer ⟨_,Z,(hA0.s Pl.keeps hs)⟩ ⟨hb0,hb1⟩)<|ON Z Z Z<|NT Z Z<|PF Z Z Z Z<|ND<|?_
 refine gw_condN Z (fun h2=>?_) (fun h2=>?_)
 ·refine SQ<|RG<|FA Z tyF_impl_Buffer_0 Z<|LD (i:=0) Z tyP_int Z Z Z<|AS Z Z<|ND<|RT Tryz.func140 Z Z<|?_
  simp [endOf,chunkEnd,h2]
 refine SK<|SQ<|RG<|FA Z tyF_impl_Buffer_1 Z<|LD (i:=0) Z tyP_S_impl_Chunk Z Z Z<|FA Z tyF_impl_Buffer_1 Z<|LD (i:=0) Z tyP_S_impl_Chunk Z Z Z<|rw_len Z tyE_S_impl_Chunk Z<|rw_sub Z Z Z<|?_
 have hi3 : x.chunks.length - 1 < x.chunks.length:=by omega
 obtain ⟨x4,hx4⟩:=get_of_lt hi3
 have hd4:=drop_cons hx4
 have hq5:=hA0.plain hx4
 refine rw_indexAddr (x.chunks.length - 1) Z tyE_S_impl_Chunk Z Z (lenpred_of (by omega) (by omega)) (hA0.some hi3) hi3<|rw_loadX_s [_,_] Z tyS_impl_Chunk Z Z (fun w hs=>hq5.lds0 (n:=2) hs Z)<|AL Z tyZ_impl_Chunk<|fun b2=>ST (i:=0) [_,_] [_,_] tyS_impl_Chunk.sz Z Z Z Z Z Z Z Z<|ND<|SQ<|RG<|FA Z tyF_impl_Chunk_0 Z<|LD (i:=0) Z tyP_int Z Z Z<|FA Z tyF_impl_Chunk_1 Z<|LD (i:=0) Z tyP_string Z Z Z<|rw_lenS Z (by kernel_rfl) Z<|rw_add Z Z Z<|?_
 refine AS Z Z<|ND<|RT Tryz.func140 Z Z<|?_
 simp [endOf,chunkEnd,h2,hx4]
set_option maxRecDepth 20000 in
theorem spec_IsReceiver {w : World} {cs : List Value} {x : Receiver} (hv : RdReceiver w cs x) (hb : x.le 1048576) : CV Tryz.prog 81 [.agg cs.toArray] w (.bool (isReceiver x)) := by
 obtain ⟨v0,rfl,k0⟩:=hv
 obtain ⟨A0,c0,rfl,hA0⟩:=k0
 obtain ⟨hb0,hb1⟩:=hb
 refine cv_of Tryz.func81 Z Z Z<|SQ<|RG<|BX [_,_,_,_,_,_] Z Z Z<|fun b1=>AS Z Z<|ND<|SQ<|SQ<|gw_draw' [dd 0,dd 1,dd 2,dd 3,dd 4,dd 5,dd 6,dd 7,dd 8,dd 9,dd 10,dd 11,dd 12,dd 13,dd 14,dd 15,dd 16,dd 17,dd 18,dd 19,dd 20,dd 21,dd 22,dd 23,dd 24,dd 25,dd 26,dd 27,dd 28,dd 29,dd 30,dd 31,dd 32] [33,34,35,36,37,38,39,40,41,42,43,44,45] mixed Z (FD Z) (ts:=[_,_,_,_,_,_,_,_,_,_,_,_,_]) Z<|?_
 refine DT Z Z (fun _ q=>FA Z tyF_impl_Receiver_1 Z q)<|DT Z Z (fun _ q=>LS (i:=0) [_,_] Z tyS_impl_Buffer Z Z Z Z q)<|DT Z Z (fun _ q=>CV1 Z fun_spec_IsBuffer Z (fun w hs=>spec_IsBuffer ⟨_,Z,(hA0.s Pl.keeps hs)⟩ ⟨hb0,hb1⟩) q)<|DT Z Z (fun _ q=>NT Z Z q)<|DM Z Z Z<|?_
 refine dw_caseN (j:=8) Z (fun h1=>?_) (fun h1=>?_)
 ·refine DSK Z<|DT Z Z (fun _ q=>PT Z Z Z Z q)<|DM Z Z Z<|DSK Z<|DT Z Z (fun _ q=>PT Z Z Z Z q)<|DM Z Z Z<|DSK Z<|DT Z Z (fun _ q=>PT Z Z Z Z q)<|DM Z Z Z<|DSK Z<|dw_nil<|SKP Z<|PT Z Z Z Z<|MV Z Z<|SKP Z<|PT Z Z Z Z<|MV Z Z<|SKP Z<|PT Z Z Z Z<|ND<|CT Z Z<|SQ<|RG<|AS Z Z<|?_
  refine ND<|RT Tryz.func81 Z Z<|?_
  rw [isReceiver_s]
  simp [isReceiverS,maxQuic,h1]
 refine DT Z Z (fun _ q=>ON Z Z Z (FA Z tyF_impl_Receiver_3 Z q))<|DT Z Z (fun _ q=>ON Z Z Z (LD (i:=0) Z tyP_int Z Z Z q))<|DT Z Z (fun _ q=>ON Z Z Z (CV1 Z fun_spec_l4Quic Z (fun w hs=>spec_l4Quic _ w) q))<|DT Z Z (fun _ q=>ON Z Z Z (NT Z Z q))<|DT Z Z (fun _ q=>PF Z Z Z Z q)<|DM Z Z Z<|?_
 refine dw_caseN (j:=14) Z (fun h2=>?_) (fun h2=>?_)
 ·refine DSK Z<|DT Z Z (fun _ q=>PT Z Z Z Z q)<|DM Z Z Z<|DSK Z<|DT Z Z (fun _ q=>PT Z Z Z Z q)<|DM Z Z Z<|DSK Z<|dw_nil<|SKP Z<|PT Z Z Z Z<|MV Z Z<|SKP Z<|PT Z Z Z Z<|MV Z Z<|SKP Z<|PT Z Z Z Z<|ND<|CT Z Z<|SQ<|RG<|AS Z Z<|ND<|RT Tryz.func81 Z Z<|?_
  rw [isReceiver_s]
  simp [isReceiverS,maxQuic,h1,h2]
 refine DT Z Z (fun _ q=>ON Z Z Z (FA Z tyF_impl_Receiver_1 Z q))<|DT Z Z (fun _ q=>ON Z Z Z (LS (i:=0) [_,_] Z tyS_impl_Buffer Z Z Z Z q))<|DT Z Z (fun _ q=>ON Z Z Z (CV1 Z fun_spec_EndOf Z (fun w hs=>spec_EndOf ⟨_,Z,(hA0.s Pl.keeps hs)⟩ ⟨hb0,hb1⟩) q))<|DT Z Z (fun _ q=>ON Z Z Z (FA Z tyF_impl_Receiver_3 Z q))<|DT Z Z (fun _ q=>ON Z Z Z (LD (i:=0) Z tyP_int Z Z Z q))<|?_
 refine DT Z Z (fun _ q=>ON Z Z Z (rw_gtr Z Z Z q))<|DT Z Z (fun _ q=>PF Z Z Z Z q)<|DM Z Z Z<|?_
 refine dw_caseL (j:=22) Z (fun h3=>?_) (fun h3=>?_)
 ·refine DSK Z<|DT Z Z (fun _ q=>PT Z Z Z Z q)<|DM Z Z Z<|DSK Z<|dw_nil<|SKP Z<|PT Z Z Z Z<|MV Z Z<|SKP Z<|PT Z Z Z Z<|MV Z Z<|SKP Z<|PT Z Z Z Z<|ND<|CT Z Z<|SQ<|RG<|AS Z Z<|ND<|RT Tryz.func81 Z Z<|?_
  rw [isReceiver_s]
  simp [isReceiverS,maxQuic,h1,h2,h3]
 refine DT Z Z (fun _ q=>ON Z Z Z (FA Z tyF_impl_Receiver_4 Z q))<|DT Z Z (fun _ q=>ON Z Z Z (LD (i:=0) Z tyP_int Z Z Z q))<|DT Z Z (fun _ q=>ON Z Z Z (CV1 Z fun_spec_l4Quic Z (fun w hs=>spec_l4Quic _ w) q))<|DT Z Z (fun _ q=>ON Z Z Z (NT Z Z q))<|DT Z Z (fun _ q=>PF Z Z Z Z q)<|DM Z Z Z<|?_
 refine dw_caseN (j:=28) Z (fun h4=>?_) (fun h4=>?_)
 ·refine DSK Z<|dw_nil<|SKP Z<|PT Z Z Z Z<|MV Z Z<|SKP Z<|PT Z Z Z Z<|MV Z Z<|SKP Z<|PT Z Z Z Z<|ND<|CT Z Z<|SQ<|RG<|AS Z Z<|ND<|RT Tryz.func81 Z Z<|?_
  rw [isReceiver_s]
  simp [isReceiverS,maxQuic,h1,h2,h3,h4]
 refine DT Z Z (fun _ q=>ON Z Z Z (FA Z tyF_impl_Receiver_2 Z q))<|DT Z Z (fun _ q=>ON Z Z Z (LD (i:=0) Z tyP_int Z Z Z q))<|DT Z Z (fun _ q=>ON Z Z Z (rw_neq Z Z Z q))<|DT Z Z (fun _ q=>ON Z Z Z (MV Z Z q))<|?_
 refine dw_caseN (j:=32) Z (fun h5=>?_) (fun h5=>?_)
 ·refine DT Z Z (fun _ q=>ON Z Z Z (FA Z tyF_impl_Receiver_2 Z q))<|DT Z Z (fun _ q=>ON Z Z Z (LD (i:=0) Z tyP_int Z Z Z q))<|DT Z Z (fun _ q=>ON Z Z Z (FA Z tyF_impl_Receiver_3 Z q))<|DT Z Z (fun _ q=>ON Z Z Z (LD (i:=0) Z tyP_int Z Z Z q))<|dw_nil<|ON Z Z Z<|rw_lss Z Z Z<|ON Z Z Z<|PT Z Z Z Z<|PF Z Z Z Z<|MV Z Z<|?_
  refine rw_caseL (j:=40) Z (fun h6=>?_) (fun h6=>?_)
  ·refine SKP Z<|PT Z Z Z Z<|MV Z Z<|SKP Z<|PT Z Z Z Z<|ND<|CT Z Z<|SQ<|RG<|AS Z Z<|ND<|RT Tryz.func81 Z Z<|?_
   rw [isReceiver_s]
   simp [isReceiverS,maxQuic,h1,h2,h3,h4,h5,h6]
  refine ON Z Z Z<|FA Z tyF_impl_Receiver_2 Z<|ON Z Z Z<|LD (i:=0) Z tyP_int Z Z Z<|ON Z Z Z<|rw_gtr Z Z Z<|PF Z Z Z Z<|MV Z Z<|?_
  refine rw_caseL (j:=45) Z (fun h7=>?_) (fun h7=>?_)
  ·refine SKP Z<|PT Z Z Z Z<|ND<|CT Z Z<|SQ<|RG<|AS Z Z<|ND<|RT Tryz.func81 Z Z<|?_
   rw [isReceiver_s]
   simp [isReceiverS,maxQuic,h1,h2,h3,h4,h5,h6,h7]
  refine ON Z Z Z<|FA Z tyF_impl_Receiver_2 Z<|ON Z Z Z<|LD (i:=0) Z tyP_int Z Z Z<|ON Z Z Z<|rw_lss Z Z Z<|PF Z Z Z Z<|ND<|?_
  refine gw_cond Z (fun h8=>?_) (fun h8=>?_)
  ·refine SQ<|RG<|AS Z Z<|ND<|RT Tryz.func81 Z Z<|?_
   rw [isReceiver_s]
   simp [isReceiverS,maxQuic,h1,h2,h3,h4,h5,h6,h7,h8]
  refine SK<|SQ<|gw_draw' [dd 0,dd 1,dd 2,dd 3,dd 4,dd 5,dd 6,dd 7,dd 8,dd 9,dd 10,dd 11,dd 12] [13,14,15] mixed Z (FD Z) (ts:=[_,_,_]) Z<|DT Z Z (fun _ q=>FA Z tyF_impl_Receiver_2 Z q)<|DT Z Z (fun _ q=>LD (i:=0) Z tyP_int Z Z Z q)<|DT Z Z (fun _ q=>rw_neq Z Z Z q)<|DM Z Z Z<|?_
  refine dw_caseN (j:=53) Z (fun h9=>?_) (fun h9=>?_)
  ·refine DT Z Z (fun _ q=>ON Z Z Z (FA Z tyF_impl_Receiver_1 Z q))<|DT Z Z (fun _ q=>ON Z Z Z (FA Z tyF_impl_Buffer_0 Z q))<|DT Z Z (fun _ q=>ON Z Z Z (LD (i:=0) Z tyP_int Z Z Z q))<|DT Z Z (fun _ q=>ON Z Z Z (FA Z tyF_impl_Receiver_1 Z q))<|DT Z Z (fun _ q=>ON Z Z Z (LS (i:=0) [_,_] Z tyS_impl_Buffer Z Z Z Z q))<|DT Z Z (fun _ q=>ON Z Z Z (CV1 Z fun_spec_ReadyBytes Z (fun w hs=>spec_ReadyBytes ⟨_,Z,(hA0.s Pl.keeps hs)⟩ ⟨hb0,hb1⟩) q))<|?_
   refine DT Z Z (fun _ q=>ON Z Z Z (rw_add Z Z Z q))<|DT Z Z (fun _ q=>ON Z Z Z (FA Z tyF_impl_Receiver_2 Z q))<|DT Z Z (fun _ q=>ON Z Z Z (LD (i:=0) Z tyP_int Z Z Z q))<|dw_nil<|ON Z Z Z<|EQ1 Z Z Z<|PT Z Z Z Z<|AS Z Z<|ND<|SQ<|SQ<|RG<|FA Z tyF_impl_Receiver_0 Z<|LD (i:=0) Z tyP_int Z Z Z<|ND<|BK<|SQ<|RG<|EQ1 Z Z Z<|?_
   refine AS Z Z<|ND<|?_
   refine gw_cond Z (fun h10=>?_) (fun h10=>?_)
   ·refine SQ<|RG<|FA Z tyF_impl_Receiver_2 Z<|LD (i:=0) Z tyP_int Z Z Z<|EQ1 Z Z Z<|MV Z Z<|?_
    refine rw_caseL (j:=72) Z (fun h11=>?_) (fun h11=>?_)
    ·refine ON Z Z Z<|FA Z tyF_impl_Receiver_4 Z<|ON Z Z Z<|LD (i:=0) Z tyP_int Z Z Z<|ON Z Z Z<|EQ1 Z Z Z<|PT Z Z Z Z<|AS Z Z<|ND<|RT Tryz.func81 Z Z<|?_
     rw [isReceiver_s]
     simp_all []
    refine SKP Z<|PF Z Z Z Z<|AS Z Z<|ND<|RT Tryz.func81 Z Z<|?_
    rw [isReceiver_s]
    simp [isReceiverS,maxQuic,h1,h2,h3,h4,h5,h6,h7,h8,h10]
   refine SQ<|RG<|EQ1 Z Z Z<|AS Z Z<|ND<|?_
   refine gw_cond Z (fun h12=>?_) (fun h12=>?_)
   ·refine SQ<|RG<|FA Z tyF_impl_Receiver_2 Z<|LD (i:=0) Z tyP_int Z Z Z<|rw_neq Z Z Z<|MV Z Z<|?_
    refine rw_caseN (j:=82) Z (fun h13=>?_) (fun h13=>?_)
    ·refine ON Z Z Z<|MV Z Z<|ON Z Z Z<|NT Z Z<|PT Z Z Z Z<|MV Z Z<|?_
     refine rw_caseN (j:=86) Z (fun h14=>?_) (fun h14=>?_)
     ·refine ON Z Z Z<|FA Z tyF_impl_Receiver_4 Z<|ON Z Z Z<|LD (i:=0) Z tyP_int Z Z Z<|ON Z Z Z<|EQ1 Z Z Z<|PT Z Z Z Z<|AS Z Z<|ND<|RT Tryz.func81 Z Z<|?_
      rw [isReceiver_s]
      simp [isReceiverS,maxQuic,h1,h2,h3,h4,h5,h6,h7,h8,h10,h12,h14]
     refine SKP Z<|PF Z Z Z Z<|AS Z Z<|ND<|RT Tryz.func81 Z Z<|?_
     rw [isReceiver_s]
     simp [isReceiverS,maxQuic,h1,h2,h3,h4,h5,h6,h7,h8,h10,h12,h14]
    refine SKP Z<|PF Z Z Z Z<|MV Z Z<|SKP Z<|PF Z Z Z Z<|AS Z Z<|ND<|RT Tryz.func81 Z Z<|?_
    rw [isReceiver_s]
    simp_all []
   refine SQ<|RG<|EQ1 Z Z Z<|AS Z Z<|ND<|?_
   refine gw_cond Z (fun h15=>?_) (fun h15=>?_)
   ·refine SQ<|RG<|MV Z Z<|MV Z Z<|?_
    refine rw_caseL (j:=94) Z (fun h16=>?_) (fun h16=>?_)
    ·refine ON Z Z Z<|FA Z tyF_impl_Receiver_4 Z<|ON Z Z Z<|LD (i:=0) Z tyP_int Z Z Z<|ON Z Z Z<|EQ1 Z Z Z<|PT Z Z Z Z<|AS Z Z<|ND<|RT Tryz.func81 Z Z<|?_
     rw [isReceiver_s]
     simp [isReceiverS,maxQuic,h1,h2,h3,h4,h5,h6,h7,h8,h10,h12,h15,h16]
    refine SKP Z<|PF Z Z Z Z<|AS Z Z<|ND<|RT Tryz.func81 Z Z<|?_
    rw [isReceiver_s]
    simp [isReceiverS,maxQuic,h1,h2,h3,h4,h5,h6,h7,h8,h10,h12,h15,h16]
   refine SQ<|RG<|EQ1 Z Z Z<|AS Z Z<|ND<|?_
   refine gw_cond Z (fun h17=>?_) (fun h17=>?_)
   ·refine SQ<|RG<|MV Z Z<|MV Z Z<|?_
    refine rw_caseL (j:=102) Z (fun h18=>?_) (fun h18=>?_)
    ·refine ON Z Z Z<|FA Z tyF_impl_Receiver_1 Z<|ON Z Z Z<|FA Z tyF_impl_Buffer_1 Z<|ON Z Z Z<|LD (i:=0) Z tyP_S_impl_Chunk Z Z Z<|ON Z Z Z<|rw_len Z tyE_S_impl_Chunk Z<|ON Z Z Z<|EQ1 Z Z Z<|PT Z Z Z Z<|MV Z Z<|?_
     refine rw_caseL (j:=109) Z (fun h19=>?_) (fun h19=>?_)
     ·have hnil1:=nil_of_eq h19
      refine ON Z Z Z<|FA Z tyF_impl_Receiver_4 Z<|ON Z Z Z<|LD (i:=0) Z tyP_int Z Z Z<|ON Z Z Z<|EQ1 Z Z Z<|PT Z Z Z Z<|AS Z Z<|ND<|RT Tryz.func81 Z Z<|?_
      rw [isReceiver_s]
      simp [isReceiverS,maxQuic,h1,h2,h3,h4,h5,h6,h7,h8,h10,h12,h15,h17,h18,h19]
     have hpos2:=pos_of_ne h19
     refine SKP Z<|PF Z Z Z Z<|AS Z Z<|ND<|RT Tryz.func81 Z Z<|?_
     rw [isReceiver_s]
     simp [isReceiverS,maxQuic,h1,h2,h3,h4,h5,h6,h7,h8,h10,h12,h15,h17,h18,h19]
    refine SKP Z<|PF Z Z Z Z<|MV Z Z<|SKP Z<|PF Z Z Z Z<|AS Z Z<|ND<|RT Tryz.func81 Z Z<|?_
    rw [isReceiver_s]
    simp [isReceiverS,maxQuic,h1,h2,h3,h4,h5,h6,h7,h8,h10,h12,h15,h17,h18]
   refine SQ<|SQ<|RG<|EQ1 Z Z Z<|AS Z Z<|ND<|?_
   refine gw_cond Z (fun h20=>?_) (fun h20=>?_)
   ·refine SK<|CT Z h20<|SQ<|RG<|FA Z tyF_impl_Receiver_2 Z<|LD (i:=0) Z tyP_int Z Z Z<|rw_neq Z Z Z<|MV Z Z<|?_
    refine rw_caseN (j:=120) Z (fun h21=>?_) (fun h21=>?_)
    ·refine ON Z Z Z<|FA Z tyF_impl_Receiver_3 Z<|ON Z Z Z<|LD (i:=0) Z tyP_int Z Z Z<|ON Z Z Z<|FA Z tyF_impl_Receiver_2 Z<|ON Z Z Z<|LD (i:=0) Z tyP_int Z Z Z<|ON Z Z Z<|EQ1 Z Z Z<|PT Z Z Z Z<|MV Z Z<|?_
     refine rw_caseL (j:=127) Z (fun h22=>?_) (fun h22=>?_)
     ·refine ON Z Z Z<|FA Z tyF_impl_Receiver_1 Z<|ON Z Z Z<|FA Z tyF_impl_Buffer_1 Z<|ON Z Z Z<|LD (i:=0) Z tyP_S_impl_Chunk Z Z Z<|ON Z Z Z<|rw_len Z tyE_S_impl_Chunk Z<|ON Z Z Z<|EQ1 Z Z Z<|PT Z Z Z Z<|AS Z Z<|ND<|RT Tryz.func81 Z Z<|?_
      rw [isReceiver_s]
      simp [isReceiverS,maxQuic,h1,h2,h3,h4,h5,h6,h7,h8,h10,h12,h15,h17,h20,h22]
     refine SKP Z<|PF Z Z Z Z<|AS Z Z<|ND<|RT Tryz.func81 Z Z<|?_
     rw [isReceiver_s]
     simp [isReceiverS,maxQuic,h1,h2,h3,h4,h5,h6,h7,h8,h10,h12,h15,h17,h20,h22]
    refine SKP Z<|PF Z Z Z Z<|MV Z Z<|SKP Z<|PF Z Z Z Z<|AS Z Z<|ND<|RT Tryz.func81 Z Z<|?_
    rw [isReceiver_s]
    simp_all []
   refine RG<|EQ1 Z Z Z<|AS Z Z<|ND<|?_
   refine gw_cond Z (fun h23=>?_) (fun h23=>?_)
   ·refine SQ<|RG<|FA Z tyF_impl_Receiver_2 Z<|LD (i:=0) Z tyP_int Z Z Z<|rw_neq Z Z Z<|MV Z Z<|?_
    refine rw_caseN (j:=120) Z (fun h24=>?_) (fun h24=>?_)
    ·refine ON Z Z Z<|FA Z tyF_impl_Receiver_3 Z<|ON Z Z Z<|LD (i:=0) Z tyP_int Z Z Z<|ON Z Z Z<|FA Z tyF_impl_Receiver_2 Z<|ON Z Z Z<|LD (i:=0) Z tyP_int Z Z Z<|ON Z Z Z<|EQ1 Z Z Z<|PT Z Z Z Z<|MV Z Z<|?_
     refine rw_caseL (j:=127) Z (fun h25=>?_) (fun h25=>?_)
     ·refine ON Z Z Z<|FA Z tyF_impl_Receiver_1 Z<|ON Z Z Z<|FA Z tyF_impl_Buffer_1 Z<|ON Z Z Z<|LD (i:=0) Z tyP_S_impl_Chunk Z Z Z<|ON Z Z Z<|rw_len Z tyE_S_impl_Chunk Z<|ON Z Z Z<|EQ1 Z Z Z<|PT Z Z Z Z<|AS Z Z<|ND<|RT Tryz.func81 Z Z<|?_
      rw [isReceiver_s]
      simp [isReceiverS,maxQuic,h1,h2,h3,h4,h5,h6,h7,h8,h10,h12,h15,h17,h20,h23,h25]
     refine SKP Z<|PF Z Z Z Z<|AS Z Z<|ND<|RT Tryz.func81 Z Z<|?_
     rw [isReceiver_s]
     simp [isReceiverS,maxQuic,h1,h2,h3,h4,h5,h6,h7,h8,h10,h12,h15,h17,h20,h23,h25]
    refine SKP Z<|PF Z Z Z Z<|MV Z Z<|SKP Z<|PF Z Z Z Z<|AS Z Z<|ND<|RT Tryz.func81 Z Z<|?_
    rw [isReceiver_s]
    simp_all []
   refine SK<|IB<|SQ<|RG<|AS Z Z<|ND<|RT Tryz.func81 Z Z<|?_
   rw [isReceiver_s]
   simp [isReceiverS,maxQuic,h1,h2,h3,h4,h5,h6,h7,h8,h10,h12,h15,h17,h20,h23]
  refine DSK Z<|dw_nil<|OF Z Z Z Z<|PF Z Z Z Z<|AS Z Z<|ND<|SQ<|SQ<|RG<|FA Z tyF_impl_Receiver_0 Z<|LD (i:=0) Z tyP_int Z Z Z<|ND<|BK<|SQ<|RG<|EQ1 Z Z Z<|AS Z Z<|ND<|?_
  refine gw_cond Z (fun h26=>?_) (fun h26=>?_)
  ·refine SQ<|RG<|FA Z tyF_impl_Receiver_2 Z<|LD (i:=0) Z tyP_int Z Z Z<|EQ1 Z Z Z<|MV Z Z<|?_
   refine rw_caseL (j:=72) Z (fun h27=>?_) (fun h27=>?_)
   ·refine ON Z Z Z<|FA Z tyF_impl_Receiver_4 Z<|ON Z Z Z<|LD (i:=0) Z tyP_int Z Z Z<|ON Z Z Z<|EQ1 Z Z Z<|PT Z Z Z Z<|AS Z Z<|ND<|RT Tryz.func81 Z Z<|?_
    rw [isReceiver_s]
    simp_all []
   refine SKP Z<|PF Z Z Z Z<|AS Z Z<|ND<|RT Tryz.func81 Z Z<|?_
   rw [isReceiver_s]
   simp [isReceiverS,maxQuic,h1,h2,h3,h4,h5,h6,h7,h8,h26]
  refine SQ<|RG<|EQ1 Z Z Z<|AS Z Z<|ND<|?_
  refine gw_cond Z (fun h28=>?_) (fun h28=>?_)
  ·refine SQ<|RG<|FA Z tyF_impl_Receiver_2 Z<|LD (i:=0) Z tyP_int Z Z Z<|rw_neq Z Z Z<|MV Z Z<|?_
   refine rw_caseN (j:=82) Z (fun h29=>?_) (fun h29=>?_)
   ·refine ON Z Z Z<|MV Z Z<|ON Z Z Z<|NT Z Z<|PT Z Z Z Z<|MV Z Z<|ON Z Z Z<|FA Z tyF_impl_Receiver_4 Z<|ON Z Z Z<|LD (i:=0) Z tyP_int Z Z Z<|ON Z Z Z<|EQ1 Z Z Z<|PT Z Z Z Z<|AS Z Z<|ND<|RT Tryz.func81 Z Z<|?_
    rw [isReceiver_s]
    simp_all []
   refine SKP Z<|PF Z Z Z Z<|MV Z Z<|SKP Z<|PF Z Z Z Z<|AS Z Z<|ND<|RT Tryz.func81 Z Z<|?_
   rw [isReceiver_s]
   simp_all []
  refine SQ<|RG<|EQ1 Z Z Z<|AS Z Z<|ND<|?_
  refine gw_cond Z (fun h30=>?_) (fun h30=>?_)
  ·refine SQ<|RG<|MV Z Z<|MV Z Z<|SKP Z<|PF Z Z Z Z<|AS Z Z<|ND<|RT Tryz.func81 Z Z<|?_
   rw [isReceiver_s]
   simp_all []
  refine SQ<|RG<|EQ1 Z Z Z<|AS Z Z<|ND<|?_
  refine gw_cond Z (fun h31=>?_) (fun h31=>?_)
  ·refine SQ<|RG<|MV Z Z<|MV Z Z<|SKP Z<|PF Z Z Z Z<|MV Z Z<|SKP Z<|PF Z Z Z Z<|AS Z Z<|ND<|RT Tryz.func81 Z Z<|?_
   rw [isReceiver_s]
   simp_all []
  refine SQ<|SQ<|RG<|EQ1 Z Z Z<|AS Z Z<|ND<|?_
  refine gw_cond Z (fun h32=>?_) (fun h32=>?_)
  ·refine SK<|CT Z h32<|SQ<|RG<|FA Z tyF_impl_Receiver_2 Z<|LD (i:=0) Z tyP_int Z Z Z<|rw_neq Z Z Z<|MV Z Z<|?_
   refine rw_caseN (j:=120) Z (fun h33=>?_) (fun h33=>?_)
   ·refine ON Z Z Z<|FA Z tyF_impl_Receiver_3 Z<|ON Z Z Z<|LD (i:=0) Z tyP_int Z Z Z<|ON Z Z Z<|FA Z tyF_impl_Receiver_2 Z<|ON Z Z Z<|LD (i:=0) Z tyP_int Z Z Z<|ON Z Z Z<|EQ1 Z Z Z<|PT Z Z Z Z<|MV Z Z<|?_
    refine rw_caseL (j:=127) Z (fun h34=>?_) (fun h34=>?_)
    ·refine ON Z Z Z<|FA Z tyF_impl_Receiver_1 Z<|ON Z Z Z<|FA Z tyF_impl_Buffer_1 Z<|ON Z Z Z<|LD (i:=0) Z tyP_S_impl_Chunk Z Z Z<|ON Z Z Z<|rw_len Z tyE_S_impl_Chunk Z<|ON Z Z Z<|EQ1 Z Z Z<|PT Z Z Z Z<|AS Z Z<|ND<|RT Tryz.func81 Z Z<|?_
     rw [isReceiver_s]
     simp [isReceiverS,maxQuic,h1,h2,h3,h4,h5,h6,h7,h8,h26,h28,h30,h31,h32,h34]
    refine SKP Z<|PF Z Z Z Z<|AS Z Z<|ND<|RT Tryz.func81 Z Z<|?_
    rw [isReceiver_s]
    simp [isReceiverS,maxQuic,h1,h2,h3,h4,h5,h6,h7,h8,h26,h28,h30,h31,h32,h34]
   refine SKP Z<|PF Z Z Z Z<|MV Z Z<|SKP Z<|PF Z Z Z Z<|AS Z Z<|ND<|RT Tryz.func81 Z Z<|?_
   rw [isReceiver_s]
   simp_all []
  refine RG<|EQ1 Z Z Z<|AS Z Z<|ND<|?_
  refine gw_cond Z (fun h35=>?_) (fun h35=>?_)
  ·refine SQ<|RG<|FA Z tyF_impl_Receiver_2 Z<|LD (i:=0) Z tyP_int Z Z Z<|rw_neq Z Z Z<|MV Z Z<|?_
   refine rw_caseN (j:=120) Z (fun h36=>?_) (fun h36=>?_)
   ·refine ON Z Z Z<|FA Z tyF_impl_Receiver_3 Z<|ON Z Z Z<|LD (i:=0) Z tyP_int Z Z Z<|ON Z Z Z<|FA Z tyF_impl_Receiver_2 Z<|ON Z Z Z<|LD (i:=0) Z tyP_int Z Z Z<|ON Z Z Z<|EQ1 Z Z Z<|PT Z Z Z Z<|MV Z Z<|?_
    refine rw_caseL (j:=127) Z (fun h37=>?_) (fun h37=>?_)
    ·refine ON Z Z Z<|FA Z tyF_impl_Receiver_1 Z<|ON Z Z Z<|FA Z tyF_impl_Buffer_1 Z<|ON Z Z Z<|LD (i:=0) Z tyP_S_impl_Chunk Z Z Z<|ON Z Z Z<|rw_len Z tyE_S_impl_Chunk Z<|ON Z Z Z<|EQ1 Z Z Z<|PT Z Z Z Z<|AS Z Z<|ND<|RT Tryz.func81 Z Z<|?_
     rw [isReceiver_s]
     simp [isReceiverS,maxQuic,h1,h2,h3,h4,h5,h6,h7,h8,h26,h28,h30,h31,h32,h35,h37]
    refine SKP Z<|PF Z Z Z Z<|AS Z Z<|ND<|RT Tryz.func81 Z Z<|?_
    rw [isReceiver_s]
    simp [isReceiverS,maxQuic,h1,h2,h3,h4,h5,h6,h7,h8,h26,h28,h30,h31,h32,h35,h37]
   refine SKP Z<|PF Z Z Z Z<|MV Z Z<|SKP Z<|PF Z Z Z Z<|AS Z Z<|ND<|RT Tryz.func81 Z Z<|?_
   rw [isReceiver_s]
   simp_all []
  refine SK<|IB<|SQ<|RG<|AS Z Z<|ND<|RT Tryz.func81 Z Z<|?_
  rw [isReceiver_s]
  simp [isReceiverS,maxQuic,h1,h2,h3,h4,h5,h6,h7,h8,h26,h28,h30,h31,h32,h35]
 refine DSK Z<|dw_nil<|OF Z Z Z Z<|ON Z Z Z<|PF Z Z Z Z<|PF Z Z Z Z<|MV Z Z<|ON Z Z Z<|FA Z tyF_impl_Receiver_2 Z<|ON Z Z Z<|LD (i:=0) Z tyP_int Z Z Z<|ON Z Z Z<|rw_gtr Z Z Z<|PF Z Z Z Z<|MV Z Z<|?_
 refine rw_caseL (j:=45) Z (fun h38=>?_) (fun h38=>?_)
 ·refine SKP Z<|PT Z Z Z Z<|ND<|CT Z Z<|SQ<|RG<|AS Z Z<|ND<|RT Tryz.func81 Z Z<|?_
  rw [isReceiver_s]
  simp [isReceiverS,maxQuic,h1,h2,h3,h4,h5,h38]
 refine ON Z Z Z<|FA Z tyF_impl_Receiver_2 Z<|ON Z Z Z<|LD (i:=0) Z tyP_int Z Z Z<|ON Z Z Z<|rw_lss Z Z Z<|PF Z Z Z Z<|ND<|?_
 refine gw_cond Z (fun h39=>?_) (fun h39=>?_)
 ·refine SQ<|RG<|AS Z Z<|ND<|RT Tryz.func81 Z Z<|?_
  rw [isReceiver_s]
  simp [isReceiverS,maxQuic,h1,h2,h3,h4,h5,h38,h39]
 refine SK<|SQ<|gw_draw' [dd 0,dd 1,dd 2,dd 3,dd 4,dd 5,dd 6,dd 7,dd 8,dd 9,dd 10,dd 11,dd 12] [13,14,15] mixed Z (FD Z) (ts:=[_,_,_]) Z<|DT Z Z (fun _ q=>FA Z tyF_impl_Receiver_2 Z q)<|DT Z Z (fun _ q=>LD (i:=0) Z tyP_int Z Z Z q)<|DT Z Z (fun _ q=>rw_neq Z Z Z q)<|DM Z Z Z<|?_
 refine dw_caseN (j:=53) Z (fun h40=>?_) (fun h40=>?_)
 ·refine DT Z Z (fun _ q=>ON Z Z Z (FA Z tyF_impl_Receiver_1 Z q))<|DT Z Z (fun _ q=>ON Z Z Z (FA Z tyF_impl_Buffer_0 Z q))<|DT Z Z (fun _ q=>ON Z Z Z (LD (i:=0) Z tyP_int Z Z Z q))<|DT Z Z (fun _ q=>ON Z Z Z (FA Z tyF_impl_Receiver_1 Z q))<|DT Z Z (fun _ q=>ON Z Z Z (LS (i:=0) [_,_] Z tyS_impl_Buffer Z Z Z Z q))<|DT Z Z (fun _ q=>ON Z Z Z (CV1 Z fun_spec_ReadyBytes Z (fun w hs=>spec_ReadyBytes ⟨_,Z,(hA0.s Pl.keeps hs)⟩ ⟨hb0,hb1⟩) q))<|?_
  refine DT Z Z (fun _ q=>ON Z Z Z (rw_add Z Z Z q))<|DT Z Z (fun _ q=>ON Z Z Z (FA Z tyF_impl_Receiver_2 Z q))<|DT Z Z (fun _ q=>ON Z Z Z (LD (i:=0) Z tyP_int Z Z Z q))<|dw_nil<|ON Z Z Z<|EQ1 Z Z Z<|PT Z Z Z Z<|AS Z Z<|ND<|SQ<|SQ<|RG<|FA Z tyF_impl_Receiver_0 Z<|LD (i:=0) Z tyP_int Z Z Z<|ND<|BK<|SQ<|RG<|EQ1 Z Z Z<|?_
  refine AS Z Z<|ND<|?_
  refine gw_cond Z (fun h41=>?_) (fun h41=>?_)
  ·refine SQ<|RG<|FA Z tyF_impl_Receiver_2 Z<|LD (i:=0) Z tyP_int Z Z Z<|EQ1 Z Z Z<|MV Z Z<|?_
   refine rw_caseL (j:=72) Z (fun h42=>?_) (fun h42=>?_)
   ·refine ON Z Z Z<|FA Z tyF_impl_Receiver_4 Z<|ON Z Z Z<|LD (i:=0) Z tyP_int Z Z Z<|ON Z Z Z<|EQ1 Z Z Z<|PT Z Z Z Z<|AS Z Z<|ND<|RT Tryz.func81 Z Z<|?_
    rw [isReceiver_s]
    simp [isReceiverS,maxQuic,h1,h2,h3,h4,h5,h38,h39,h41]
   refine SKP Z<|PF Z Z Z Z<|AS Z Z<|ND<|RT Tryz.func81 Z Z<|?_
   rw [isReceiver_s]
   simp_all []
  refine SQ<|RG<|EQ1 Z Z Z<|AS Z Z<|ND<|?_
  refine gw_cond Z (fun h43=>?_) (fun h43=>?_)
  ·refine SQ<|RG<|FA Z tyF_impl_Receiver_2 Z<|LD (i:=0) Z tyP_int Z Z Z<|rw_neq Z Z Z<|MV Z Z<|?_
   refine rw_caseN (j:=82) Z (fun h44=>?_) (fun h44=>?_)
   ·refine ON Z Z Z<|MV Z Z<|ON Z Z Z<|NT Z Z<|PT Z Z Z Z<|MV Z Z<|?_
    refine rw_caseN (j:=86) Z (fun h45=>?_) (fun h45=>?_)
    ·refine ON Z Z Z<|FA Z tyF_impl_Receiver_4 Z<|ON Z Z Z<|LD (i:=0) Z tyP_int Z Z Z<|ON Z Z Z<|EQ1 Z Z Z<|PT Z Z Z Z<|AS Z Z<|ND<|RT Tryz.func81 Z Z<|?_
     rw [isReceiver_s]
     simp_all []
    refine SKP Z<|PF Z Z Z Z<|AS Z Z<|ND<|RT Tryz.func81 Z Z<|?_
    rw [isReceiver_s]
    simp [isReceiverS,maxQuic,h1,h2,h3,h4,h5,h38,h39,h41,h43,h45]
   refine SKP Z<|PF Z Z Z Z<|MV Z Z<|SKP Z<|PF Z Z Z Z<|AS Z Z<|ND<|RT Tryz.func81 Z Z<|?_
   rw [isReceiver_s]
   simp [isReceiverS,maxQuic,h1,h2,h3,h4,h5,h38,h39,h41,h43]
  refine SQ<|RG<|EQ1 Z Z Z<|AS Z Z<|ND<|?_
  refine gw_cond Z (fun h46=>?_) (fun h46=>?_)
  ·refine SQ<|RG<|MV Z Z<|MV Z Z<|?_
   refine rw_caseL (j:=94) Z (fun h47=>?_) (fun h47=>?_)
   ·refine ON Z Z Z<|FA Z tyF_impl_Receiver_4 Z<|ON Z Z Z<|LD (i:=0) Z tyP_int Z Z Z<|ON Z Z Z<|EQ1 Z Z Z<|PT Z Z Z Z<|AS Z Z<|ND<|RT Tryz.func81 Z Z<|?_
    rw [isReceiver_s]
    simp_all []
   refine SKP Z<|PF Z Z Z Z<|AS Z Z<|ND<|RT Tryz.func81 Z Z<|?_
   rw [isReceiver_s]
   simp [isReceiverS,maxQuic,h1,h2,h3,h4,h5,h38,h39,h41,h43,h46,h47]
  refine SQ<|RG<|EQ1 Z Z Z<|AS Z Z<|ND<|?_
  refine gw_cond Z (fun h48=>?_) (fun h48=>?_)
  ·refine SQ<|RG<|MV Z Z<|MV Z Z<|?_
   refine rw_caseL (j:=102) Z (fun h49=>?_) (fun h49=>?_)
   ·refine ON Z Z Z<|FA Z tyF_impl_Receiver_1 Z<|ON Z Z Z<|FA Z tyF_impl_Buffer_1 Z<|ON Z Z Z<|LD (i:=0) Z tyP_S_impl_Chunk Z Z Z<|ON Z Z Z<|rw_len Z tyE_S_impl_Chunk Z<|ON Z Z Z<|EQ1 Z Z Z<|PT Z Z Z Z<|MV Z Z<|?_
    refine rw_caseL (j:=109) Z (fun h50=>?_) (fun h50=>?_)
    ·have hnil3:=nil_of_eq h50
     refine ON Z Z Z<|FA Z tyF_impl_Receiver_4 Z<|ON Z Z Z<|LD (i:=0) Z tyP_int Z Z Z<|ON Z Z Z<|EQ1 Z Z Z<|PT Z Z Z Z<|AS Z Z<|ND<|RT Tryz.func81 Z Z<|?_
     rw [isReceiver_s]
     simp_all []
    have hpos4:=pos_of_ne h50
    refine SKP Z<|PF Z Z Z Z<|AS Z Z<|ND<|RT Tryz.func81 Z Z<|?_
    rw [isReceiver_s]
    simp [isReceiverS,maxQuic,h1,h2,h3,h4,h5,h38,h39,h41,h43,h46,h48,h49,h50]
   refine SKP Z<|PF Z Z Z Z<|MV Z Z<|SKP Z<|PF Z Z Z Z<|AS Z Z<|ND<|RT Tryz.func81 Z Z<|?_
   rw [isReceiver_s]
   simp [isReceiverS,maxQuic,h1,h2,h3,h4,h5,h38,h39,h41,h43,h46,h48,h49]
  refine SQ<|SQ<|RG<|EQ1 Z Z Z<|AS Z Z<|ND<|?_
  refine gw_cond Z (fun h51=>?_) (fun h51=>?_)
  ·refine SK<|CT Z h51<|SQ<|RG<|FA Z tyF_impl_Receiver_2 Z<|LD (i:=0) Z tyP_int Z Z Z<|rw_neq Z Z Z<|MV Z Z<|?_
   refine rw_caseN (j:=120) Z (fun h52=>?_) (fun h52=>?_)
   ·refine ON Z Z Z<|FA Z tyF_impl_Receiver_3 Z<|ON Z Z Z<|LD (i:=0) Z tyP_int Z Z Z<|ON Z Z Z<|FA Z tyF_impl_Receiver_2 Z<|ON Z Z Z<|LD (i:=0) Z tyP_int Z Z Z<|ON Z Z Z<|EQ1 Z Z Z<|PT Z Z Z Z<|MV Z Z<|?_
    refine rw_caseL (j:=127) Z (fun h53=>?_) (fun h53=>?_)
    ·refine ON Z Z Z<|FA Z tyF_impl_Receiver_1 Z<|ON Z Z Z<|FA Z tyF_impl_Buffer_1 Z<|ON Z Z Z<|LD (i:=0) Z tyP_S_impl_Chunk Z Z Z<|ON Z Z Z<|rw_len Z tyE_S_impl_Chunk Z<|ON Z Z Z<|EQ1 Z Z Z<|PT Z Z Z Z<|AS Z Z<|ND<|RT Tryz.func81 Z Z<|?_
     rw [isReceiver_s]
     simp_all []
    refine SKP Z<|PF Z Z Z Z<|AS Z Z<|ND<|RT Tryz.func81 Z Z<|?_
    rw [isReceiver_s]
    simp [isReceiverS,maxQuic,h1,h2,h3,h4,h5,h38,h39,h41,h43,h46,h48,h51,h53]
   refine SKP Z<|PF Z Z Z Z<|MV Z Z<|SKP Z<|PF Z Z Z Z<|AS Z Z<|ND<|RT Tryz.func81 Z Z<|?_
   rw [isReceiver_s]
   simp [isReceiverS,maxQuic,h1,h2,h3,h4,h5,h38,h39,h41,h43,h46,h48,h51]
  refine RG<|EQ1 Z Z Z<|AS Z Z<|ND<|?_
  refine gw_cond Z (fun h54=>?_) (fun h54=>?_)
  ·refine SQ<|RG<|FA Z tyF_impl_Receiver_2 Z<|LD (i:=0) Z tyP_int Z Z Z<|rw_neq Z Z Z<|MV Z Z<|?_
   refine rw_caseN (j:=120) Z (fun h55=>?_) (fun h55=>?_)
   ·refine ON Z Z Z<|FA Z tyF_impl_Receiver_3 Z<|ON Z Z Z<|LD (i:=0) Z tyP_int Z Z Z<|ON Z Z Z<|FA Z tyF_impl_Receiver_2 Z<|ON Z Z Z<|LD (i:=0) Z tyP_int Z Z Z<|ON Z Z Z<|EQ1 Z Z Z<|PT Z Z Z Z<|MV Z Z<|?_
    refine rw_caseL (j:=127) Z (fun h56=>?_) (fun h56=>?_)
    ·refine ON Z Z Z<|FA Z tyF_impl_Receiver_1 Z<|ON Z Z Z<|FA Z tyF_impl_Buffer_1 Z<|ON Z Z Z<|LD (i:=0) Z tyP_S_impl_Chunk Z Z Z<|ON Z Z Z<|rw_len Z tyE_S_impl_Chunk Z<|ON Z Z Z<|EQ1 Z Z Z<|PT Z Z Z Z<|AS Z Z<|ND<|RT Tryz.func81 Z Z<|?_
     rw [isReceiver_s]
     simp_all []
    refine SKP Z<|PF Z Z Z Z<|AS Z Z<|ND<|RT Tryz.func81 Z Z<|?_
    rw [isReceiver_s]
    simp [isReceiverS,maxQuic,h1,h2,h3,h4,h5,h38,h39,h41,h43,h46,h48,h51,h54,h56]
   refine SKP Z<|PF Z Z Z Z<|MV Z Z<|SKP Z<|PF Z Z Z Z<|AS Z Z<|ND<|RT Tryz.func81 Z Z<|?_
   rw [isReceiver_s]
   simp [isReceiverS,maxQuic,h1,h2,h3,h4,h5,h38,h39,h41,h43,h46,h48,h51,h54]
  refine SK<|IB<|SQ<|RG<|AS Z Z<|ND<|RT Tryz.func81 Z Z<|?_
  rw [isReceiver_s]
  simp [isReceiverS,maxQuic,h1,h2,h3,h4,h5,h38,h39,h41,h43,h46,h48,h51,h54]
 refine DSK Z<|dw_nil<|OF Z Z Z Z<|PF Z Z Z Z<|AS Z Z<|ND<|SQ<|SQ<|RG<|FA Z tyF_impl_Receiver_0 Z<|LD (i:=0) Z tyP_int Z Z Z<|ND<|BK<|SQ<|RG<|EQ1 Z Z Z<|AS Z Z<|ND<|?_
 refine gw_cond Z (fun h57=>?_) (fun h57=>?_)
 ·refine SQ<|RG<|FA Z tyF_impl_Receiver_2 Z<|LD (i:=0) Z tyP_int Z Z Z<|EQ1 Z Z Z<|MV Z Z<|?_
  refine rw_caseL (j:=72) Z (fun h58=>?_) (fun h58=>?_)
  ·refine ON Z Z Z<|FA Z tyF_impl_Receiver_4 Z<|ON Z Z Z<|LD (i:=0) Z tyP_int Z Z Z<|ON Z Z Z<|EQ1 Z Z Z<|PT Z Z Z Z<|AS Z Z<|ND<|RT Tryz.func81 Z Z<|?_
   rw [isReceiver_s]
   simp [isReceiverS,maxQuic,h1,h2,h3,h4,h5,h38,h39,h57]
  refine SKP Z<|PF Z Z Z Z<|AS Z Z<|ND<|RT Tryz.func81 Z Z<|?_
  rw [isReceiver_s]
  simp_all []
 refine SQ<|RG<|EQ1 Z Z Z<|AS Z Z<|ND<|?_
 refine gw_cond Z (fun h59=>?_) (fun h59=>?_)
 ·refine SQ<|RG<|FA Z tyF_impl_Receiver_2 Z<|LD (i:=0) Z tyP_int Z Z Z<|rw_neq Z Z Z<|MV Z Z<|?_
  refine rw_caseN (j:=82) Z (fun h60=>?_) (fun h60=>?_)
  ·refine ON Z Z Z<|MV Z Z<|ON Z Z Z<|NT Z Z<|PT Z Z Z Z<|MV Z Z<|ON Z Z Z<|FA Z tyF_impl_Receiver_4 Z<|ON Z Z Z<|LD (i:=0) Z tyP_int Z Z Z<|ON Z Z Z<|EQ1 Z Z Z<|PT Z Z Z Z<|AS Z Z<|ND<|RT Tryz.func81 Z Z<|?_
   rw [isReceiver_s]
   simp_all []
  refine SKP Z<|PF Z Z Z Z<|MV Z Z<|SKP Z<|PF Z Z Z Z<|AS Z Z<|ND<|RT Tryz.func81 Z Z<|?_
  rw [isReceiver_s]
  simp [isReceiverS,maxQuic,h1,h2,h3,h4,h5,h38,h39,h57,h59]
 refine SQ<|RG<|EQ1 Z Z Z<|AS Z Z<|ND<|?_
 refine gw_cond Z (fun h61=>?_) (fun h61=>?_)
 ·refine SQ<|RG<|MV Z Z<|MV Z Z<|SKP Z<|PF Z Z Z Z<|AS Z Z<|ND<|RT Tryz.func81 Z Z<|?_
  rw [isReceiver_s]
  simp [isReceiverS,maxQuic,h1,h2,h3,h4,h5,h38,h39,h57,h59,h61]
 refine SQ<|RG<|EQ1 Z Z Z<|AS Z Z<|ND<|?_
 refine gw_cond Z (fun h62=>?_) (fun h62=>?_)
 ·refine SQ<|RG<|MV Z Z<|MV Z Z<|SKP Z<|PF Z Z Z Z<|MV Z Z<|SKP Z<|PF Z Z Z Z<|AS Z Z<|ND<|RT Tryz.func81 Z Z<|?_
  rw [isReceiver_s]
  simp [isReceiverS,maxQuic,h1,h2,h3,h4,h5,h38,h39,h57,h59,h61,h62]
 refine SQ<|SQ<|RG<|EQ1 Z Z Z<|AS Z Z<|ND<|?_
 refine gw_cond Z (fun h63=>?_) (fun h63=>?_)
 ·refine SK<|CT Z h63<|SQ<|RG<|FA Z tyF_impl_Receiver_2 Z<|LD (i:=0) Z tyP_int Z Z Z<|rw_neq Z Z Z<|MV Z Z<|?_
  refine rw_caseN (j:=120) Z (fun h64=>?_) (fun h64=>?_)
  ·refine ON Z Z Z<|FA Z tyF_impl_Receiver_3 Z<|ON Z Z Z<|LD (i:=0) Z tyP_int Z Z Z<|ON Z Z Z<|FA Z tyF_impl_Receiver_2 Z<|ON Z Z Z<|LD (i:=0) Z tyP_int Z Z Z<|ON Z Z Z<|EQ1 Z Z Z<|PT Z Z Z Z<|MV Z Z<|?_
   refine rw_caseL (j:=127) Z (fun h65=>?_) (fun h65=>?_)
   ·refine ON Z Z Z<|FA Z tyF_impl_Receiver_1 Z<|ON Z Z Z<|FA Z tyF_impl_Buffer_1 Z<|ON Z Z Z<|LD (i:=0) Z tyP_S_impl_Chunk Z Z Z<|ON Z Z Z<|rw_len Z tyE_S_impl_Chunk Z<|ON Z Z Z<|EQ1 Z Z Z<|PT Z Z Z Z<|AS Z Z<|ND<|RT Tryz.func81 Z Z<|?_
    rw [isReceiver_s]
    simp_all []
   refine SKP Z<|PF Z Z Z Z<|AS Z Z<|ND<|RT Tryz.func81 Z Z<|?_
   rw [isReceiver_s]
   simp [isReceiverS,maxQuic,h1,h2,h3,h4,h5,h38,h39,h57,h59,h61,h62,h63,h65]
  refine SKP Z<|PF Z Z Z Z<|MV Z Z<|SKP Z<|PF Z Z Z Z<|AS Z Z<|ND<|RT Tryz.func81 Z Z<|?_
  rw [isReceiver_s]
  simp [isReceiverS,maxQuic,h1,h2,h3,h4,h5,h38,h39,h57,h59,h61,h62,h63]
 refine RG<|EQ1 Z Z Z<|AS Z Z<|ND<|?_
 refine gw_cond Z (fun h66=>?_) (fun h66=>?_)
 ·refine SQ<|RG<|FA Z tyF_impl_Receiver_2 Z<|LD (i:=0) Z tyP_int Z Z Z<|rw_neq Z Z Z<|MV Z Z<|?_
  refine rw_caseN (j:=120) Z (fun h67=>?_) (fun h67=>?_)
  ·refine ON Z Z Z<|FA Z tyF_impl_Receiver_3 Z<|ON Z Z Z<|LD (i:=0) Z tyP_int Z Z Z<|ON Z Z Z<|FA Z tyF_impl_Receiver_2 Z<|ON Z Z Z<|LD (i:=0) Z tyP_int Z Z Z<|ON Z Z Z<|EQ1 Z Z Z<|PT Z Z Z Z<|MV Z Z<|?_
   refine rw_caseL (j:=127) Z (fun h68=>?_) (fun h68=>?_)
   ·refine ON Z Z Z<|FA Z tyF_impl_Receiver_1 Z<|ON Z Z Z<|FA Z tyF_impl_Buffer_1 Z<|ON Z Z Z<|LD (i:=0) Z tyP_S_impl_Chunk Z Z Z<|ON Z Z Z<|rw_len Z tyE_S_impl_Chunk Z<|ON Z Z Z<|EQ1 Z Z Z<|PT Z Z Z Z<|AS Z Z<|ND<|RT Tryz.func81 Z Z<|?_
    rw [isReceiver_s]
    simp_all []
   refine SKP Z<|PF Z Z Z Z<|AS Z Z<|ND<|RT Tryz.func81 Z Z<|?_
   rw [isReceiver_s]
   simp [isReceiverS,maxQuic,h1,h2,h3,h4,h5,h38,h39,h57,h59,h61,h62,h63,h66,h68]
  refine SKP Z<|PF Z Z Z Z<|MV Z Z<|SKP Z<|PF Z Z Z Z<|AS Z Z<|ND<|RT Tryz.func81 Z Z<|?_
  rw [isReceiver_s]
  simp [isReceiverS,maxQuic,h1,h2,h3,h4,h5,h38,h39,h57,h59,h61,h62,h63,h66]
 refine SK<|IB<|SQ<|RG<|AS Z Z<|ND<|RT Tryz.func81 Z Z<|?_
 rw [isReceiver_s]
 simp [isReceiverS,maxQuic,h1,h2,h3,h4,h5,h38,h39,h57,h59,h61,h62,h63,h66]
theorem spec_l7Final {w : World} {cs : List Value} {x : Receiver} (hv : RdReceiver w cs x) (e : Int) (f : Bool) : CV Tryz.prog 190 [.agg cs.toArray, .int .i64 e, .bool f] w (.int .i64 (recvFin x e f)) := by
 obtain ⟨v0,rfl,k0⟩:=hv
 obtain ⟨A0,c0,rfl,hA0⟩:=k0
 refine cv_of Tryz.func190 Z Z Z<|SQ<|RG<|BX [_,_,_,_,_,_] Z Z Z<|fun b1=>AS Z Z<|ND<|SQ<|SQ<|RG<|FA Z tyF_impl_Receiver_2 Z<|LD (i:=0) Z tyP_int Z Z Z<|rw_neq Z Z Z<|MV Z Z<|?_
 refine rw_caseN (j:=10) Z (fun h1=>?_) (fun h1=>?_)
 ·refine ON Z Z Z<|MV Z Z<|ON Z Z Z<|FA Z tyF_impl_Receiver_2 Z<|ON Z Z Z<|LD (i:=0) Z tyP_int Z Z Z<|ON Z Z Z<|rw_gtr Z Z Z<|ON Z Z Z<|MV Z Z<|?_
  refine rw_caseL (j:=15) Z (fun h2=>?_) (fun h2=>?_)
  ·refine SKP Z<|ON Z Z Z<|PT Z Z Z Z<|PT Z Z Z Z<|MV Z Z<|SKP Z<|PT Z Z Z Z<|ND<|CT Z Z<|SQ<|RG<|AS Z Z<|ND<|RT Tryz.func190 Z Z<|?_
   simp [recvFin,h1,h2]
  refine ON Z Z Z<|MV Z Z<|ON Z Z Z<|MV Z Z<|?_
  refine rw_caseL (j:=17) Z (fun h3=>?_) (fun h3=>?_)
  ·refine ON Z Z Z<|MV Z Z<|ON Z Z Z<|FA Z tyF_impl_Receiver_2 Z<|ON Z Z Z<|LD (i:=0) Z tyP_int Z Z Z<|ON Z Z Z<|rw_neq Z Z Z<|ON Z Z Z<|PT Z Z Z Z<|ON Z Z Z<|PF Z Z Z Z<|PT Z Z Z Z<|MV Z Z<|?_
   refine rw_caseN (j:=25) Z (fun h4=>?_) (fun h4=>?_)
   ·refine SKP Z<|PT Z Z Z Z<|ND<|CT Z Z<|SQ<|RG<|AS Z Z<|ND<|RT Tryz.func190 Z Z<|?_
    simp [recvFin,h1,h2,h3,h4]
   refine ON Z Z Z<|MV Z Z<|ON Z Z Z<|MV Z Z<|ON Z Z h3<|MV Z Z<|ON Z Z h3<|FA Z tyF_impl_Receiver_3 Z<|ON Z Z h3<|LD (i:=0) Z tyP_int Z Z Z<|ON Z Z h3<|rw_lss Z Z Z<|ON Z Z Z<|PT Z Z h3 Z<|PF Z Z Z Z<|ND<|?_
   refine gw_cond Z (fun h5=>?_) (fun h5=>?_)
   ·refine SQ<|RG<|AS Z Z<|ND<|RT Tryz.func190 Z Z<|?_
    simp [recvFin,h1,h2,h3,h4,h5]
   refine SK<|SQ<|RG<|AS Z Z<|ND<|RT Tryz.func190 Z Z<|?_
   simp [recvFin,h1,h2,h3,h4,h5]
  refine SKP Z<|ON Z Z Z<|PF Z Z Z Z<|ON Z Z Z<|PF Z Z Z Z<|PT Z Z Z Z<|MV Z Z<|ON Z Z Z<|MV Z Z<|ON Z Z Z<|MV Z Z<|rw_lit (j:=27) Z h3<|SKP Z<|ON Z Z Z<|PF Z Z Z Z<|PF Z Z Z Z<|ND<|CF Z Z<|SK<|SQ<|RG<|AS Z Z<|ND<|RT Tryz.func190 Z Z<|?_
  simp [recvFin,h1,h2,h3]
 refine SKP Z<|PF Z Z Z Z<|MV Z Z<|ON Z Z Z<|MV Z Z<|ON Z Z Z<|MV Z Z<|?_
 refine rw_caseL (j:=27) Z (fun h6=>?_) (fun h6=>?_)
 ·refine ON Z Z Z<|MV Z Z<|ON Z Z Z<|FA Z tyF_impl_Receiver_3 Z<|ON Z Z Z<|LD (i:=0) Z tyP_int Z Z Z<|ON Z Z Z<|rw_lss Z Z Z<|ON Z Z Z<|PT Z Z Z Z<|PF Z Z Z Z<|ND<|?_
  refine gw_cond Z (fun h7=>?_) (fun h7=>?_)
  ·refine SQ<|RG<|AS Z Z<|ND<|RT Tryz.func190 Z Z<|?_
   simp [recvFin,h1,h6,h7]
  refine SK<|SQ<|RG<|AS Z Z<|ND<|RT Tryz.func190 Z Z<|?_
  simp [recvFin,h1,h6,h7]
 refine SKP Z<|ON Z Z Z<|PF Z Z Z Z<|PF Z Z Z Z<|ND<|CF Z Z<|SK<|SQ<|RG<|AS Z Z<|ND<|RT Tryz.func190 Z Z<|?_
 simp [recvFin,h1,h6]
set_option maxHeartbeats 8000000 in
set_option maxRecDepth 20000 in
theorem spec_ReceiveData {w : World} {cs : List Value} {x : Receiver} (hv : RdReceiver w cs x) (hF : FineR x) (o : Int) {D : List UInt8} (hn_ : o + (D.length : Int) ≤ 100) (f : Bool) : CN Tryz.prog 177 [.agg cs.toArray, .int .i64 o, .string (mkS D), .bool f] w (fun v ch => ∃ cs' r' e', v = .tuple #[.agg cs'.toArray, e'] ∧ OwReceiver cs' r' ch ∧ FineR r') := by
 obtain ⟨v0,rfl,k0⟩:=hv
 obtain ⟨A0,c0,rfl,hA0⟩:=k0
 obtain ⟨hb0,hb1⟩:=FineC.leR hF.c
 refine cn_of Tryz.func177 Z Z Z<|SQ<|RG<|BX [_,_,_,_,_,_] Z Z Z<|fun b1=>AL Z tyZ_impl_Receiver<|fun b2=>AS Z Z<|ND<|SQ<|RG<|LS (i:=1) [_,_,_,_,_,_] Z tyS_impl_Receiver Z Z Z Z<|CN1 Z fun_spec_l7Copy Z (fun w hs=>spec_l7Copy ⟨_,Z,(hA0.s Pl.keeps hs)⟩ ⟨hb0,hb1⟩)<|fun vv1 ch1 how1=>?_
 obtain ⟨cs1,rfl,v1_0,c1_0,rfl,h1_0,rfl⟩:=how1
 obtain ⟨R1_0,b1_0,rfl,hR1_0,hrd1_0⟩:=h1_0.shape eChunk
 refine AL Z tyZ_impl_Receiver<|fun b3=>ST (i:=0) [_,_,_,_,_,_] [_,_,_,_,_,_] tyS_impl_Receiver.sz Z Z Z Z Z Z Z Z<|ND<|SQ<|SQ<|RG<|LS (i:=2) [_,_,_,_,_,_] Z tyS_impl_Receiver Z Z Z Z<|CV1 Z fun_spec_IsReceiver Z (fun w hs=>spec_IsReceiver ⟨_,Z,(hA0.s Pl.keeps hs)⟩ ⟨hb0,hb1⟩)<|NT Z Z<|MV Z Z<|?_
 refine rw_caseN (j:=18) Z (fun h1=>?_) (fun h1=>?_)
 ·refine SKP Z<|PT Z Z Z Z<|MV Z Z<|SKP Z<|PT Z Z Z Z<|ND<|CT Z Z<|SQ<|RG<|LS (i:=0) [_,_,_,_,_,_] Z tyS_impl_Receiver Z Z Z Z<|ST (i:=1) [_,_,_,_,_,_] [_,_,_,_,_,_] tyS_impl_Receiver.sz Z Z Z Z Z Z Z Z<|AS Z Z<|ND<|?_
  refine gw_FP (pg PR PR) (gw_F (F':=(ch1) ++ ([])) (by simp only [aN]) ?_)
  refine ret_cn (ch1) Tryz.func177 (res2 Tryz.func177 Z (rv_s (i:=1) [_,_,_,_,_,_] tyS_impl_Receiver Z Z Z Z) (rv_tmp Z)) ?_ ?_
  ·refine ⟨_,_,_,Z,owReceiver_mk h1_0,?_⟩
   exact ⟨hF.c,(by first | exact hF.h | (have ho_:=of_decide_eq_false ‹decide (o < (0 : Int)) = false›; show max x.highest (IntKind.i64.wrap (o + (D.length : Int))) ≤ 100; rw [show IntKind.i64.wrap (o + (D.length : Int)) = o + (D.length : Int) from w64_of (by omega) (by omega)]; have:=hF.h; omega) | exact hn_ | (show (0 : Int) ≤ 100; decide))⟩
  ·exact (List.sublist_append_left _ _).trans (List.sublist_append_right _ _)
 refine ON Z Z Z<|MV Z Z<|ON Z Z Z<|rw_lss Z Z Z<|PF Z Z Z Z<|MV Z Z<|?_
 refine rw_caseL (j:=22) Z (fun h2=>?_) (fun h2=>?_)
 ·refine SKP Z<|PT Z Z Z Z<|ND<|CT Z Z<|SQ<|RG<|LS (i:=0) [_,_,_,_,_,_] Z tyS_impl_Receiver Z Z Z Z<|ST (i:=1) [_,_,_,_,_,_] [_,_,_,_,_,_] tyS_impl_Receiver.sz Z Z Z Z Z Z Z Z<|AS Z Z<|ND<|?_
  refine gw_FP (pg PR PR) (gw_F (F':=(ch1) ++ ([])) (by simp only [aN]) ?_)
  refine ret_cn (ch1) Tryz.func177 (res2 Tryz.func177 Z (rv_s (i:=1) [_,_,_,_,_,_] tyS_impl_Receiver Z Z Z Z) (rv_tmp Z)) ?_ ?_
  ·refine ⟨_,_,_,Z,owReceiver_mk h1_0,?_⟩
   exact ⟨hF.c,(by first | exact hF.h | (have ho_:=of_decide_eq_false ‹decide (o < (0 : Int)) = false›; show max x.highest (IntKind.i64.wrap (o + (D.length : Int))) ≤ 100; rw [show IntKind.i64.wrap (o + (D.length : Int)) = o + (D.length : Int) from w64_of (by omega) (by omega)]; have:=hF.h; omega) | exact hn_ | (show (0 : Int) ≤ 100; decide))⟩
  ·exact (List.sublist_append_left _ _).trans (List.sublist_append_right _ _)
 refine ON Z Z Z<|MV Z Z<|ON Z Z Z<|MV Z Z<|ON Z Z Z<|rw_lenL Z tyStr_string Z<|ON Z Z Z<|rw_sub Z Z Z<|ON Z Z Z<|rw_gtr Z Z Z<|PF Z Z Z Z<|ND<|?_
 refine gw_cond Z (fun h3=>?_) (fun h3=>?_)
 ·refine SQ<|RG<|LS (i:=0) [_,_,_,_,_,_] Z tyS_impl_Receiver Z Z Z Z<|ST (i:=1) [_,_,_,_,_,_] [_,_,_,_,_,_] tyS_impl_Receiver.sz Z Z Z Z Z Z Z Z<|AS Z Z<|ND<|?_
  refine gw_FP (pg PR PR) (gw_F (F':=(ch1) ++ ([])) (by simp only [aN]) ?_)
  refine ret_cn (ch1) Tryz.func177 (res2 Tryz.func177 Z (rv_s (i:=1) [_,_,_,_,_,_] tyS_impl_Receiver Z Z Z Z) (rv_tmp Z)) ?_ ?_
  ·refine ⟨_,_,_,Z,owReceiver_mk h1_0,?_⟩
   exact ⟨hF.c,(by first | exact hF.h | (have ho_:=of_decide_eq_false ‹decide (o < (0 : Int)) = false›; show max x.highest (IntKind.i64.wrap (o + (D.length : Int))) ≤ 100; rw [show IntKind.i64.wrap (o + (D.length : Int)) = o + (D.length : Int) from w64_of (by omega) (by omega)]; have:=hF.h; omega) | exact hn_ | (show (0 : Int) ≤ 100; decide))⟩
  ·exact (List.sublist_append_left _ _).trans (List.sublist_append_right _ _)
 refine SK<|SQ<|RG<|MV Z Z<|MV Z Z<|rw_lenL Z tyStr_string Z<|rw_add Z Z Z<|AS Z Z<|ND<|SQ<|RG<|LS (i:=2) [_,_,_,_,_,_] Z tyS_impl_Receiver Z Z Z Z<|MV Z Z<|MV Z Z<|CV1 Z fun_spec_l7Final Z (fun w hs=>spec_l7Final ⟨_,Z,(hA0.s Pl.keeps hs)⟩ _ _)<|AS Z Z<|ND<|SQ<|SQ<|RG<|MV Z Z<|rw_neq Z Z Z<|MV Z Z<|?_
 refine rw_caseN (j:=40) Z (fun h4=>?_) (fun h4=>?_)
 ·refine SKP Z<|PT Z Z Z Z<|ND<|CT Z Z<|SQ<|RG<|LS (i:=0) [_,_,_,_,_,_] Z tyS_impl_Receiver Z Z Z Z<|MV Z Z<|ST (i:=1) [_,_,_,_,_,_] [_,_,_,_,_,_] tyS_impl_Receiver.sz Z Z Z Z Z Z Z Z<|AS Z Z<|ND<|?_
  refine gw_FP (pg PR PR) (gw_F (F':=(ch1) ++ ([])) (by simp only [aN]) ?_)
  refine ret_cn (ch1) Tryz.func177 (res2 Tryz.func177 Z (rv_s (i:=1) [_,_,_,_,_,_] tyS_impl_Receiver Z Z Z Z) (rv_tmp Z)) ?_ ?_
  ·refine ⟨_,_,_,Z,owReceiver_mk h1_0,?_⟩
   exact ⟨hF.c,(by first | exact hF.h | (have ho_:=of_decide_eq_false ‹decide (o < (0 : Int)) = false›; show max x.highest (IntKind.i64.wrap (o + (D.length : Int))) ≤ 100; rw [show IntKind.i64.wrap (o + (D.length : Int)) = o + (D.length : Int) from w64_of (by omega) (by omega)]; have:=hF.h; omega) | exact hn_ | (show (0 : Int) ≤ 100; decide))⟩
  ·exact (List.sublist_append_left _ _).trans (List.sublist_append_right _ _)
 refine ON Z Z Z<|FA Z tyF_impl_Receiver_0 Z<|ON Z Z Z<|LD (i:=2) Z tyP_int Z Z Z<|ON Z Z Z<|rw_gtr Z Z Z<|PF Z Z Z Z<|ND<|?_
 refine gw_cond Z (fun h5=>?_) (fun h5=>?_)
 ·refine SQ<|RG<|LS (i:=0) [_,_,_,_,_,_] Z tyS_impl_Receiver Z Z Z Z<|MV Z Z<|ST (i:=1) [_,_,_,_,_,_] [_,_,_,_,_,_] tyS_impl_Receiver.sz Z Z Z Z Z Z Z Z<|AS Z Z<|ND<|?_
  refine gw_FP (pg PR PR) (gw_F (F':=(ch1) ++ ([])) (by simp only [aN]) ?_)
  refine ret_cn (ch1) Tryz.func177 (res2 Tryz.func177 Z (rv_s (i:=1) [_,_,_,_,_,_] tyS_impl_Receiver Z Z Z Z) (rv_tmp Z)) ?_ ?_
  ·refine ⟨_,_,_,Z,owReceiver_mk h1_0,?_⟩
   exact ⟨hF.c,(by first | exact hF.h | (have ho_:=of_decide_eq_false ‹decide (o < (0 : Int)) = false›; show max x.highest (IntKind.i64.wrap (o + (D.length : Int))) ≤ 100; rw [show IntKind.i64.wrap (o + (D.length : Int)) = o + (D.length : Int) from w64_of (by omega) (by omega)]; have:=hF.h; omega) | exact hn_ | (show (0 : Int) ≤ 100; decide))⟩
  ·exact (List.sublist_append_left _ _).trans (List.sublist_append_right _ _)
 refine SK<|SQ<|RG<|FA Z tyF_impl_Receiver_3 Z<|LD (i:=2) Z tyP_int Z Z Z<|MV Z Z<|rw_max Z Z Z<|FA Z tyF_impl_Receiver_3 Z<|ST (i:=0) [_] [_,_,_,_,_,_] tyP_int.sz Z Z Z Z Z Z Z Z<|ND<|SQ<|SQ<|RG<|MV Z Z<|ND<|?_
 refine gw_cond Z (fun h6=>?_) (fun h6=>?_)
 ·refine SQ<|RG<|MV Z Z<|FA Z tyF_impl_Receiver_2 Z<|ST (i:=0) [_] [_,_,_,_,_,_] tyP_int.sz Z Z Z Z Z Z Z Z<|ND<|RG<|FA Z tyF_impl_Receiver_0 Z<|ST (i:=0) [_] [_,_,_,_,_,_] tyP_int.sz Z Z Z Z Z Z Z Z<|ND<|SQ<|RG<|FA Z tyF_impl_Receiver_1 Z<|LS (i:=2) [_,_] Z tyS_impl_Buffer Z Z Z Z<|MV Z Z<|MV Z Z<|CN1 Z fun_spec_InsertData Z (fun w hs=>spec_InsertData ⟨_,Z,(hA0.s Pl.keeps hs)⟩ hF.c _ hn_)<|fun v2 ch2 how2=>?_
  obtain ⟨cs2,b2,rfl,how2,hFB2⟩:=how2
  obtain ⟨v2_0,ch2,rfl,h2_0,rfl⟩:=how2
  obtain ⟨R2_0,b2_0,rfl,hR2_0,hrd2_0⟩:=h2_0.shape eChunk
  refine rw_F (F':=ch2 ++ (ch1 ++ ([]))) (by simp only [aN])<|?_
  obtain ⟨hbc3_0,hbc3_1⟩:=FineC.le hFB2
  refine FA Z tyF_impl_Receiver_1 Z<|ST (i:=0) [_,_] [_,_,_,_,_,_] tyS_impl_Buffer.sz Z Z Z Z Z Z Z Z<|ND<|SQ<|SQ<|gw_draw' [dd 0,dd 1,dd 2,dd 3,dd 4,dd 5,dd 6,dd 7,dd 8,dd 9,dd 10,dd 11,dd 12] [13,14] mixed Z (FD Z) (ts:=[_,_]) Z<|DT Z Z (fun _ q=>FA Z tyF_impl_Receiver_2 Z q)<|DT Z Z (fun _ q=>LD (i:=0) Z tyP_int Z Z Z q)<|DT Z Z (fun _ q=>rw_neq Z Z Z q)<|DM Z Z Z<|?_
  refine dw_caseN (j:=65) Z (fun h7=>?_) (fun h7=>?_)
  ·refine DT Z Z (fun _ q=>ON Z Z Z (FA Z tyF_impl_Receiver_1 Z q))<|DT Z Z (fun _ q=>ON Z Z Z (FA Z tyF_impl_Buffer_0 Z q))<|DT Z Z (fun _ q=>ON Z Z Z (LD (i:=0) Z tyP_int Z Z Z q))<|DT Z Z (fun _ q=>ON Z Z Z (FA Z tyF_impl_Receiver_1 Z q))<|DT Z Z (fun _ q=>ON Z Z Z (LS (i:=0) [_,_] Z tyS_impl_Buffer Z Z Z Z q))<|DT Z Z (fun _ q=>ON Z Z Z (CV1 Z fun_spec_ReadyBytes Z (fun w hs=>spec_ReadyBytes ⟨_,Z,⟨_,_,Z,hrd2_0 _ (fun c hc=>hs.at_ c (MR (ML hc)))⟩⟩ ⟨hbc3_0,hbc3_1⟩) q))<|?_
   refine DT Z Z (fun _ q=>ON Z Z Z (rw_add Z Z Z q))<|DT Z Z (fun _ q=>ON Z Z Z (FA Z tyF_impl_Receiver_2 Z q))<|DT Z Z (fun _ q=>ON Z Z Z (LD (i:=0) Z tyP_int Z Z Z q))<|dw_nil<|ON Z Z Z<|EQ1 Z Z Z<|PT Z Z Z Z<|ND<|?_
   refine gw_cond Z (fun h8=>?_) (fun h8=>?_)
   ·refine RG<|FA Z tyF_impl_Receiver_0 Z<|ST (i:=0) [_] [_,_,_,_,_,_] tyP_int.sz Z Z Z Z Z Z Z Z<|ND<|SQ<|RG<|LS (i:=0) [_,_,_,_,_,_] Z tyS_impl_Receiver Z Z Z Z<|ST (i:=1) [_,_,_,_,_,_] [_,_,_,_,_,_] tyS_impl_Receiver.sz Z Z Z Z Z Z Z Z<|AS Z Z<|ND<|?_
    refine gw_FP (pg PR PR) (gw_F (F':=(ch2) ++ (ch1 ++ ([]))) (by simp only [aN]) ?_)
    refine ret_cn (ch2) Tryz.func177 (res2 Tryz.func177 Z (rv_s (i:=1) [_,_,_,_,_,_] tyS_impl_Receiver Z Z Z Z) (rv_tmp Z)) ?_ ?_
    ·refine ⟨_,_,_,Z,owReceiver_mk h2_0,?_⟩
     exact ⟨hFB2,(by first | exact hF.h | (have ho_:=of_decide_eq_false ‹decide (o < (0 : Int)) = false›; show max x.highest (IntKind.i64.wrap (o + (D.length : Int))) ≤ 100; rw [show IntKind.i64.wrap (o + (D.length : Int)) = o + (D.length : Int) from w64_of (by omega) (by omega)]; have:=hF.h; omega) | exact hn_ | (show (0 : Int) ≤ 100; decide))⟩
    ·exact (List.sublist_append_left _ _).trans (List.sublist_append_right _ _)
   refine SK<|SQ<|RG<|LS (i:=0) [_,_,_,_,_,_] Z tyS_impl_Receiver Z Z Z Z<|ST (i:=1) [_,_,_,_,_,_] [_,_,_,_,_,_] tyS_impl_Receiver.sz Z Z Z Z Z Z Z Z<|AS Z Z<|ND<|?_
   refine gw_FP (pg PR PR) (gw_F (F':=(ch2) ++ (ch1 ++ ([]))) (by simp only [aN]) ?_)
   refine ret_cn (ch2) Tryz.func177 (res2 Tryz.func177 Z (rv_s (i:=1) [_,_,_,_,_,_] tyS_impl_Receiver Z Z Z Z) (rv_tmp Z)) ?_ ?_
   ·refine ⟨_,_,_,Z,owReceiver_mk h2_0,?_⟩
    exact ⟨hFB2,(by first | exact hF.h | (have ho_:=of_decide_eq_false ‹decide (o < (0 : Int)) = false›; show max x.highest (IntKind.i64.wrap (o + (D.length : Int))) ≤ 100; rw [show IntKind.i64.wrap (o + (D.length : Int)) = o + (D.length : Int) from w64_of (by omega) (by omega)]; have:=hF.h; omega) | exact hn_ | (show (0 : Int) ≤ 100; decide))⟩
   ·exact (List.sublist_append_left _ _).trans (List.sublist_append_right _ _)
  refine DSK Z<|dw_nil<|OF Z Z Z Z<|PF Z Z Z Z<|ND<|CF Z Z<|SK<|SQ<|RG<|LS (i:=0) [_,_,_,_,_,_] Z tyS_impl_Receiver Z Z Z Z<|ST (i:=1) [_,_,_,_,_,_] [_,_,_,_,_,_] tyS_impl_Receiver.sz Z Z Z Z Z Z Z Z<|AS Z Z<|ND<|?_
  refine gw_FP (pg PR PR) (gw_F (F':=(ch2) ++ (ch1 ++ ([]))) (by simp only [aN]) ?_)
  refine ret_cn (ch2) Tryz.func177 (res2 Tryz.func177 Z (rv_s (i:=1) [_,_,_,_,_,_] tyS_impl_Receiver Z Z Z Z) (rv_tmp Z)) ?_ ?_
  ·refine ⟨_,_,_,Z,owReceiver_mk h2_0,?_⟩
   exact ⟨hFB2,(by first | exact hF.h | (have ho_:=of_decide_eq_false ‹decide (o < (0 : Int)) = false›; show max x.highest (IntKind.i64.wrap (o + (D.length : Int))) ≤ 100; rw [show IntKind.i64.wrap (o + (D.length : Int)) = o + (D.length : Int) from w64_of (by omega) (by omega)]; have:=hF.h; omega) | exact hn_ | (show (0 : Int) ≤ 100; decide))⟩
  ·exact (List.sublist_append_left _ _).trans (List.sublist_append_right _ _)
 refine SK<|SQ<|RG<|FA Z tyF_impl_Receiver_1 Z<|LS (i:=2) [_,_] Z tyS_impl_Buffer Z Z Z Z<|MV Z Z<|MV Z Z<|CN1 Z fun_spec_InsertData Z (fun w hs=>spec_InsertData ⟨_,Z,(hA0.s Pl.keeps hs)⟩ hF.c _ hn_)<|fun v4 ch4 how4=>?_
 obtain ⟨cs4,b4,rfl,how4,hFB4⟩:=how4
 obtain ⟨v4_0,ch4,rfl,h4_0,rfl⟩:=how4
 obtain ⟨R4_0,b4_0,rfl,hR4_0,hrd4_0⟩:=h4_0.shape eChunk
 refine rw_F (F':=ch4 ++ (ch1 ++ ([]))) (by simp only [aN])<|?_
 obtain ⟨hbc5_0,hbc5_1⟩:=FineC.le hFB4
 refine FA Z tyF_impl_Receiver_1 Z<|ST (i:=0) [_,_] [_,_,_,_,_,_] tyS_impl_Buffer.sz Z Z Z Z Z Z Z Z<|ND<|SQ<|SQ<|gw_draw' [dd 0,dd 1,dd 2,dd 3,dd 4,dd 5,dd 6,dd 7,dd 8,dd 9,dd 10,dd 11,dd 12] [13,14] mixed Z (FD Z) (ts:=[_,_]) Z<|DT Z Z (fun _ q=>FA Z tyF_impl_Receiver_2 Z q)<|DT Z Z (fun _ q=>LD (i:=0) Z tyP_int Z Z Z q)<|DT Z Z (fun _ q=>rw_neq Z Z Z q)<|DM Z Z Z<|?_
 refine dw_caseN (j:=65) Z (fun h9=>?_) (fun h9=>?_)
 ·refine DT Z Z (fun _ q=>ON Z Z Z (FA Z tyF_impl_Receiver_1 Z q))<|DT Z Z (fun _ q=>ON Z Z Z (FA Z tyF_impl_Buffer_0 Z q))<|DT Z Z (fun _ q=>ON Z Z Z (LD (i:=0) Z tyP_int Z Z Z q))<|DT Z Z (fun _ q=>ON Z Z Z (FA Z tyF_impl_Receiver_1 Z q))<|DT Z Z (fun _ q=>ON Z Z Z (LS (i:=0) [_,_] Z tyS_impl_Buffer Z Z Z Z q))<|DT Z Z (fun _ q=>ON Z Z Z (CV1 Z fun_spec_ReadyBytes Z (fun w hs=>spec_ReadyBytes ⟨_,Z,⟨_,_,Z,hrd4_0 _ (fun c hc=>hs.at_ c (MR (ML hc)))⟩⟩ ⟨hbc5_0,hbc5_1⟩) q))<|?_
  refine DT Z Z (fun _ q=>ON Z Z Z (rw_add Z Z Z q))<|DT Z Z (fun _ q=>ON Z Z Z (FA Z tyF_impl_Receiver_2 Z q))<|DT Z Z (fun _ q=>ON Z Z Z (LD (i:=0) Z tyP_int Z Z Z q))<|dw_nil<|ON Z Z Z<|EQ1 Z Z Z<|PT Z Z Z Z<|ND<|?_
  refine gw_cond Z (fun h10=>?_) (fun h10=>?_)
  ·refine RG<|FA Z tyF_impl_Receiver_0 Z<|ST (i:=0) [_] [_,_,_,_,_,_] tyP_int.sz Z Z Z Z Z Z Z Z<|ND<|SQ<|RG<|LS (i:=0) [_,_,_,_,_,_] Z tyS_impl_Receiver Z Z Z Z<|ST (i:=1) [_,_,_,_,_,_] [_,_,_,_,_,_] tyS_impl_Receiver.sz Z Z Z Z Z Z Z Z<|AS Z Z<|ND<|?_
   refine gw_FP (pg PR PR) (gw_F (F':=(ch4) ++ (ch1 ++ ([]))) (by simp only [aN]) ?_)
   refine ret_cn (ch4) Tryz.func177 (res2 Tryz.func177 Z (rv_s (i:=1) [_,_,_,_,_,_] tyS_impl_Receiver Z Z Z Z) (rv_tmp Z)) ?_ ?_
   ·refine ⟨_,_,_,Z,owReceiver_mk h4_0,?_⟩
    exact ⟨hFB4,(by first | exact hF.h | (have ho_:=of_decide_eq_false ‹decide (o < (0 : Int)) = false›; show max x.highest (IntKind.i64.wrap (o + (D.length : Int))) ≤ 100; rw [show IntKind.i64.wrap (o + (D.length : Int)) = o + (D.length : Int) from w64_of (by omega) (by omega)]; have:=hF.h; omega) | exact hn_ | (show (0 : Int) ≤ 100; decide))⟩
   ·exact (List.sublist_append_left _ _).trans (List.sublist_append_right _ _)
  refine SK<|SQ<|RG<|LS (i:=0) [_,_,_,_,_,_] Z tyS_impl_Receiver Z Z Z Z<|ST (i:=1) [_,_,_,_,_,_] [_,_,_,_,_,_] tyS_impl_Receiver.sz Z Z Z Z Z Z Z Z<|AS Z Z<|ND<|?_
  refine gw_FP (pg PR PR) (gw_F (F':=(ch4) ++ (ch1 ++ ([]))) (by simp only [aN]) ?_)
  refine ret_cn (ch4) Tryz.func177 (res2 Tryz.func177 Z (rv_s (i:=1) [_,_,_,_,_,_] tyS_impl_Receiver Z Z Z Z) (rv_tmp Z)) ?_ ?_
  ·refine ⟨_,_,_,Z,owReceiver_mk h4_0,?_⟩
   exact ⟨hFB4,(by first | exact hF.h | (have ho_:=of_decide_eq_false ‹decide (o < (0 : Int)) = false›; show max x.highest (IntKind.i64.wrap (o + (D.length : Int))) ≤ 100; rw [show IntKind.i64.wrap (o + (D.length : Int)) = o + (D.length : Int) from w64_of (by omega) (by omega)]; have:=hF.h; omega) | exact hn_ | (show (0 : Int) ≤ 100; decide))⟩
  ·exact (List.sublist_append_left _ _).trans (List.sublist_append_right _ _)
 refine DSK Z<|dw_nil<|OF Z Z Z Z<|PF Z Z Z Z<|ND<|CF Z Z<|SK<|SQ<|RG<|LS (i:=0) [_,_,_,_,_,_] Z tyS_impl_Receiver Z Z Z Z<|ST (i:=1) [_,_,_,_,_,_] [_,_,_,_,_,_] tyS_impl_Receiver.sz Z Z Z Z Z Z Z Z<|AS Z Z<|ND<|?_
 refine gw_FP (pg PR PR) (gw_F (F':=(ch4) ++ (ch1 ++ ([]))) (by simp only [aN]) ?_)
 refine ret_cn (ch4) Tryz.func177 (res2 Tryz.func177 Z (rv_s (i:=1) [_,_,_,_,_,_] tyS_impl_Receiver Z Z Z Z) (rv_tmp Z)) ?_ ?_
 ·refine ⟨_,_,_,Z,owReceiver_mk h4_0,?_⟩
  exact ⟨hFB4,(by first | exact hF.h | (have ho_:=of_decide_eq_false ‹decide (o < (0 : Int)) = false›; show max x.highest (IntKind.i64.wrap (o + (D.length : Int))) ≤ 100; rw [show IntKind.i64.wrap (o + (D.length : Int)) = o + (D.length : Int) from w64_of (by omega) (by omega)]; have:=hF.h; omega) | exact hn_ | (show (0 : Int) ≤ 100; decide))⟩
 ·exact (List.sublist_append_left _ _).trans (List.sublist_append_right _ _)
set_option maxHeartbeats 8000000 in
set_option maxRecDepth 20000 in
theorem spec_ReadReceiver {w : World} {cs : List Value} {x : Receiver} (hv : RdReceiver w cs x) (hF : FineR x) (m : Int) : CN Tryz.prog 178 [.agg cs.toArray, .int .i64 m] w (fun v ch => ∃ (D : List UInt8) (cs' : List Value) (r' : Receiver), v = .tuple #[.string (mkS D), .agg cs'.toArray] ∧ OwReceiver cs' r' ch ∧ FineR r') := by
 obtain ⟨v0,rfl,k0⟩:=hv
 obtain ⟨A0,c0,rfl,hA0⟩:=k0
 obtain ⟨hb0,hb1⟩:=FineC.leR hF.c
 refine cn_of Tryz.func178 Z Z Z<|SQ<|RG<|BX [_,_,_,_,_,_] Z Z Z<|fun b1=>AS Z Z<|AL Z tyZ_impl_Receiver<|fun b2=>ND<|SQ<|RG<|LS (i:=1) [_,_,_,_,_,_] Z tyS_impl_Receiver Z Z Z Z<|CN1 Z fun_spec_l7Copy Z (fun w hs=>spec_l7Copy ⟨_,Z,(hA0.s Pl.keeps hs)⟩ ⟨hb0,hb1⟩)<|fun vv1 ch1 how1=>?_
 obtain ⟨cs1,rfl,v1_0,c1_0,rfl,h1_0,rfl⟩:=how1
 obtain ⟨R1_0,b1_0,rfl,hR1_0,hrd1_0⟩:=h1_0.shape eChunk
 refine AL Z tyZ_impl_Receiver<|fun b3=>ST (i:=0) [_,_,_,_,_,_] [_,_,_,_,_,_] tyS_impl_Receiver.sz Z Z Z Z Z Z Z Z<|ND<|SQ<|SQ<|RG<|LS (i:=2) [_,_,_,_,_,_] Z tyS_impl_Receiver Z Z Z Z<|CV1 Z fun_spec_IsReceiver Z (fun w hs=>spec_IsReceiver ⟨_,Z,(hA0.s Pl.keeps hs)⟩ ⟨hb0,hb1⟩)<|NT Z Z<|ND<|?_
 refine gw_condN Z (fun h1=>?_) (fun h1=>?_)
 ·refine SQ<|gw_draw' [dd 0,dd 1] [2] mixed Z (FD Z) (ts:=[_]) Z<|DT Z Z (fun _ q=>LS (i:=0) [_,_,_,_,_,_] Z tyS_impl_Receiver Z Z Z Z q)<|DT Z Z (fun _ q=>AS Z Z q)<|dw_nil<|ST (i:=1) [_,_,_,_,_,_] [_,_,_,_,_,_] tyS_impl_Receiver.sz Z Z Z Z Z Z Z Z<|ND<|?_
  refine gw_FP (pg PR PR) (gw_F (F':=(ch1) ++ ([])) (by simp only [aN]) ?_)
  refine ret_cn (ch1) Tryz.func178 (res2 Tryz.func178 Z (rv_tmp Z) (rv_s (i:=1) [_,_,_,_,_,_] tyS_impl_Receiver Z Z Z Z)) ?_ ?_
  ·refine ⟨[],_,_,Z,owReceiver_mk h1_0,?_⟩
   exact ⟨hF.c,(by first | exact hF.h | (have ho_:=of_decide_eq_false ‹decide (o < (0 : Int)) = false›; show max x.highest (IntKind.i64.wrap (o + (D.length : Int))) ≤ 100; rw [show IntKind.i64.wrap (o + (D.length : Int)) = o + (D.length : Int) from w64_of (by omega) (by omega)]; have:=hF.h; omega) | exact hn_ | (show (0 : Int) ≤ 100; decide))⟩
  ·exact (List.sublist_append_left _ _).trans (List.sublist_append_right _ _)
 refine SK<|SQ<|SQ<|RG<|FA Z tyF_impl_Receiver_0 Z<|LD (i:=2) Z tyP_int Z Z Z<|EQ1 Z Z Z<|ND<|?_
 refine gw_cond Z (fun h2=>?_) (fun h2=>?_)
 ·refine SQ<|RG<|FA Z tyF_impl_Receiver_0 Z<|ST (i:=0) [_] [_,_,_,_,_,_] tyP_int.sz Z Z Z Z Z Z Z Z<|ND<|SQ<|gw_draw' [dd 0,dd 1] [2] mixed Z (FD Z) (ts:=[_]) Z<|DT Z Z (fun _ q=>LS (i:=0) [_,_,_,_,_,_] Z tyS_impl_Receiver Z Z Z Z q)<|DT Z Z (fun _ q=>AS Z Z q)<|dw_nil<|ST (i:=1) [_,_,_,_,_,_] [_,_,_,_,_,_] tyS_impl_Receiver.sz Z Z Z Z Z Z Z Z<|ND<|?_
  refine gw_FP (pg PR PR) (gw_F (F':=(ch1) ++ ([])) (by simp only [aN]) ?_)
  refine ret_cn (ch1) Tryz.func178 (res2 Tryz.func178 Z (rv_tmp Z) (rv_s (i:=1) [_,_,_,_,_,_] tyS_impl_Receiver Z Z Z Z)) ?_ ?_
  ·refine ⟨[],_,_,Z,owReceiver_mk h1_0,?_⟩
   exact ⟨hF.c,(by first | exact hF.h | (have ho_:=of_decide_eq_false ‹decide (o < (0 : Int)) = false›; show max x.highest (IntKind.i64.wrap (o + (D.length : Int))) ≤ 100; rw [show IntKind.i64.wrap (o + (D.length : Int)) = o + (D.length : Int) from w64_of (by omega) (by omega)]; have:=hF.h; omega) | exact hn_ | (show (0 : Int) ≤ 100; decide))⟩
  ·exact (List.sublist_append_left _ _).trans (List.sublist_append_right _ _)
 refine SK<|SQ<|RG<|FA Z tyF_impl_Receiver_1 Z<|LS (i:=2) [_,_] Z tyS_impl_Buffer Z Z Z Z<|MV Z Z<|CN1 Z fun_spec_TakeBytes Z (fun w hs=>spec_TakeBytes ⟨_,Z,(hA0.s Pl.keeps hs)⟩ hF.c _)<|fun v2 ch2 how2=>?_
 obtain ⟨D2,cs2,b2,rfl,how2,hFB2⟩:=how2
 obtain ⟨v2_0,ch2,rfl,h2_0,rfl⟩:=how2
 obtain ⟨R2_0,b2_0,rfl,hR2_0,hrd2_0⟩:=h2_0.shape eChunk
 refine rw_F (F':=ch2 ++ (ch1 ++ ([]))) (by simp only [aN])<|?_
 obtain ⟨hbc3_0,hbc3_1⟩:=FineC.le hFB2
 refine MV Z Z<|XT Z Z Z<|XT Z Z Z<|AL Z tyZ_impl_Buffer<|fun b4=>AS Z Z<|ST (i:=0) [_,_] [_,_] tyS_impl_Buffer.sz Z Z Z Z Z Z Z Z<|ND<|SQ<|RG<|LS (i:=0) [_,_] Z tyS_impl_Buffer Z Z Z Z<|FA Z tyF_impl_Receiver_1 Z<|ST (i:=1) [_,_] [_,_,_,_,_,_] tyS_impl_Buffer.sz Z Z Z Z Z Z Z Z<|ND<|SQ<|SQ<|RG<|FA Z tyF_impl_Receiver_0 Z<|LD (i:=3) Z tyP_int Z Z Z<|?_
 refine EQ1 Z Z Z<|MV Z Z<|?_
 refine rw_caseL (j:=32) Z (fun h3=>?_) (fun h3=>?_)
 ·refine ON Z Z Z<|FA Z tyF_impl_Buffer_0 Z<|ON Z Z Z<|LD (i:=0) Z tyP_int Z Z Z<|ON Z Z Z<|FA Z tyF_impl_Receiver_2 Z<|ON Z Z Z<|LD (i:=3) Z tyP_int Z Z Z<|ON Z Z Z<|EQ1 Z Z Z<|PT Z Z Z Z<|ND<|?_
  refine gw_cond Z (fun h4=>?_) (fun h4=>?_)
  ·refine RG<|FA Z tyF_impl_Receiver_0 Z<|ST (i:=1) [_] [_,_,_,_,_,_] tyP_int.sz Z Z Z Z Z Z Z Z<|ND<|SQ<|gw_draw' [dd 0,dd 1,dd 2] [3] mixed Z (FD Z) (ts:=[_]) Z<|DM Z Z Z<|DT Z Z (fun _ q=>LS (i:=1) [_,_,_,_,_,_] Z tyS_impl_Receiver Z Z Z Z q)<|DT Z Z (fun _ q=>AS Z Z q)<|dw_nil<|ST (i:=2) [_,_,_,_,_,_] [_,_,_,_,_,_] tyS_impl_Receiver.sz Z Z Z Z Z Z Z Z<|ND<|?_
   refine gw_FP (pg PR PR) (gw_F (F':=(ch2) ++ (ch1 ++ ([]))) (by simp only [aN]) ?_)
   refine ret_cn (ch2) Tryz.func178 (res2 Tryz.func178 Z (rv_tmp Z) (rv_s (i:=2) [_,_,_,_,_,_] tyS_impl_Receiver Z Z Z Z)) ?_ ?_
   ·refine ⟨D2,_,_,Z,owReceiver_mk h2_0,?_⟩
    exact ⟨hFB2,(by first | exact hF.h | (have ho_:=of_decide_eq_false ‹decide (o < (0 : Int)) = false›; show max x.highest (IntKind.i64.wrap (o + (D.length : Int))) ≤ 100; rw [show IntKind.i64.wrap (o + (D.length : Int)) = o + (D.length : Int) from w64_of (by omega) (by omega)]; have:=hF.h; omega) | exact hn_ | (show (0 : Int) ≤ 100; decide))⟩
   ·exact (List.sublist_append_left _ _).trans (List.sublist_append_right _ _)
  refine SK<|SQ<|gw_draw' [dd 0,dd 1,dd 2] [3] mixed Z (FD Z) (ts:=[_]) Z<|DM Z Z Z<|DT Z Z (fun _ q=>LS (i:=1) [_,_,_,_,_,_] Z tyS_impl_Receiver Z Z Z Z q)<|DT Z Z (fun _ q=>AS Z Z q)<|dw_nil<|ST (i:=2) [_,_,_,_,_,_] [_,_,_,_,_,_] tyS_impl_Receiver.sz Z Z Z Z Z Z Z Z<|ND<|?_
  refine gw_FP (pg PR PR) (gw_F (F':=(ch2) ++ (ch1 ++ ([]))) (by simp only [aN]) ?_)
  refine ret_cn (ch2) Tryz.func178 (res2 Tryz.func178 Z (rv_tmp Z) (rv_s (i:=2) [_,_,_,_,_,_] tyS_impl_Receiver Z Z Z Z)) ?_ ?_
  ·refine ⟨D2,_,_,Z,owReceiver_mk h2_0,?_⟩
   exact ⟨hFB2,(by first | exact hF.h | (have ho_:=of_decide_eq_false ‹decide (o < (0 : Int)) = false›; show max x.highest (IntKind.i64.wrap (o + (D.length : Int))) ≤ 100; rw [show IntKind.i64.wrap (o + (D.length : Int)) = o + (D.length : Int) from w64_of (by omega) (by omega)]; have:=hF.h; omega) | exact hn_ | (show (0 : Int) ≤ 100; decide))⟩
  ·exact (List.sublist_append_left _ _).trans (List.sublist_append_right _ _)
 refine SKP Z<|PF Z Z Z Z<|ND<|CF Z Z<|SK<|SQ<|gw_draw' [dd 0,dd 1,dd 2] [3] mixed Z (FD Z) (ts:=[_]) Z<|DM Z Z Z<|DT Z Z (fun _ q=>LS (i:=1) [_,_,_,_,_,_] Z tyS_impl_Receiver Z Z Z Z q)<|DT Z Z (fun _ q=>AS Z Z q)<|dw_nil<|ST (i:=2) [_,_,_,_,_,_] [_,_,_,_,_,_] tyS_impl_Receiver.sz Z Z Z Z Z Z Z Z<|ND<|?_
 refine gw_FP (pg PR PR) (gw_F (F':=(ch2) ++ (ch1 ++ ([]))) (by simp only [aN]) ?_)
 refine ret_cn (ch2) Tryz.func178 (res2 Tryz.func178 Z (rv_tmp Z) (rv_s (i:=2) [_,_,_,_,_,_] tyS_impl_Receiver Z Z Z Z)) ?_ ?_
 ·refine ⟨D2,_,_,Z,owReceiver_mk h2_0,?_⟩
  exact ⟨hFB2,(by first | exact hF.h | (have ho_:=of_decide_eq_false ‹decide (o < (0 : Int)) = false›; show max x.highest (IntKind.i64.wrap (o + (D.length : Int))) ≤ 100; rw [show IntKind.i64.wrap (o + (D.length : Int)) = o + (D.length : Int) from w64_of (by omega) (by omega)]; have:=hF.h; omega) | exact hn_ | (show (0 : Int) ≤ 100; decide))⟩
 ·exact (List.sublist_append_left _ _).trans (List.sublist_append_right _ _)
set_option maxHeartbeats 8000000 in
set_option maxRecDepth 20000 in
theorem spec_ReceiveReset {w : World} {cs : List Value} {x : Receiver} (hv : RdReceiver w cs x) (hF : FineR x) (c n : Int) (hn_ : n ≤ 100) : CN Tryz.prog 179 [.agg cs.toArray, .int .i64 c, .int .i64 n] w (fun v ch => ∃ cs' r' e', v = .tuple #[.agg cs'.toArray, e'] ∧ OwReceiver cs' r' ch ∧ FineR r') := by
 obtain ⟨v0,rfl,k0⟩:=hv
 obtain ⟨A0,c0,rfl,hA0⟩:=k0
 obtain ⟨hb0,hb1⟩:=FineC.leR hF.c
 refine cn_of Tryz.func179 Z Z Z<|SQ<|RG<|BX [_,_,_,_,_,_] Z Z Z<|fun b1=>AL Z tyZ_impl_Receiver<|fun b2=>AS Z Z<|ND<|SQ<|RG<|LS (i:=1) [_,_,_,_,_,_] Z tyS_impl_Receiver Z Z Z Z<|CN1 Z fun_spec_l7Copy Z (fun w hs=>spec_l7Copy ⟨_,Z,(hA0.s Pl.keeps hs)⟩ ⟨hb0,hb1⟩)<|fun vv1 ch1 how1=>?_
 obtain ⟨cs1,rfl,v1_0,c1_0,rfl,h1_0,rfl⟩:=how1
 obtain ⟨R1_0,b1_0,rfl,hR1_0,hrd1_0⟩:=h1_0.shape eChunk
 refine AL Z tyZ_impl_Receiver<|fun b3=>ST (i:=0) [_,_,_,_,_,_] [_,_,_,_,_,_] tyS_impl_Receiver.sz Z Z Z Z Z Z Z Z<|ND<|SQ<|SQ<|RG<|LS (i:=2) [_,_,_,_,_,_] Z tyS_impl_Receiver Z Z Z Z<|CV1 Z fun_spec_IsReceiver Z (fun w hs=>spec_IsReceiver ⟨_,Z,(hA0.s Pl.keeps hs)⟩ ⟨hb0,hb1⟩)<|NT Z Z<|MV Z Z<|?_
 refine rw_caseN (j:=15) Z (fun h1=>?_) (fun h1=>?_)
 ·refine SKP Z<|PT Z Z Z Z<|MV Z Z<|SKP Z<|PT Z Z Z Z<|ND<|CT Z Z<|SQ<|RG<|LS (i:=0) [_,_,_,_,_,_] Z tyS_impl_Receiver Z Z Z Z<|ST (i:=1) [_,_,_,_,_,_] [_,_,_,_,_,_] tyS_impl_Receiver.sz Z Z Z Z Z Z Z Z<|AS Z Z<|ND<|?_
  refine gw_FP (pg PR PR) (gw_F (F':=(ch1) ++ ([])) (by simp only [aN]) ?_)
  refine ret_cn (ch1) Tryz.func179 (res2 Tryz.func179 Z (rv_s (i:=1) [_,_,_,_,_,_] tyS_impl_Receiver Z Z Z Z) (rv_tmp Z)) ?_ ?_
  ·refine ⟨_,_,_,Z,owReceiver_mk h1_0,?_⟩
   exact ⟨hF.c,(by first | exact hF.h | (have ho_:=of_decide_eq_false ‹decide (o < (0 : Int)) = false›; show max x.highest (IntKind.i64.wrap (o + (D.length : Int))) ≤ 100; rw [show IntKind.i64.wrap (o + (D.length : Int)) = o + (D.length : Int) from w64_of (by omega) (by omega)]; have:=hF.h; omega) | exact hn_ | (show (0 : Int) ≤ 100; decide))⟩
  ·exact (List.sublist_append_left _ _).trans (List.sublist_append_right _ _)
 refine ON Z Z Z<|MV Z Z<|ON Z Z Z<|CV1 Z fun_spec_l4Quic Z (fun w hs=>spec_l4Quic _ w)<|ON Z Z Z<|NT Z Z<|PF Z Z Z Z<|MV Z Z<|?_
 refine rw_caseN (j:=20) Z (fun h2=>?_) (fun h2=>?_)
 ·refine SKP Z<|PT Z Z Z Z<|ND<|CT Z Z<|SQ<|RG<|LS (i:=0) [_,_,_,_,_,_] Z tyS_impl_Receiver Z Z Z Z<|ST (i:=1) [_,_,_,_,_,_] [_,_,_,_,_,_] tyS_impl_Receiver.sz Z Z Z Z Z Z Z Z<|AS Z Z<|ND<|?_
  refine gw_FP (pg PR PR) (gw_F (F':=(ch1) ++ ([])) (by simp only [aN]) ?_)
  refine ret_cn (ch1) Tryz.func179 (res2 Tryz.func179 Z (rv_s (i:=1) [_,_,_,_,_,_] tyS_impl_Receiver Z Z Z Z) (rv_tmp Z)) ?_ ?_
  ·refine ⟨_,_,_,Z,owReceiver_mk h1_0,?_⟩
   exact ⟨hF.c,(by first | exact hF.h | (have ho_:=of_decide_eq_false ‹decide (o < (0 : Int)) = false›; show max x.highest (IntKind.i64.wrap (o + (D.length : Int))) ≤ 100; rw [show IntKind.i64.wrap (o + (D.length : Int)) = o + (D.length : Int) from w64_of (by omega) (by omega)]; have:=hF.h; omega) | exact hn_ | (show (0 : Int) ≤ 100; decide))⟩
  ·exact (List.sublist_append_left _ _).trans (List.sublist_append_right _ _)
 refine ON Z Z Z<|MV Z Z<|ON Z Z Z<|CV1 Z fun_spec_l4Quic Z (fun w hs=>spec_l4Quic _ w)<|ON Z Z Z<|NT Z Z<|PF Z Z Z Z<|ND<|?_
 refine gw_condN Z (fun h3=>?_) (fun h3=>?_)
 ·refine SQ<|RG<|LS (i:=0) [_,_,_,_,_,_] Z tyS_impl_Receiver Z Z Z Z<|ST (i:=1) [_,_,_,_,_,_] [_,_,_,_,_,_] tyS_impl_Receiver.sz Z Z Z Z Z Z Z Z<|AS Z Z<|ND<|?_
  refine gw_FP (pg PR PR) (gw_F (F':=(ch1) ++ ([])) (by simp only [aN]) ?_)
  refine ret_cn (ch1) Tryz.func179 (res2 Tryz.func179 Z (rv_s (i:=1) [_,_,_,_,_,_] tyS_impl_Receiver Z Z Z Z) (rv_tmp Z)) ?_ ?_
  ·refine ⟨_,_,_,Z,owReceiver_mk h1_0,?_⟩
   exact ⟨hF.c,(by first | exact hF.h | (have ho_:=of_decide_eq_false ‹decide (o < (0 : Int)) = false›; show max x.highest (IntKind.i64.wrap (o + (D.length : Int))) ≤ 100; rw [show IntKind.i64.wrap (o + (D.length : Int)) = o + (D.length : Int) from w64_of (by omega) (by omega)]; have:=hF.h; omega) | exact hn_ | (show (0 : Int) ≤ 100; decide))⟩
  ·exact (List.sublist_append_left _ _).trans (List.sublist_append_right _ _)
 refine SK<|SQ<|RG<|LS (i:=2) [_,_,_,_,_,_] Z tyS_impl_Receiver Z Z Z Z<|MV Z Z<|CV1 Z fun_spec_l7Final Z (fun w hs=>spec_l7Final ⟨_,Z,(hA0.s Pl.keeps hs)⟩ _ _)<|AS Z Z<|ND<|SQ<|SQ<|RG<|MV Z Z<|rw_neq Z Z Z<|MV Z Z<|?_
 refine rw_caseN (j:=31) Z (fun h4=>?_) (fun h4=>?_)
 ·refine SKP Z<|PT Z Z Z Z<|ND<|CT Z Z<|SQ<|RG<|LS (i:=0) [_,_,_,_,_,_] Z tyS_impl_Receiver Z Z Z Z<|MV Z Z<|ST (i:=1) [_,_,_,_,_,_] [_,_,_,_,_,_] tyS_impl_Receiver.sz Z Z Z Z Z Z Z Z<|AS Z Z<|ND<|?_
  refine gw_FP (pg PR PR) (gw_F (F':=(ch1) ++ ([])) (by simp only [aN]) ?_)
  refine ret_cn (ch1) Tryz.func179 (res2 Tryz.func179 Z (rv_s (i:=1) [_,_,_,_,_,_] tyS_impl_Receiver Z Z Z Z) (rv_tmp Z)) ?_ ?_
  ·refine ⟨_,_,_,Z,owReceiver_mk h1_0,?_⟩
   exact ⟨hF.c,(by first | exact hF.h | (have ho_:=of_decide_eq_false ‹decide (o < (0 : Int)) = false›; show max x.highest (IntKind.i64.wrap (o + (D.length : Int))) ≤ 100; rw [show IntKind.i64.wrap (o + (D.length : Int)) = o + (D.length : Int) from w64_of (by omega) (by omega)]; have:=hF.h; omega) | exact hn_ | (show (0 : Int) ≤ 100; decide))⟩
  ·exact (List.sublist_append_left _ _).trans (List.sublist_append_right _ _)
 refine ON Z Z Z<|FA Z tyF_impl_Receiver_0 Z<|ON Z Z Z<|LD (i:=2) Z tyP_int Z Z Z<|ON Z Z Z<|rw_gtr Z Z Z<|PF Z Z Z Z<|ND<|?_
 refine gw_cond Z (fun h5=>?_) (fun h5=>?_)
 ·refine SQ<|RG<|LS (i:=0) [_,_,_,_,_,_] Z tyS_impl_Receiver Z Z Z Z<|MV Z Z<|ST (i:=1) [_,_,_,_,_,_] [_,_,_,_,_,_] tyS_impl_Receiver.sz Z Z Z Z Z Z Z Z<|AS Z Z<|ND<|?_
  refine gw_FP (pg PR PR) (gw_F (F':=(ch1) ++ ([])) (by simp only [aN]) ?_)
  refine ret_cn (ch1) Tryz.func179 (res2 Tryz.func179 Z (rv_s (i:=1) [_,_,_,_,_,_] tyS_impl_Receiver Z Z Z Z) (rv_tmp Z)) ?_ ?_
  ·refine ⟨_,_,_,Z,owReceiver_mk h1_0,?_⟩
   exact ⟨hF.c,(by first | exact hF.h | (have ho_:=of_decide_eq_false ‹decide (o < (0 : Int)) = false›; show max x.highest (IntKind.i64.wrap (o + (D.length : Int))) ≤ 100; rw [show IntKind.i64.wrap (o + (D.length : Int)) = o + (D.length : Int) from w64_of (by omega) (by omega)]; have:=hF.h; omega) | exact hn_ | (show (0 : Int) ≤ 100; decide))⟩
  ·exact (List.sublist_append_left _ _).trans (List.sublist_append_right _ _)
 refine SK<|SQ<|RG<|FA Z tyF_impl_Receiver_1 Z<|FA Z tyF_impl_Buffer_0 Z<|LD (i:=2) Z tyP_int Z Z Z<|rw_build [_,_] Z tyB_impl_Buffer tyZ_impl_Buffer Z Z<|MV Z Z<|MV Z Z<|MV Z Z<|rw_build [_,_,_,_,_,_] Z tyB_impl_Receiver tyZ_impl_Receiver Z Z<|ST (i:=1) [_,_,_,_,_,_] [_,_,_,_,_,_] tyS_impl_Receiver.sz Z Z Z Z Z Z Z Z<|AS Z Z<|ND<|?_
 refine gw_FP PR (gw_F (F':=([]) ++ (ch1 ++ ([]))) (by simp only [nA,aN]) ?_)
 refine ret_cn ([]) Tryz.func179 (res2 Tryz.func179 Z (rv_s (i:=1) [_,_,_,_,_,_] tyS_impl_Receiver Z Z Z Z) (rv_tmp Z)) ?_ ?_
 ·refine ⟨_,_,_,Z,owReceiver_mk ⟨[],.inl ⟨none,Z,Z,Z⟩⟩,?_⟩
  exact ⟨FineC.nil,(by first | exact hF.h | (have ho_:=of_decide_eq_false ‹decide (o < (0 : Int)) = false›; show max x.highest (IntKind.i64.wrap (o + (D.length : Int))) ≤ 100; rw [show IntKind.i64.wrap (o + (D.length : Int)) = o + (D.length : Int) from w64_of (by omega) (by omega)]; have:=hF.h; omega) | exact hn_ | (show (0 : Int) ≤ 100; decide))⟩
 ·exact (List.sublist_append_left _ _).trans (List.sublist_append_right _ _)
end Go.Proofs.YtbhnekiclbfmgaaGreat
namespace Go.Proofs.YtbhnekiclbfmgaaGreat
open SL Go.RowKit
theorem spec_NewReceiver (w : World) : CV Tryz.prog 62 [] w (.agg (Receiver.row newReceiver (.slice none 0 0)).toArray) := by
 refine cv_of Tryz.func62 Z Z Z<|SQ<|RG<|AL Z tyZ_impl_Receiver<|fun b1=>ND<|SQ<|RG<|rw_build [_,_,_,_,_,_] Z tyB_impl_Receiver tyZ_impl_Receiver Z Z<|ST (i:=0) [_,_,_,_,_,_] [_,_,_,_,_,_] tyS_impl_Receiver.sz Z Z Z Z Z Z Z Z<|ND<|ret_cv Tryz.func62 (res1 Tryz.func62 Z (rv_s (i:=0) [_,_,_,_,_,_] tyS_impl_Receiver Z Z Z Z))<|?_
 rfl
set_option maxHeartbeats 8000000 in
set_option maxRecDepth 20000 in
theorem spec_l7Receiver {w : World} {b cp i : Nat} {A : Option Addr} {l : List UInt8} {h : Int} (hr : Rdb byC w A l b) (hi : i ≤ l.length) (hin : ∀ c ∈ [cur b A l.length cp i h], c.In w) (hnd : ([cur b A l.length cp i h].map Ck.b).Nodup) : CH Tryz.prog 162 [.pointer (some ⟨b, 0, none⟩)] w [cur b A l.length cp i h] (DrewO OwReceiver FineR b A l.length cp) := by
 refine ch_of hin hnd Tryz.func162 Z Z Z<|SQ<|RG<|AL Z tyZ_impl_Receiver<|fun b1=>ND<|SQ<|RG<|CV1 Z fun_spec_NewReceiver Z (fun w hs=>spec_NewReceiver w)<|AL Z tyZ_impl_Receiver<|fun b2=>ST (i:=0) [_,_,_,_,_,_] [_,_,_,_,_,_] tyS_impl_Receiver.sz Z Z Z Z Z Z Z Z<|ND<|SQ<|SQ<|RG<|MV Z Z<|rw_ch (G:=[cur b A l.length cp i h]) (R:=[]) Z fun_spec_l1Below Z ((pg PR PR)) (fun w hs hin hnd=>spec_l1Below (hr.sat hs) hi (n:=7) (by first | decide | omega) (by first | decide | omega) hin hnd)<|fun v1 ch1 how1=>?_
 obtain ⟨x1,i1,k1,rfl,hx1,hi1,rfl⟩:=how1
 refine AS Z Z<|ND<|BK<|?_
 refine gw_loopX (α:=Nat × Receiver × List Value × List Ck × Nat × Int) (fun z_=>z_.1 ≤ 256 ∧ OwReceiver z_.2.2.1 z_.2.1 z_.2.2.2.1 ∧ FineR z_.2.1 ∧ z_.2.2.2.2.1 ≤ l.length) (fun z_=>z_.1) (fun e z_=>(4,.int .i64 (z_.1 : Int)) :: e) (fun B z_=>B.set 0 ⟨b2,40,z_.2.2.1⟩) (fun F z_=>[cur b A l.length cp z_.2.2.2.2.1 z_.2.2.2.2.2] ++ (z_.2.2.2.1 ++ ([]))) (x1,newReceiver,_,[],i1,k1) [(0,_),(2,_),(3,_)] (Sub.consE Z Z (Sub.cons (i:=0) Z (Sub.cons (i:=2) Z (Sub.cons (i:=3) Z (Sub.nil _))))) Z Z ?_ ?_
 ·refine ⟨by omega,⟨_,[],Z,⟨[],.inl ⟨none,Z,Z,Z⟩⟩,Z⟩,⟨FineC.nil,(show (0 : Int) ≤ 100 by decide)⟩,hi1⟩
 ·rintro ⟨n,x,cs_,ch_,i_,k⟩ hI2 ih2
  dsimp only at hI2
  dsimp only [List.set]
  obtain ⟨hn256_,hO_,hF_,hi_⟩:=hI2
  obtain ⟨va0,ch_,rfl,ha0,rfl⟩:=hO_
  obtain ⟨Ra0,ba0,rfl,hRa0,hrda0⟩:=ha0.shape eChunk
  obtain ⟨hbx0,hbx1⟩:=FineC.leR hF_.c
  refine SQ<|SQ<|RG<|MV Z Z<|rw_gtr Z Z Z<|ND<|?_
  refine gw_cond Z (fun h1=>?_) (fun h1=>?_)
  ·have hp3:=pos_of h1
   refine SK<|SQ<|BK<|SQ<|RG<|MV Z Z<|rw_ch (G:=[cur b A l.length cp i_ k]) (R:=ch_ ++ ([])) Z fun_spec_l1Below Z ((pg PR PR)) (fun w hs hin hnd=>spec_l1Below (hr.sat hs) hi_ (n:=10) (by first | decide | omega) (by first | decide | omega) hin hnd)<|fun v4 ch4 how4=>?_
   obtain ⟨x4,i4,k4,rfl,hx4,hi4,rfl⟩:=how4
   refine AS Z Z<|ND<|SQ<|RG<|MV Z Z<|rw_ch (G:=[cur b A l.length cp i4 k4]) (R:=ch_ ++ ([])) Z fun_spec_l4Data Z ((pg PR PR)) (fun w hs hin hnd=>spec_l4Data (hr.sat hs) hi4 (m:=4) (by first | decide | omega) hin hnd)<|fun v5 ch5 how5=>?_
   obtain ⟨x5,i5,k5,rfl,hx5,hi5,rfl⟩:=how5
   refine AS Z Z<|ND<|SQ<|RG<|LS (i:=0) [_,_,_,_,_,_] Z tyS_impl_Receiver Z Z Z Z<|AL Z tyZ_impl_Receiver<|fun b3=>ST (i:=0) [_,_,_,_,_,_] [_,_,_,_,_,_] tyS_impl_Receiver.sz Z Z Z Z Z Z Z Z<|ND<|SQ<|SQ<|RG<|MV Z Z<|rw_ch (G:=[cur b A l.length cp i5 k5]) (R:=ch_ ++ ([])) Z fun_spec_l1Below Z ((pg PR PR)) (fun w hs hin hnd=>spec_l1Below (hr.sat hs) hi5 (n:=8) (by first | decide | omega) (by first | decide | omega) hin hnd)<|fun v6 ch6 how6=>?_
   obtain ⟨x6,i6,k6,rfl,hx6,hi6,rfl⟩:=how6
   refine ND<|BK<|SQ<|RG<|EQ1 Z Z Z<|AS Z Z<|ND<|?_
   refine gw_cond Z (fun h2=>?_) (fun h2=>?_)
   ·refine RG<|LS (i:=1) [_,_,_,_,_,_] Z tyS_impl_Receiver Z Z Z Z<|MV Z Z<|MV Z Z<|CN1 Z fun_spec_ReceiveData Z (fun w hs=>spec_ReceiveData ⟨_,Z,⟨_,_,Z,hrda0 _ (fun c hc=>hs.at_ c (MR (MR (ML hc))))⟩⟩ hF_ _ (by omega) _)<|fun v7 ch7 how7=>?_
    obtain ⟨cs7,s7,r7,rfl,how7,hF7⟩:=how7
    obtain ⟨v7_0,ch7,rfl,h7_0,rfl⟩:=how7
    obtain ⟨R7_0,b7_0,rfl,hR7_0,hrd7_0⟩:=h7_0.shape eChunk
    refine rw_F (F':=ch7 ++ ([cur b A l.length cp i6 k6] ++ (ch_ ++ ([])))) (by simp only [nA,aN,cA])<|MV Z Z<|XT Z Z Z<|XT Z Z Z<|ST (i:=0) [_,_,_,_,_,_] [_,_,_,_,_,_] tyS_impl_Receiver.sz Z Z Z Z Z Z Z Z<|ND<|IB<|RG<|LS (i:=0) [_,_,_,_,_,_] Z tyS_impl_Receiver Z Z Z Z<|ST (i:=1) [_,_,_,_,_,_] [_,_,_,_,_,_] tyS_impl_Receiver.sz Z Z Z Z Z Z Z Z<|ND<|IB<|RG<|?_
    refine MV Z Z<|rw_sub Z Z Z<|AS Z Z<|ND<|?_
    refine gw_FP (F':=[cur b A l.length cp i6 k6] ++ (ch7 ++ (ch_ ++ ([])))) (pg (pp PR) (pg PR (pg PR PR)))<|gw_dropF (F':=[cur b A l.length cp i6 k6] ++ (ch7 ++ ([]))) (List.Sublist.append_left (List.Sublist.append_left (List.nil_sublist _) _) _)<|gw_dropN 1<|?_
    refine gw_sub (Sub.consE (i:=4) Z (int_pred hp3 (by omega)) (Sub.cons (i:=0) Z (Sub.cons (i:=2) Z (Sub.cons (i:=3) Z (Sub.nil _))))) (ih2 (n - 1,s7,_,ch7,i6,k6) ?_ ?_)
    ·refine ⟨by have:=hp3; omega,owReceiver_mk h7_0,?_,hi6⟩
     exact hF7
    ·show n - 1 < n; omega
   refine SQ<|RG<|EQ1 Z Z Z<|AS Z Z<|ND<|?_
   refine gw_cond Z (fun h3=>?_) (fun h3=>?_)
   ·refine gw_draw' [(0,.detB),dd 1,(2,.chg),(3,.add),dd 4,dd 5,dd 6] [7] mixed Z (FD Z) (ts:=[_]) Z<|dw_detB Z Z (fun _ q=>LS (i:=1) [_,_,_,_,_,_] Z tyS_impl_Receiver Z Z Z Z q)<|DM Z Z Z<|dw_chg Z Z (fun _ q=>rw_ch (G:=[cur b A l.length cp i6 k6]) (R:=ch_ ++ ([])) Z fun_spec_l1Below Z ((pg PR PR)) (fun w hs hin hnd=>spec_l1Below (hr.sat hs) hi6 (n:=5) (by first | decide | omega) (by first | decide | omega) hin hnd) q)<|fun v8 ch8 how8=>?_
    obtain ⟨x8,i8,k8,rfl,hx8,hi8,rfl⟩:=how8
    refine DA Z Z (fun _ q=>CN1 Z fun_spec_ReadReceiver Z (fun w hs=>spec_ReadReceiver ⟨_,Z,⟨_,_,Z,hrda0 _ (fun c hc=>hs.at_ c (MR (MR (ML hc))))⟩⟩ hF_ _) q)<|fun v9 ch9 how9=>?_
    obtain ⟨D9,cs9,s9,rfl,how9,hF9⟩:=how9
    obtain ⟨v9_0,ch9,rfl,h9_0,rfl⟩:=how9
    obtain ⟨R9_0,b9_0,rfl,hR9_0,hrd9_0⟩:=h9_0.shape eChunk
    refine dw_F (F':=ch9 ++ ([cur b A l.length cp i8 k8] ++ (ch_ ++ ([])))) (by simp only [nA,aN,cA])<|DM Z Z Z<|DT Z Z (fun _ q=>XT Z Z Z q)<|DT Z Z (fun _ q=>XT Z Z Z q)<|dw_nil<|ST (i:=0) [_,_,_,_,_,_] [_,_,_,_,_,_] tyS_impl_Receiver.sz Z Z Z Z Z Z Z Z<|ND<|IB<|RG<|LS (i:=0) [_,_,_,_,_,_] Z tyS_impl_Receiver Z Z Z Z<|ST (i:=1) [_,_,_,_,_,_] [_,_,_,_,_,_] tyS_impl_Receiver.sz Z Z Z Z Z Z Z Z<|?_
    refine ND<|IB<|RG<|MV Z Z<|rw_sub Z Z Z<|AS Z Z<|ND<|?_
    refine gw_FP (F':=[cur b A l.length cp i8 k8] ++ (ch9 ++ (ch_ ++ ([])))) (pg (pp PR) (pg PR (pg PR PR)))<|gw_dropF (F':=[cur b A l.length cp i8 k8] ++ (ch9 ++ ([]))) (List.Sublist.append_left (List.Sublist.append_left (List.nil_sublist _) _) _)<|gw_dropN 1<|?_
    refine gw_sub (Sub.consE (i:=4) Z (int_pred hp3 (by omega)) (Sub.cons (i:=0) Z (Sub.cons (i:=2) Z (Sub.cons (i:=3) Z (Sub.nil _))))) (ih2 (n - 1,s9,_,ch9,i8,k8) ?_ ?_)
    ·refine ⟨by have:=hp3; omega,owReceiver_mk h9_0,?_,hi8⟩
     exact hF9
    ·show n - 1 < n; omega
   refine SQ<|RG<|EQ1 Z Z Z<|AS Z Z<|ND<|?_
   refine gw_cond Z (fun h4=>?_) (fun h4=>?_)
   ·refine SQ<|RG<|MV Z Z<|rw_ch (G:=[cur b A l.length cp i6 k6]) (R:=ch_ ++ ([])) Z fun_spec_l1Once Z ((pg PR PR)) (fun w hs hin hnd=>spec_l1Once (hr.sat hs) hi6 (n:=3) (by first | decide | omega) (by first | decide | omega) hin hnd)<|fun v10 ch10 how10=>?_
    obtain ⟨x10,i10,k10,rfl,hx10,hi10,rfl⟩:=how10
    refine ND<|?_
    refine gw_cond Z (fun h5=>?_) (fun h5=>?_)
    ·refine gw_drawF [(0,.detB),(1,.det),(3,.detB),(4,.detB),(2,.chg),(5,.add),(6,.det),(8,.det)] [7,9] 8 mixed Z (FD Z)<|dw_detB Z Z (fun _ q=>LS (i:=1) [_,_,_,_,_,_] Z tyS_impl_Receiver Z Z Z Z q)<|DM Z Z Z<|dw_detB Z Z (fun _ q=>MV Z Z q)<|dw_detB Z Z (fun _ q=>rw_addK (((10 + x4) : Nat) : Int) Z Z Z (by rw [show (((10 + x4) : Nat) : Int) = (10 : Int) + (x4 : Int) from by omega]; exact w64_of (by omega) (by omega)) q)<|dw_chg Z Z (fun _ q=>rw_ch (G:=[cur b A l.length cp i10 k10]) (R:=ch_ ++ ([])) Z fun_spec_l1Below Z ((pg PR PR)) (fun w hs hin hnd=>spec_l1Below (hr.sat hs) hi10 (n:=4) (by first | decide | omega) (by first | decide | omega) hin hnd) q)<|fun v11 ch11 how11=>?_
     obtain ⟨x11,i11,k11,rfl,hx11,hi11,rfl⟩:=how11
     refine DA Z Z (fun _ q=>CN1 Z fun_spec_ReceiveReset Z (fun w hs=>spec_ReceiveReset ⟨_,Z,⟨_,_,Z,hrda0 _ (fun c hc=>hs.at_ c (MR (MR (ML hc))))⟩⟩ hF_ _ _ (by omega)) q)<|fun v12 ch12 how12=>?_
     obtain ⟨cs12,s12,r12,rfl,how12,hF12⟩:=how12
     obtain ⟨v12_0,ch12,rfl,h12_0,rfl⟩:=how12
     obtain ⟨R12_0,b12_0,rfl,hR12_0,hrd12_0⟩:=h12_0.shape eChunk
     refine dw_F (F':=ch12 ++ ([cur b A l.length cp i11 k11] ++ (ch_ ++ ([])))) (by simp only [nA,aN,cA])<|DM Z Z Z<|DT Z Z (fun _ q=>XT Z Z Z q)<|dw_nil<|?_
     refine ⟨fp_of Z Z Z (fun _ q=>XT Z Z Z q),?_⟩
     refine cw_det Z Z (fun _ q=>XT Z Z Z q)<|cw_st Z Z (fun _ q=>ST (i:=0) [_,_,_,_,_,_] [_,_,_,_,_,_] tyS_impl_Receiver.sz Z Z Z Z Z Z Z Z q)<|cw_nil<|IB<|RG<|LS (i:=0) [_,_,_,_,_,_] Z tyS_impl_Receiver Z Z Z Z<|ST (i:=1) [_,_,_,_,_,_] [_,_,_,_,_,_] tyS_impl_Receiver.sz Z Z Z Z Z Z Z Z<|ND<|IB<|RG<|MV Z Z<|rw_sub Z Z Z<|AS Z Z<|ND<|?_
     refine gw_FP (F':=[cur b A l.length cp i11 k11] ++ (ch12 ++ (ch_ ++ ([])))) (pg (pp PR) (pg PR (pg PR PR)))<|gw_dropF (F':=[cur b A l.length cp i11 k11] ++ (ch12 ++ ([]))) (List.Sublist.append_left (List.Sublist.append_left (List.nil_sublist _) _) _)<|gw_dropN 1<|?_
     refine gw_sub (Sub.consE (i:=4) Z (int_pred hp3 (by omega)) (Sub.cons (i:=0) Z (Sub.cons (i:=2) Z (Sub.cons (i:=3) Z (Sub.nil _))))) (ih2 (n - 1,s12,_,ch12,i11,k11) ?_ ?_)
     ·refine ⟨by have:=hp3; omega,owReceiver_mk h12_0,?_,hi11⟩
      exact hF12
     ·show n - 1 < n; omega
    refine SK<|IB<|RG<|LS (i:=0) [_,_,_,_,_,_] Z tyS_impl_Receiver Z Z Z Z<|ST (i:=1) [_,_,_,_,_,_] [_,_,_,_,_,_] tyS_impl_Receiver.sz Z Z Z Z Z Z Z Z<|ND<|IB<|RG<|MV Z Z<|rw_sub Z Z Z<|AS Z Z<|ND<|?_
    refine gw_dropN 1<|?_
    refine gw_sub (Sub.consE (i:=4) Z (int_pred hp3 (by omega)) (Sub.cons (i:=0) Z (Sub.cons (i:=2) Z (Sub.cons (i:=3) Z (Sub.nil _))))) (ih2 (n - 1,x,_,ch_,i10,k10) ?_ ?_)
    ·refine ⟨by have:=hp3; omega,owReceiver_mk ha0,?_,hi10⟩
     exact hF_
    ·show n - 1 < n; omega
   refine RG<|LS (i:=1) [_,_,_,_,_,_] Z tyS_impl_Receiver Z Z Z Z<|MV Z Z<|MV Z Z<|CN1 Z fun_spec_ReceiveData Z (fun w hs=>spec_ReceiveData ⟨_,Z,⟨_,_,Z,hrda0 _ (fun c hc=>hs.at_ c (MR (MR (ML hc))))⟩⟩ hF_ _ (by omega) _)<|fun v13 ch13 how13=>?_
   obtain ⟨cs13,s13,r13,rfl,how13,hF13⟩:=how13
   obtain ⟨v13_0,ch13,rfl,h13_0,rfl⟩:=how13
   obtain ⟨R13_0,b13_0,rfl,hR13_0,hrd13_0⟩:=h13_0.shape eChunk
   refine rw_F (F':=ch13 ++ ([cur b A l.length cp i6 k6] ++ (ch_ ++ ([])))) (by simp only [nA,aN,cA])<|MV Z Z<|XT Z Z Z<|XT Z Z Z<|ST (i:=0) [_,_,_,_,_,_] [_,_,_,_,_,_] tyS_impl_Receiver.sz Z Z Z Z Z Z Z Z<|ND<|IB<|RG<|LS (i:=0) [_,_,_,_,_,_] Z tyS_impl_Receiver Z Z Z Z<|ST (i:=1) [_,_,_,_,_,_] [_,_,_,_,_,_] tyS_impl_Receiver.sz Z Z Z Z Z Z Z Z<|ND<|IB<|RG<|?_
   refine MV Z Z<|rw_sub Z Z Z<|AS Z Z<|ND<|?_
   refine gw_FP (F':=[cur b A l.length cp i6 k6] ++ (ch13 ++ (ch_ ++ ([])))) (pg (pp PR) (pg PR (pg PR PR)))<|gw_dropF (F':=[cur b A l.length cp i6 k6] ++ (ch13 ++ ([]))) (List.Sublist.append_left (List.Sublist.append_left (List.nil_sublist _) _) _)<|gw_dropN 1<|?_
   refine gw_sub (Sub.consE (i:=4) Z (int_pred hp3 (by omega)) (Sub.cons (i:=0) Z (Sub.cons (i:=2) Z (Sub.cons (i:=3) Z (Sub.nil _))))) (ih2 (n - 1,s13,_,ch13,i6,k6) ?_ ?_)
   ·refine ⟨by have:=hp3; omega,owReceiver_mk h13_0,?_,hi6⟩
    exact hF13
   ·show n - 1 < n; omega
  have hz14:=zero_of h1
  refine EX Z<|SQ<|RG<|LS (i:=0) [_,_,_,_,_,_] Z tyS_impl_Receiver Z Z Z Z<|ST (i:=1) [_,_,_,_,_,_] [_,_,_,_,_,_] tyS_impl_Receiver.sz Z Z Z Z Z Z Z Z<|ND<|?_
  refine gw_FP (pg PR (pg PR PR)) (gw_F (F':=(cur b A l.length cp i_ k :: (ch_)) ++ ([])) (by simp only [nA,aN,cA]) ?_)
  refine ret_ch (cur b A l.length cp i_ k :: (ch_)) Tryz.func162 (res1 Tryz.func162 Z (rv_s (i:=1) [_,_,_,_,_,_] tyS_impl_Receiver Z Z Z Z)) ?_ ?_
  ·refine ⟨_,_,_,_,_,Z,owReceiver_mk ha0,?_,hi_,Z⟩
   exact hF_
  ·exact (List.sublist_append_left _ _).trans (List.sublist_append_right _ _)
end Go.Proofs.YtbhnekiclbfmgaaGreat
