/- Walks: draws. -/
import Derived.Test.YtbhnekiclbfmgaaWDa
import Derived.Test.YtbhnekiclbfmgaaWDh
import Derived.Test.YtbhnekiclbfmgaaFactsDa
import Derived.Test.YtbhnekiclbfmgaaDrw
import Derived.Test.YtbhnekiclbfmgaaSlk
import Derived.Test.YtbhnekiclbfmgaaDrb
import Derived.Test.YtbhnekiclbfmgaaSli
import Derived.Test.YtbhnekiclbfmgaaDrl
namespace Go.Proofs.Ytbhnekiclbfmgaa
open SL Go.RowKit
theorem impl_copyReceiver {w : World} {cs : List Value} {x : Receiver} (hv : RdReceiver w cs x) (hb : x.le 1048576) : CN Try.prog 37 [.agg cs.toArray] w (OwV OwReceiver x) := by
  obtain ⟨v0, rfl, k0⟩ := hv
  obtain ⟨A0, c0, rfl, hA0⟩ := k0
  obtain ⟨hb0, hb1⟩ := hb
  refine cn_of Try.func37 Z Z Z <| SQ <| RG <| BX [_, _, _, _, _, _] Z Z Z <| fun b1 => AL Z tyZ_impl_Receiver <| fun b2 => ND <| SQ <| RG <| FA Z tyF_impl_Receiver_1 Z <| LS (i := 1) [_, _] Z tyS_impl_Buffer Z Z Z Z <| CN1 Z fun_impl_copyBuffer Z (fun w hs => impl_copyBuffer ⟨_, Z, (hA0.s Pl.keeps hs)⟩ ⟨hb0, hb1⟩) <| fun vv1 ch1 how1 => ?_
  obtain ⟨cs1, rfl, v1_0, c1_0, rfl, h1_0, rfl⟩ := how1
  obtain ⟨R1_0, b1_0, rfl, hR1_0, hrd1_0⟩ := h1_0.shape eChunk
  refine FA Z tyF_impl_Receiver_1 Z <| ST (i := 1) [_, _] [_, _, _, _, _, _] tyS_impl_Buffer.sz Z Z Z Z Z Z Z Z <| ND <| SQ <| RG <| LS (i := 1) [_, _, _, _, _, _] Z tyS_impl_Receiver Z Z Z Z <| ST (i := 0) [_, _, _, _, _, _] [_, _, _, _, _, _] tyS_impl_Receiver.sz Z Z Z Z Z Z Z Z <| ND <| ?_
  refine ret_cnP (ch := ch1) (G := ch1 ++ ([])) (F' := []) Try.func37 (res1 Try.func37 Z (rv_s (i := 0) [_, _, _, _, _, _] tyS_impl_Receiver Z Z Z Z)) ?_ ?_ ?_
  · exact ⟨_, rfl, _, _, rfl, h1_0, rfl⟩
  · exact (pg PR PR)
  · simp only []

theorem impl_EndOf {w : World} {cs : List Value} {x : Buffer} (hv : RdBuffer w cs x) (hb : x.le 1048576) : CV Try.prog 70 [.agg cs.toArray] w (.int .i64 (endOf x)) := by
  obtain ⟨v0, rfl, k0⟩ := hv
  obtain ⟨A0, c0, rfl, hA0⟩ := k0
  obtain ⟨hb0, hb1⟩ := hb
  refine cv_of Try.func70 Z Z Z <| SQ <| RG <| BX [_, _] Z Z Z <| fun b1 => AS Z Z <| ND <| SQ <| SQ <| RG <| LS (i := 0) [_, _] Z tyS_impl_Buffer Z Z Z Z <| CV1 Z fun_impl_IsBuffer Z (fun w hs => impl_IsBuffer ⟨_, Z, (hA0.s Pl.keeps hs)⟩ ⟨hb0, hb1⟩) <| NT Z Z <| MV Z Z <| ?_
  refine rw_caseN (j := 6) Z (fun h1 => ?_) (fun h1 => ?_)
  · refine SKP Z <| PT Z Z Z Z <| ND <| CT Z Z <| SQ <| RG <| FA Z tyF_impl_Buffer_0 Z <| LD (i := 0) Z tyP_int Z Z Z <| AS Z Z <| ND <| RT Try.func70 Z Z <| ?_
    simp [endOf, chunkEnd, h1]
  refine ON Z Z Z <| FA Z tyF_impl_Buffer_1 Z <| ON Z Z Z <| LD (i := 0) Z tyP_S_impl_Chunk Z Z Z <| ON Z Z Z <| rw_len Z tyE_S_impl_Chunk Z <| ON Z Z Z <| EQ1 Z Z Z <| PF Z Z Z Z <| ND <| ?_
  refine gw_cond Z (fun h2 => ?_) (fun h2 => ?_)
  · have hnil1 := nil_of_eq h2
    refine SQ <| RG <| FA Z tyF_impl_Buffer_0 Z <| LD (i := 0) Z tyP_int Z Z Z <| AS Z Z <| ND <| RT Try.func70 Z Z <| ?_
    simp [endOf, h1, hnil1]
  have hpos2 := pos_of_ne h2
  refine SK <| SQ <| RG <| FA Z tyF_impl_Buffer_1 Z <| LD (i := 0) Z tyP_S_impl_Chunk Z Z Z <| FA Z tyF_impl_Buffer_1 Z <| LD (i := 0) Z tyP_S_impl_Chunk Z Z Z <| rw_len Z tyE_S_impl_Chunk Z <| rw_sub Z Z Z <| ?_
  have hi3 : x.chunks.length - 1 < x.chunks.length := by omega
  obtain ⟨x4, hx4⟩ := get_of_lt hi3
  have hd4 := drop_cons hx4
  have hq5 := hA0.plain hx4
  refine rw_indexAddr (x.chunks.length - 1) Z tyE_S_impl_Chunk Z Z (lenpred_of (by omega) (by omega)) (hA0.some hi3) hi3 <| rw_loadX_s [_, _] Z tyS_impl_Chunk Z Z (fun w hs => hq5.lds0 (n := 2) hs Z) <| CV1 Z fun_impl_Chunk_end Z (fun w hs => impl_Chunk_end _ w) <| AS Z Z <| ND <| RT Try.func70 Z Z <| ?_
  simp [endOf, chunkEnd, h1, hx4]

theorem impl_ReadyBytes {w : World} {cs : List Value} {x : Buffer} (hv : RdBuffer w cs x) (hb : x.le 1048576) : CV Try.prog 77 [.agg cs.toArray] w (.int .i64 (readyBytes x)) := by
  obtain ⟨v0, rfl, k0⟩ := hv
  obtain ⟨A0, c0, rfl, hA0⟩ := k0
  obtain ⟨hb0, hb1⟩ := hb
  refine cv_of Try.func77 Z Z Z <| SQ <| RG <| BX [_, _] Z Z Z <| fun b1 => AS Z Z <| ND <| SQ <| SQ <| gw_draw' [dd 0, dd 1, dd 2, dd 3, dd 4, dd 5, dd 6, dd 7, dd 8, dd 9, dd 10, dd 11, dd 12, dd 13, dd 14, dd 15, dd 16] [17, 18] mixed Z (FD Z) (ts := [_, _]) Z <| DT Z Z (fun K hk => LS (i := 0) [_, _] Z tyS_impl_Buffer Z Z Z Z hk) <| DT Z Z (fun K hk => CV1 Z fun_impl_IsBuffer Z (fun w hs => impl_IsBuffer ⟨_, Z, (hA0.s Pl.keeps hs)⟩ ⟨hb0, hb1⟩) hk) <| ?_
  refine DT Z Z (fun K hk => NT Z Z hk) <| DM Z Z Z <| ?_
  refine dw_caseN (j := 6) Z (fun h1 => ?_) (fun h1 => ?_)
  · refine DSK Z <| DT Z Z (fun K hk => PT Z Z Z Z hk) <| DM Z Z Z <| DSK Z <| dw_nil <| OF Z Z Z Z <| PT Z Z Z Z <| ND <| CT Z Z <| SQ <| RG <| AS Z Z <| ND <| RT Try.func77 Z Z <| ?_
    simp [readyBytes, h1]
  refine DT Z Z (fun K hk => ON Z Z Z (FA Z tyF_impl_Buffer_1 Z hk)) <| DT Z Z (fun K hk => ON Z Z Z (LD (i := 0) Z tyP_S_impl_Chunk Z Z Z hk)) <| DT Z Z (fun K hk => ON Z Z Z (rw_len Z tyE_S_impl_Chunk Z hk)) <| DT Z Z (fun K hk => ON Z Z Z (EQ1 Z Z Z hk)) <| DT Z Z (fun K hk => PF Z Z Z Z hk) <| DM Z Z Z <| ?_
  refine dw_caseL (j := 12) Z (fun h2 => ?_) (fun h2 => ?_)
  · have hnil1 := nil_of_eq h2
    refine DSK Z <| dw_nil <| OF Z Z Z Z <| PT Z Z Z Z <| ND <| CT Z Z <| SQ <| RG <| AS Z Z <| ND <| RT Try.func77 Z Z <| ?_
    simp [readyBytes, h1, hnil1]
  have hpos2 := pos_of_ne h2
  refine DT Z Z (fun K hk => ON Z Z Z (FA Z tyF_impl_Buffer_1 Z hk)) <| DT Z Z (fun K hk => ON Z Z Z (LD (i := 0) Z tyP_S_impl_Chunk Z Z Z hk)) <| ?_
  have hi3 : 0 < x.chunks.length := by omega
  obtain ⟨x4, hx4⟩ := get_of_lt hi3
  have hd4 := drop_cons hx4
  have hq5 := hA0.plain hx4
  refine DT Z Z (fun K hk => ON Z Z Z (rw_indexAddr (0) Z tyE_S_impl_Chunk Z Z Z (hA0.some hi3) hi3 hk)) <| DT Z Z (fun K hk => ON Z Z Z (FX Z tyF_impl_Chunk_0 Z hk)) <| DT Z Z (fun K hk => ON Z Z Z (rw_loadX _ Z tyP_int Z (fun w hs => hq5.ld hs Z) hk)) <| DT Z Z (fun K hk => ON Z Z Z (FA Z tyF_impl_Buffer_0 Z hk)) <| DT Z Z (fun K hk => ON Z Z Z (LD (i := 0) Z tyP_int Z Z Z hk)) <| dw_nil <| ON Z Z Z <| ?_
  refine rw_neq Z Z Z <| PF Z Z Z Z <| ND <| ?_
  refine gw_condN Z (fun h3 => ?_) (fun h3 => ?_)
  · refine SQ <| RG <| AS Z Z <| ND <| RT Try.func77 Z Z <| ?_
    simp [readyBytes, h1, h3, hx4]
  refine SK <| SQ <| RG <| FA Z tyF_impl_Buffer_1 Z <| LD (i := 0) Z tyP_S_impl_Chunk Z Z Z <| rw_indexAddr (0) Z tyE_S_impl_Chunk Z Z Z (hA0.some hi3) hi3 <| FX Z tyF_impl_Chunk_1 Z <| rw_loadX _ Z tyP_string Z (fun w hs => hq5.ld hs Z) <| rw_lenS Z (by kernel_rfl) Z <| AS Z Z <| ND <| RT Try.func77 Z Z <| ?_
  simp [readyBytes, h1, h3, hx4]

theorem impl_readyEnd {w : World} {cs : List Value} {x : Buffer} (hv : RdBuffer w cs x) (hb : x.le 1048576) : CV Try.prog 42 [.agg cs.toArray] w (.int .i64 (w64 (x.next + readyBytes x))) := by
  obtain ⟨v0, rfl, k0⟩ := hv
  obtain ⟨A0, c0, rfl, hA0⟩ := k0
  obtain ⟨hb0, hb1⟩ := hb
  refine cv_of Try.func42 Z Z Z <| SQ <| RG <| BX [_, _] Z Z Z <| fun b1 => AS Z Z <| ND <| SQ <| gw_draw' [dd 0, dd 1, dd 2, dd 3] [4, 5] mixed Z (FD Z) (ts := [_, _]) Z <| DT Z Z (fun K hk => FA Z tyF_impl_Buffer_0 Z hk) <| DT Z Z (fun K hk => LD (i := 0) Z tyP_int Z Z Z hk) <| DT Z Z (fun K hk => LS (i := 0) [_, _] Z tyS_impl_Buffer Z Z Z Z hk) <| DT Z Z (fun K hk => CV1 Z fun_impl_ReadyBytes Z (fun w hs => impl_ReadyBytes ⟨_, Z, (hA0.s Pl.keeps hs)⟩ ⟨hb0, hb1⟩) hk) <| ?_
  refine dw_nil <| rw_add Z Z Z <| AS Z Z <| ND <| RT Try.func42 Z Z <| ?_
  rfl

theorem impl_IsReceiver {w : World} {cs : List Value} {x : Receiver} (hv : RdReceiver w cs x) (hb : x.le 1048576) : CV Try.prog 38 [.agg cs.toArray] w (.bool (isReceiver x)) := by
  obtain ⟨v0, rfl, k0⟩ := hv
  obtain ⟨A0, c0, rfl, hA0⟩ := k0
  obtain ⟨hb0, hb1⟩ := hb
  refine cv_of Try.func38 Z Z Z <| SQ <| RG <| BX [_, _, _, _, _, _] Z Z Z <| fun b1 => AS Z Z <| ND <| SQ <| SQ <| gw_draw' [dd 0, dd 1, dd 2, dd 3, dd 4, dd 5, dd 6, dd 7, dd 8, dd 9, dd 10, dd 11, dd 12, dd 13, dd 14, dd 15, dd 16, dd 17, dd 18, dd 19, dd 20, dd 21, dd 22, dd 23, dd 24, dd 25, dd 26, dd 27, dd 28, dd 29, dd 30, dd 31, dd 32] [33, 34, 35, 36] mixed Z (FD Z) (ts := [_, _, _, _]) Z <| ?_
  refine DT Z Z (fun K hk => FA Z tyF_impl_Receiver_1 Z hk) <| DT Z Z (fun K hk => LS (i := 0) [_, _] Z tyS_impl_Buffer Z Z Z Z hk) <| DT Z Z (fun K hk => CV1 Z fun_impl_IsBuffer Z (fun w hs => impl_IsBuffer ⟨_, Z, (hA0.s Pl.keeps hs)⟩ ⟨hb0, hb1⟩) hk) <| DT Z Z (fun K hk => NT Z Z hk) <| DM Z Z Z <| ?_
  refine dw_caseN (j := 8) Z (fun h1 => ?_) (fun h1 => ?_)
  · refine DSK Z <| DT Z Z (fun K hk => PT Z Z Z Z hk) <| DM Z Z Z <| DSK Z <| DT Z Z (fun K hk => PT Z Z Z Z hk) <| DM Z Z Z <| DSK Z <| DT Z Z (fun K hk => PT Z Z Z Z hk) <| DM Z Z Z <| DSK Z <| dw_nil <| SKP Z <| PT Z Z Z Z <| ND <| CT Z Z <| SQ <| RG <| AS Z Z <| ND <| RT Try.func38 Z Z <| ?_
    simp [isReceiver, maxQuic, h1]
  refine DT Z Z (fun K hk => ON Z Z Z (FA Z tyF_impl_Receiver_1 Z hk)) <| DT Z Z (fun K hk => ON Z Z Z (LS (i := 0) [_, _] Z tyS_impl_Buffer Z Z Z Z hk)) <| DT Z Z (fun K hk => ON Z Z Z (CV1 Z fun_impl_EndOf Z (fun w hs => impl_EndOf ⟨_, Z, (hA0.s Pl.keeps hs)⟩ ⟨hb0, hb1⟩) hk)) <| DT Z Z (fun K hk => ON Z Z Z (FA Z tyF_impl_Receiver_3 Z hk)) <| DT Z Z (fun K hk => ON Z Z Z (LD (i := 0) Z tyP_int Z Z Z hk)) <| ?_
  refine DT Z Z (fun K hk => ON Z Z Z (rw_gtr Z Z Z hk)) <| DT Z Z (fun K hk => PF Z Z Z Z hk) <| DM Z Z Z <| ?_
  refine dw_caseL (j := 16) Z (fun h2 => ?_) (fun h2 => ?_)
  · refine DSK Z <| DT Z Z (fun K hk => PT Z Z Z Z hk) <| DM Z Z Z <| DSK Z <| DT Z Z (fun K hk => PT Z Z Z Z hk) <| DM Z Z Z <| DSK Z <| dw_nil <| SKP Z <| PT Z Z Z Z <| ND <| CT Z Z <| SQ <| RG <| AS Z Z <| ND <| RT Try.func38 Z Z <| ?_
    simp [isReceiver, maxQuic, h1, h2]
  refine DT Z Z (fun K hk => ON Z Z Z (FA Z tyF_impl_Receiver_3 Z hk)) <| DT Z Z (fun K hk => ON Z Z Z (LD (i := 0) Z tyP_int Z Z Z hk)) <| DT Z Z (fun K hk => ON Z Z Z (CV1 Z fun_impl_isQuic Z (fun w hs => impl_isQuic _ w) hk)) <| DT Z Z (fun K hk => ON Z Z Z (NT Z Z hk)) <| DT Z Z (fun K hk => PF Z Z Z Z hk) <| DM Z Z Z <| ?_
  refine dw_caseN (j := 22) Z (fun h3 => ?_) (fun h3 => ?_)
  · refine DSK Z <| DT Z Z (fun K hk => PT Z Z Z Z hk) <| DM Z Z Z <| DSK Z <| dw_nil <| SKP Z <| PT Z Z Z Z <| ND <| CT Z Z <| SQ <| RG <| AS Z Z <| ND <| RT Try.func38 Z Z <| ?_
    simp [isReceiver, maxQuic, h1, h2, h3]
  refine DT Z Z (fun K hk => ON Z Z Z (FA Z tyF_impl_Receiver_4 Z hk)) <| DT Z Z (fun K hk => ON Z Z Z (LD (i := 0) Z tyP_int Z Z Z hk)) <| DT Z Z (fun K hk => ON Z Z Z (CV1 Z fun_impl_isQuic Z (fun w hs => impl_isQuic _ w) hk)) <| DT Z Z (fun K hk => ON Z Z Z (NT Z Z hk)) <| DT Z Z (fun K hk => PF Z Z Z Z hk) <| DM Z Z Z <| ?_
  refine dw_caseN (j := 28) Z (fun h4 => ?_) (fun h4 => ?_)
  · refine DSK Z <| dw_nil <| SKP Z <| PT Z Z Z Z <| ND <| CT Z Z <| SQ <| RG <| AS Z Z <| ND <| RT Try.func38 Z Z <| ?_
    simp [isReceiver, maxQuic, h1, h2, h3, h4]
  refine DT Z Z (fun K hk => ON Z Z Z (FA Z tyF_impl_Receiver_2 Z hk)) <| DT Z Z (fun K hk => ON Z Z Z (LD (i := 0) Z tyP_int Z Z Z hk)) <| DT Z Z (fun K hk => ON Z Z Z (rw_neq Z Z Z hk)) <| DT Z Z (fun K hk => ON Z Z Z (MV Z Z hk)) <| ?_
  refine dw_caseN (j := 32) Z (fun h5 => ?_) (fun h5 => ?_)
  · refine DT Z Z (fun K hk => ON Z Z Z (FA Z tyF_impl_Receiver_2 Z hk)) <| DT Z Z (fun K hk => ON Z Z Z (LD (i := 0) Z tyP_int Z Z Z hk)) <| DT Z Z (fun K hk => ON Z Z Z (FA Z tyF_impl_Receiver_3 Z hk)) <| DT Z Z (fun K hk => ON Z Z Z (LD (i := 0) Z tyP_int Z Z Z hk)) <| dw_nil <| ON Z Z Z <| CV1 Z fun_impl_within Z (fun w hs => impl_within _ _ _ w) <| ON Z Z Z <| NT Z Z <| ON Z Z Z <| ?_
    refine PT Z Z Z Z <| PF Z Z Z Z <| ND <| ?_
    refine gw_condN Z (fun h6 => ?_) (fun h6 => ?_)
    · refine SQ <| RG <| AS Z Z <| ND <| RT Try.func38 Z Z <| ?_
      simp [isReceiver, maxQuic, h1, h2, h3, h4, h5, h6]
    refine SK <| SQ <| gw_draw' [dd 0, dd 1, dd 2, dd 3, dd 4, dd 5, dd 6, dd 7, dd 8] [9, 10, 11] mixed Z (FD Z) (ts := [_, _, _]) Z <| DT Z Z (fun K hk => FA Z tyF_impl_Receiver_2 Z hk) <| DT Z Z (fun K hk => LD (i := 0) Z tyP_int Z Z Z hk) <| DT Z Z (fun K hk => rw_neq Z Z Z hk) <| DM Z Z Z <| ?_
    refine dw_caseN (j := 44) Z (fun h7 => ?_) (fun h7 => ?_)
    · refine DT Z Z (fun K hk => ON Z Z Z (FA Z tyF_impl_Receiver_1 Z hk)) <| DT Z Z (fun K hk => ON Z Z Z (LS (i := 0) [_, _] Z tyS_impl_Buffer Z Z Z Z hk)) <| DT Z Z (fun K hk => ON Z Z Z (CV1 Z fun_impl_readyEnd Z (fun w hs => impl_readyEnd ⟨_, Z, (hA0.s Pl.keeps hs)⟩ ⟨hb0, hb1⟩) hk)) <| DT Z Z (fun K hk => ON Z Z Z (FA Z tyF_impl_Receiver_2 Z hk)) <| DT Z Z (fun K hk => ON Z Z Z (LD (i := 0) Z tyP_int Z Z Z hk)) <| ?_
      refine dw_nil <| ON Z Z Z <| EQ1 Z Z Z <| PT Z Z Z Z <| AS Z Z <| ND <| SQ <| SQ <| RG <| FA Z tyF_impl_Receiver_0 Z <| LD (i := 0) Z tyP_int Z Z Z <| ND <| BK <| SQ <| RG <| EQ1 Z Z Z <| AS Z Z <| ND <| ?_
      refine gw_cond Z (fun h8 => ?_) (fun h8 => ?_)
      · refine SQ <| RG <| FA Z tyF_impl_Receiver_2 Z <| LD (i := 0) Z tyP_int Z Z Z <| EQ1 Z Z Z <| MV Z Z <| ?_
        refine rw_caseL (j := 59) Z (fun h9 => ?_) (fun h9 => ?_)
        · refine ON Z Z Z <| FA Z tyF_impl_Receiver_4 Z <| ON Z Z Z <| LD (i := 0) Z tyP_int Z Z Z <| ON Z Z Z <| EQ1 Z Z Z <| PT Z Z Z Z <| AS Z Z <| ND <| RT Try.func38 Z Z <| ?_
          simp_all []
        refine SKP Z <| PF Z Z Z Z <| AS Z Z <| ND <| RT Try.func38 Z Z <| ?_
        simp [isReceiver, maxQuic, h1, h2, h3, h4, h5, h6, h8]
      refine SQ <| RG <| EQ1 Z Z Z <| AS Z Z <| ND <| ?_
      refine gw_cond Z (fun h10 => ?_) (fun h10 => ?_)
      · refine SQ <| RG <| FA Z tyF_impl_Receiver_2 Z <| LD (i := 0) Z tyP_int Z Z Z <| rw_neq Z Z Z <| MV Z Z <| ?_
        refine rw_caseN (j := 69) Z (fun h11 => ?_) (fun h11 => ?_)
        · refine ON Z Z Z <| MV Z Z <| ON Z Z Z <| NT Z Z <| PT Z Z Z Z <| MV Z Z <| ?_
          refine rw_caseN (j := 73) Z (fun h12 => ?_) (fun h12 => ?_)
          · refine ON Z Z Z <| FA Z tyF_impl_Receiver_4 Z <| ON Z Z Z <| LD (i := 0) Z tyP_int Z Z Z <| ON Z Z Z <| EQ1 Z Z Z <| PT Z Z Z Z <| AS Z Z <| ND <| RT Try.func38 Z Z <| ?_
            simp [isReceiver, maxQuic, h1, h2, h3, h4, h5, h6, h8, h10, h12]
          refine SKP Z <| PF Z Z Z Z <| AS Z Z <| ND <| RT Try.func38 Z Z <| ?_
          simp [isReceiver, maxQuic, h1, h2, h3, h4, h5, h6, h8, h10, h12]
        refine SKP Z <| PF Z Z Z Z <| MV Z Z <| SKP Z <| PF Z Z Z Z <| AS Z Z <| ND <| RT Try.func38 Z Z <| ?_
        simp_all []
      refine SQ <| RG <| EQ1 Z Z Z <| AS Z Z <| ND <| ?_
      refine gw_cond Z (fun h13 => ?_) (fun h13 => ?_)
      · refine SQ <| RG <| MV Z Z <| MV Z Z <| ?_
        refine rw_caseL (j := 81) Z (fun h14 => ?_) (fun h14 => ?_)
        · refine ON Z Z Z <| FA Z tyF_impl_Receiver_4 Z <| ON Z Z Z <| LD (i := 0) Z tyP_int Z Z Z <| ON Z Z Z <| EQ1 Z Z Z <| PT Z Z Z Z <| AS Z Z <| ND <| RT Try.func38 Z Z <| ?_
          simp [isReceiver, maxQuic, h1, h2, h3, h4, h5, h6, h8, h10, h13, h14]
        refine SKP Z <| PF Z Z Z Z <| AS Z Z <| ND <| RT Try.func38 Z Z <| ?_
        simp [isReceiver, maxQuic, h1, h2, h3, h4, h5, h6, h8, h10, h13, h14]
      refine SQ <| RG <| EQ1 Z Z Z <| AS Z Z <| ND <| ?_
      refine gw_cond Z (fun h15 => ?_) (fun h15 => ?_)
      · refine SQ <| RG <| MV Z Z <| MV Z Z <| ?_
        refine rw_caseL (j := 89) Z (fun h16 => ?_) (fun h16 => ?_)
        · refine ON Z Z Z <| FA Z tyF_impl_Receiver_4 Z <| ON Z Z Z <| LD (i := 0) Z tyP_int Z Z Z <| ON Z Z Z <| EQ1 Z Z Z <| PT Z Z Z Z <| MV Z Z <| ?_
          refine rw_caseL (j := 94) Z (fun h17 => ?_) (fun h17 => ?_)
          · refine ON Z Z Z <| FA Z tyF_impl_Receiver_1 Z <| ON Z Z Z <| FA Z tyF_impl_Buffer_1 Z <| ON Z Z Z <| LD (i := 0) Z tyP_S_impl_Chunk Z Z Z <| ON Z Z Z <| rw_len Z tyE_S_impl_Chunk Z <| ON Z Z Z <| EQ1 Z Z Z <| PT Z Z Z Z <| AS Z Z <| ND <| RT Try.func38 Z Z <| ?_
            simp [isReceiver, maxQuic, h1, h2, h3, h4, h5, h6, h8, h10, h13, h15, h16, h17]
          refine SKP Z <| PF Z Z Z Z <| AS Z Z <| ND <| RT Try.func38 Z Z <| ?_
          simp [isReceiver, maxQuic, h1, h2, h3, h4, h5, h6, h8, h10, h13, h15, h16, h17]
        refine SKP Z <| PF Z Z Z Z <| MV Z Z <| SKP Z <| PF Z Z Z Z <| AS Z Z <| ND <| RT Try.func38 Z Z <| ?_
        simp [isReceiver, maxQuic, h1, h2, h3, h4, h5, h6, h8, h10, h13, h15, h16]
      refine SQ <| SQ <| RG <| EQ1 Z Z Z <| AS Z Z <| ND <| ?_
      refine gw_cond Z (fun h18 => ?_) (fun h18 => ?_)
      · refine SK <| CT Z h18 <| SQ <| RG <| FA Z tyF_impl_Receiver_2 Z <| LD (i := 0) Z tyP_int Z Z Z <| FA Z tyF_impl_Receiver_3 Z <| LD (i := 0) Z tyP_int Z Z Z <| EQ1 Z Z Z <| MV Z Z <| ?_
        refine rw_caseL (j := 109) Z (fun h19 => ?_) (fun h19 => ?_)
        · refine ON Z Z Z <| FA Z tyF_impl_Receiver_1 Z <| ON Z Z Z <| FA Z tyF_impl_Buffer_1 Z <| ON Z Z Z <| LD (i := 0) Z tyP_S_impl_Chunk Z Z Z <| ON Z Z Z <| rw_len Z tyE_S_impl_Chunk Z <| ON Z Z Z <| EQ1 Z Z Z <| PT Z Z Z Z <| AS Z Z <| ND <| RT Try.func38 Z Z <| ?_
          simp [isReceiver, maxQuic, h1, h2, h3, h4, h5, h6, h8, h10, h13, h15, h18, h19]
        refine SKP Z <| PF Z Z Z Z <| AS Z Z <| ND <| RT Try.func38 Z Z <| ?_
        simp [isReceiver, maxQuic, h1, h2, h3, h4, h5, h6, h8, h10, h13, h15, h18, h19]
      refine RG <| EQ1 Z Z Z <| AS Z Z <| ND <| ?_
      refine gw_cond Z (fun h20 => ?_) (fun h20 => ?_)
      · refine SQ <| RG <| FA Z tyF_impl_Receiver_2 Z <| LD (i := 0) Z tyP_int Z Z Z <| FA Z tyF_impl_Receiver_3 Z <| LD (i := 0) Z tyP_int Z Z Z <| EQ1 Z Z Z <| MV Z Z <| ?_
        refine rw_caseL (j := 109) Z (fun h21 => ?_) (fun h21 => ?_)
        · refine ON Z Z Z <| FA Z tyF_impl_Receiver_1 Z <| ON Z Z Z <| FA Z tyF_impl_Buffer_1 Z <| ON Z Z Z <| LD (i := 0) Z tyP_S_impl_Chunk Z Z Z <| ON Z Z Z <| rw_len Z tyE_S_impl_Chunk Z <| ON Z Z Z <| EQ1 Z Z Z <| PT Z Z Z Z <| AS Z Z <| ND <| RT Try.func38 Z Z <| ?_
          simp [isReceiver, maxQuic, h1, h2, h3, h4, h5, h6, h8, h10, h13, h15, h18, h20, h21]
        refine SKP Z <| PF Z Z Z Z <| AS Z Z <| ND <| RT Try.func38 Z Z <| ?_
        simp [isReceiver, maxQuic, h1, h2, h3, h4, h5, h6, h8, h10, h13, h15, h18, h20, h21]
      refine SK <| IB <| SQ <| RG <| AS Z Z <| ND <| RT Try.func38 Z Z <| ?_
      simp [isReceiver, maxQuic, h1, h2, h3, h4, h5, h6, h8, h10, h13, h15, h18, h20]
    refine DSK Z <| dw_nil <| OF Z Z Z Z <| PF Z Z Z Z <| AS Z Z <| ND <| SQ <| SQ <| RG <| FA Z tyF_impl_Receiver_0 Z <| LD (i := 0) Z tyP_int Z Z Z <| ND <| BK <| SQ <| RG <| EQ1 Z Z Z <| AS Z Z <| ND <| ?_
    refine gw_cond Z (fun h22 => ?_) (fun h22 => ?_)
    · refine SQ <| RG <| FA Z tyF_impl_Receiver_2 Z <| LD (i := 0) Z tyP_int Z Z Z <| EQ1 Z Z Z <| MV Z Z <| ?_
      refine rw_caseL (j := 59) Z (fun h23 => ?_) (fun h23 => ?_)
      · refine ON Z Z Z <| FA Z tyF_impl_Receiver_4 Z <| ON Z Z Z <| LD (i := 0) Z tyP_int Z Z Z <| ON Z Z Z <| EQ1 Z Z Z <| PT Z Z Z Z <| AS Z Z <| ND <| RT Try.func38 Z Z <| ?_
        simp_all []
      refine SKP Z <| PF Z Z Z Z <| AS Z Z <| ND <| RT Try.func38 Z Z <| ?_
      simp [isReceiver, maxQuic, h1, h2, h3, h4, h5, h6, h22]
    refine SQ <| RG <| EQ1 Z Z Z <| AS Z Z <| ND <| ?_
    refine gw_cond Z (fun h24 => ?_) (fun h24 => ?_)
    · refine SQ <| RG <| FA Z tyF_impl_Receiver_2 Z <| LD (i := 0) Z tyP_int Z Z Z <| rw_neq Z Z Z <| MV Z Z <| ?_
      refine rw_caseN (j := 69) Z (fun h25 => ?_) (fun h25 => ?_)
      · refine ON Z Z Z <| MV Z Z <| ON Z Z Z <| NT Z Z <| PT Z Z Z Z <| MV Z Z <| ON Z Z Z <| FA Z tyF_impl_Receiver_4 Z <| ON Z Z Z <| LD (i := 0) Z tyP_int Z Z Z <| ON Z Z Z <| EQ1 Z Z Z <| PT Z Z Z Z <| AS Z Z <| ND <| RT Try.func38 Z Z <| ?_
        simp_all []
      refine SKP Z <| PF Z Z Z Z <| MV Z Z <| SKP Z <| PF Z Z Z Z <| AS Z Z <| ND <| RT Try.func38 Z Z <| ?_
      simp_all []
    refine SQ <| RG <| EQ1 Z Z Z <| AS Z Z <| ND <| ?_
    refine gw_cond Z (fun h26 => ?_) (fun h26 => ?_)
    · refine SQ <| RG <| MV Z Z <| MV Z Z <| SKP Z <| PF Z Z Z Z <| AS Z Z <| ND <| RT Try.func38 Z Z <| ?_
      simp_all []
    refine SQ <| RG <| EQ1 Z Z Z <| AS Z Z <| ND <| ?_
    refine gw_cond Z (fun h27 => ?_) (fun h27 => ?_)
    · refine SQ <| RG <| MV Z Z <| MV Z Z <| SKP Z <| PF Z Z Z Z <| MV Z Z <| SKP Z <| PF Z Z Z Z <| AS Z Z <| ND <| RT Try.func38 Z Z <| ?_
      simp_all []
    refine SQ <| SQ <| RG <| EQ1 Z Z Z <| AS Z Z <| ND <| ?_
    refine gw_cond Z (fun h28 => ?_) (fun h28 => ?_)
    · refine SK <| CT Z h28 <| SQ <| RG <| FA Z tyF_impl_Receiver_2 Z <| LD (i := 0) Z tyP_int Z Z Z <| FA Z tyF_impl_Receiver_3 Z <| LD (i := 0) Z tyP_int Z Z Z <| EQ1 Z Z Z <| MV Z Z <| ?_
      refine rw_caseL (j := 109) Z (fun h29 => ?_) (fun h29 => ?_)
      · refine ON Z Z Z <| FA Z tyF_impl_Receiver_1 Z <| ON Z Z Z <| FA Z tyF_impl_Buffer_1 Z <| ON Z Z Z <| LD (i := 0) Z tyP_S_impl_Chunk Z Z Z <| ON Z Z Z <| rw_len Z tyE_S_impl_Chunk Z <| ON Z Z Z <| EQ1 Z Z Z <| PT Z Z Z Z <| AS Z Z <| ND <| RT Try.func38 Z Z <| ?_
        simp [isReceiver, maxQuic, h1, h2, h3, h4, h5, h6, h22, h24, h26, h27, h28, h29]
      refine SKP Z <| PF Z Z Z Z <| AS Z Z <| ND <| RT Try.func38 Z Z <| ?_
      simp [isReceiver, maxQuic, h1, h2, h3, h4, h5, h6, h22, h24, h26, h27, h28, h29]
    refine RG <| EQ1 Z Z Z <| AS Z Z <| ND <| ?_
    refine gw_cond Z (fun h30 => ?_) (fun h30 => ?_)
    · refine SQ <| RG <| FA Z tyF_impl_Receiver_2 Z <| LD (i := 0) Z tyP_int Z Z Z <| FA Z tyF_impl_Receiver_3 Z <| LD (i := 0) Z tyP_int Z Z Z <| EQ1 Z Z Z <| MV Z Z <| ?_
      refine rw_caseL (j := 109) Z (fun h31 => ?_) (fun h31 => ?_)
      · refine ON Z Z Z <| FA Z tyF_impl_Receiver_1 Z <| ON Z Z Z <| FA Z tyF_impl_Buffer_1 Z <| ON Z Z Z <| LD (i := 0) Z tyP_S_impl_Chunk Z Z Z <| ON Z Z Z <| rw_len Z tyE_S_impl_Chunk Z <| ON Z Z Z <| EQ1 Z Z Z <| PT Z Z Z Z <| AS Z Z <| ND <| RT Try.func38 Z Z <| ?_
        simp [isReceiver, maxQuic, h1, h2, h3, h4, h5, h6, h22, h24, h26, h27, h28, h30, h31]
      refine SKP Z <| PF Z Z Z Z <| AS Z Z <| ND <| RT Try.func38 Z Z <| ?_
      simp [isReceiver, maxQuic, h1, h2, h3, h4, h5, h6, h22, h24, h26, h27, h28, h30, h31]
    refine SK <| IB <| SQ <| RG <| AS Z Z <| ND <| RT Try.func38 Z Z <| ?_
    simp [isReceiver, maxQuic, h1, h2, h3, h4, h5, h6, h22, h24, h26, h27, h28, h30]
  refine DSK Z <| dw_nil <| SKP Z <| ON Z Z Z <| PF Z Z Z Z <| PF Z Z Z Z <| ND <| CF Z Z <| SK <| SQ <| gw_draw' [dd 0, dd 1, dd 2, dd 3, dd 4, dd 5, dd 6, dd 7, dd 8] [9, 10, 11] mixed Z (FD Z) (ts := [_, _, _]) Z <| DT Z Z (fun K hk => FA Z tyF_impl_Receiver_2 Z hk) <| DT Z Z (fun K hk => LD (i := 0) Z tyP_int Z Z Z hk) <| DT Z Z (fun K hk => rw_neq Z Z Z hk) <| DM Z Z Z <| ?_
  refine dw_caseN (j := 44) Z (fun h32 => ?_) (fun h32 => ?_)
  · refine DT Z Z (fun K hk => ON Z Z Z (FA Z tyF_impl_Receiver_1 Z hk)) <| DT Z Z (fun K hk => ON Z Z Z (LS (i := 0) [_, _] Z tyS_impl_Buffer Z Z Z Z hk)) <| DT Z Z (fun K hk => ON Z Z Z (CV1 Z fun_impl_readyEnd Z (fun w hs => impl_readyEnd ⟨_, Z, (hA0.s Pl.keeps hs)⟩ ⟨hb0, hb1⟩) hk)) <| DT Z Z (fun K hk => ON Z Z Z (FA Z tyF_impl_Receiver_2 Z hk)) <| DT Z Z (fun K hk => ON Z Z Z (LD (i := 0) Z tyP_int Z Z Z hk)) <| ?_
    refine dw_nil <| ON Z Z Z <| EQ1 Z Z Z <| PT Z Z Z Z <| AS Z Z <| ND <| SQ <| SQ <| RG <| FA Z tyF_impl_Receiver_0 Z <| LD (i := 0) Z tyP_int Z Z Z <| ND <| BK <| SQ <| RG <| EQ1 Z Z Z <| AS Z Z <| ND <| ?_
    refine gw_cond Z (fun h33 => ?_) (fun h33 => ?_)
    · refine SQ <| RG <| FA Z tyF_impl_Receiver_2 Z <| LD (i := 0) Z tyP_int Z Z Z <| EQ1 Z Z Z <| MV Z Z <| ?_
      refine rw_caseL (j := 59) Z (fun h34 => ?_) (fun h34 => ?_)
      · refine ON Z Z Z <| FA Z tyF_impl_Receiver_4 Z <| ON Z Z Z <| LD (i := 0) Z tyP_int Z Z Z <| ON Z Z Z <| EQ1 Z Z Z <| PT Z Z Z Z <| AS Z Z <| ND <| RT Try.func38 Z Z <| ?_
        simp [isReceiver, maxQuic, h1, h2, h3, h4, h5, h33]
      refine SKP Z <| PF Z Z Z Z <| AS Z Z <| ND <| RT Try.func38 Z Z <| ?_
      simp_all []
    refine SQ <| RG <| EQ1 Z Z Z <| AS Z Z <| ND <| ?_
    refine gw_cond Z (fun h35 => ?_) (fun h35 => ?_)
    · refine SQ <| RG <| FA Z tyF_impl_Receiver_2 Z <| LD (i := 0) Z tyP_int Z Z Z <| rw_neq Z Z Z <| MV Z Z <| ?_
      refine rw_caseN (j := 69) Z (fun h36 => ?_) (fun h36 => ?_)
      · refine ON Z Z Z <| MV Z Z <| ON Z Z Z <| NT Z Z <| PT Z Z Z Z <| MV Z Z <| ?_
        refine rw_caseN (j := 73) Z (fun h37 => ?_) (fun h37 => ?_)
        · refine ON Z Z Z <| FA Z tyF_impl_Receiver_4 Z <| ON Z Z Z <| LD (i := 0) Z tyP_int Z Z Z <| ON Z Z Z <| EQ1 Z Z Z <| PT Z Z Z Z <| AS Z Z <| ND <| RT Try.func38 Z Z <| ?_
          simp_all []
        refine SKP Z <| PF Z Z Z Z <| AS Z Z <| ND <| RT Try.func38 Z Z <| ?_
        simp [isReceiver, maxQuic, h1, h2, h3, h4, h5, h33, h35, h37]
      refine SKP Z <| PF Z Z Z Z <| MV Z Z <| SKP Z <| PF Z Z Z Z <| AS Z Z <| ND <| RT Try.func38 Z Z <| ?_
      simp [isReceiver, maxQuic, h1, h2, h3, h4, h5, h33, h35]
    refine SQ <| RG <| EQ1 Z Z Z <| AS Z Z <| ND <| ?_
    refine gw_cond Z (fun h38 => ?_) (fun h38 => ?_)
    · refine SQ <| RG <| MV Z Z <| MV Z Z <| ?_
      refine rw_caseL (j := 81) Z (fun h39 => ?_) (fun h39 => ?_)
      · refine ON Z Z Z <| FA Z tyF_impl_Receiver_4 Z <| ON Z Z Z <| LD (i := 0) Z tyP_int Z Z Z <| ON Z Z Z <| EQ1 Z Z Z <| PT Z Z Z Z <| AS Z Z <| ND <| RT Try.func38 Z Z <| ?_
        simp_all []
      refine SKP Z <| PF Z Z Z Z <| AS Z Z <| ND <| RT Try.func38 Z Z <| ?_
      simp [isReceiver, maxQuic, h1, h2, h3, h4, h5, h33, h35, h38, h39]
    refine SQ <| RG <| EQ1 Z Z Z <| AS Z Z <| ND <| ?_
    refine gw_cond Z (fun h40 => ?_) (fun h40 => ?_)
    · refine SQ <| RG <| MV Z Z <| MV Z Z <| ?_
      refine rw_caseL (j := 89) Z (fun h41 => ?_) (fun h41 => ?_)
      · refine ON Z Z Z <| FA Z tyF_impl_Receiver_4 Z <| ON Z Z Z <| LD (i := 0) Z tyP_int Z Z Z <| ON Z Z Z <| EQ1 Z Z Z <| PT Z Z Z Z <| MV Z Z <| ?_
        refine rw_caseL (j := 94) Z (fun h42 => ?_) (fun h42 => ?_)
        · refine ON Z Z Z <| FA Z tyF_impl_Receiver_1 Z <| ON Z Z Z <| FA Z tyF_impl_Buffer_1 Z <| ON Z Z Z <| LD (i := 0) Z tyP_S_impl_Chunk Z Z Z <| ON Z Z Z <| rw_len Z tyE_S_impl_Chunk Z <| ON Z Z Z <| EQ1 Z Z Z <| PT Z Z Z Z <| AS Z Z <| ND <| RT Try.func38 Z Z <| ?_
          simp_all []
        refine SKP Z <| PF Z Z Z Z <| AS Z Z <| ND <| RT Try.func38 Z Z <| ?_
        simp [isReceiver, maxQuic, h1, h2, h3, h4, h5, h33, h35, h38, h40, h41, h42]
      refine SKP Z <| PF Z Z Z Z <| MV Z Z <| SKP Z <| PF Z Z Z Z <| AS Z Z <| ND <| RT Try.func38 Z Z <| ?_
      simp [isReceiver, maxQuic, h1, h2, h3, h4, h5, h33, h35, h38, h40, h41]
    refine SQ <| SQ <| RG <| EQ1 Z Z Z <| AS Z Z <| ND <| ?_
    refine gw_cond Z (fun h43 => ?_) (fun h43 => ?_)
    · refine SK <| CT Z h43 <| SQ <| RG <| FA Z tyF_impl_Receiver_2 Z <| LD (i := 0) Z tyP_int Z Z Z <| FA Z tyF_impl_Receiver_3 Z <| LD (i := 0) Z tyP_int Z Z Z <| EQ1 Z Z Z <| MV Z Z <| ?_
      refine rw_caseL (j := 109) Z (fun h44 => ?_) (fun h44 => ?_)
      · refine ON Z Z Z <| FA Z tyF_impl_Receiver_1 Z <| ON Z Z Z <| FA Z tyF_impl_Buffer_1 Z <| ON Z Z Z <| LD (i := 0) Z tyP_S_impl_Chunk Z Z Z <| ON Z Z Z <| rw_len Z tyE_S_impl_Chunk Z <| ON Z Z Z <| EQ1 Z Z Z <| PT Z Z Z Z <| AS Z Z <| ND <| RT Try.func38 Z Z <| ?_
        simp [isReceiver, maxQuic, h1, h2, h3, h4, h5, h33, h35, h38, h40, h43, h44]
      refine SKP Z <| PF Z Z Z Z <| AS Z Z <| ND <| RT Try.func38 Z Z <| ?_
      simp [isReceiver, maxQuic, h1, h2, h3, h4, h5, h33, h35, h38, h40, h43, h44]
    refine RG <| EQ1 Z Z Z <| AS Z Z <| ND <| ?_
    refine gw_cond Z (fun h45 => ?_) (fun h45 => ?_)
    · refine SQ <| RG <| FA Z tyF_impl_Receiver_2 Z <| LD (i := 0) Z tyP_int Z Z Z <| FA Z tyF_impl_Receiver_3 Z <| LD (i := 0) Z tyP_int Z Z Z <| EQ1 Z Z Z <| MV Z Z <| ?_
      refine rw_caseL (j := 109) Z (fun h46 => ?_) (fun h46 => ?_)
      · refine ON Z Z Z <| FA Z tyF_impl_Receiver_1 Z <| ON Z Z Z <| FA Z tyF_impl_Buffer_1 Z <| ON Z Z Z <| LD (i := 0) Z tyP_S_impl_Chunk Z Z Z <| ON Z Z Z <| rw_len Z tyE_S_impl_Chunk Z <| ON Z Z Z <| EQ1 Z Z Z <| PT Z Z Z Z <| AS Z Z <| ND <| RT Try.func38 Z Z <| ?_
        simp [isReceiver, maxQuic, h1, h2, h3, h4, h5, h33, h35, h38, h40, h43, h45, h46]
      refine SKP Z <| PF Z Z Z Z <| AS Z Z <| ND <| RT Try.func38 Z Z <| ?_
      simp [isReceiver, maxQuic, h1, h2, h3, h4, h5, h33, h35, h38, h40, h43, h45, h46]
    refine SK <| IB <| SQ <| RG <| AS Z Z <| ND <| RT Try.func38 Z Z <| ?_
    simp [isReceiver, maxQuic, h1, h2, h3, h4, h5, h33, h35, h38, h40, h43, h45]
  refine DSK Z <| dw_nil <| OF Z Z Z Z <| PF Z Z Z Z <| AS Z Z <| ND <| SQ <| SQ <| RG <| FA Z tyF_impl_Receiver_0 Z <| LD (i := 0) Z tyP_int Z Z Z <| ND <| BK <| SQ <| RG <| EQ1 Z Z Z <| AS Z Z <| ND <| ?_
  refine gw_cond Z (fun h47 => ?_) (fun h47 => ?_)
  · refine SQ <| RG <| FA Z tyF_impl_Receiver_2 Z <| LD (i := 0) Z tyP_int Z Z Z <| EQ1 Z Z Z <| MV Z Z <| ?_
    refine rw_caseL (j := 59) Z (fun h48 => ?_) (fun h48 => ?_)
    · refine ON Z Z Z <| FA Z tyF_impl_Receiver_4 Z <| ON Z Z Z <| LD (i := 0) Z tyP_int Z Z Z <| ON Z Z Z <| EQ1 Z Z Z <| PT Z Z Z Z <| AS Z Z <| ND <| RT Try.func38 Z Z <| ?_
      simp [isReceiver, maxQuic, h1, h2, h3, h4, h5, h47]
    refine SKP Z <| PF Z Z Z Z <| AS Z Z <| ND <| RT Try.func38 Z Z <| ?_
    simp_all []
  refine SQ <| RG <| EQ1 Z Z Z <| AS Z Z <| ND <| ?_
  refine gw_cond Z (fun h49 => ?_) (fun h49 => ?_)
  · refine SQ <| RG <| FA Z tyF_impl_Receiver_2 Z <| LD (i := 0) Z tyP_int Z Z Z <| rw_neq Z Z Z <| MV Z Z <| ?_
    refine rw_caseN (j := 69) Z (fun h50 => ?_) (fun h50 => ?_)
    · refine ON Z Z Z <| MV Z Z <| ON Z Z Z <| NT Z Z <| PT Z Z Z Z <| MV Z Z <| ON Z Z Z <| FA Z tyF_impl_Receiver_4 Z <| ON Z Z Z <| LD (i := 0) Z tyP_int Z Z Z <| ON Z Z Z <| EQ1 Z Z Z <| PT Z Z Z Z <| AS Z Z <| ND <| RT Try.func38 Z Z <| ?_
      simp_all []
    refine SKP Z <| PF Z Z Z Z <| MV Z Z <| SKP Z <| PF Z Z Z Z <| AS Z Z <| ND <| RT Try.func38 Z Z <| ?_
    simp [isReceiver, maxQuic, h1, h2, h3, h4, h5, h47, h49]
  refine SQ <| RG <| EQ1 Z Z Z <| AS Z Z <| ND <| ?_
  refine gw_cond Z (fun h51 => ?_) (fun h51 => ?_)
  · refine SQ <| RG <| MV Z Z <| MV Z Z <| SKP Z <| PF Z Z Z Z <| AS Z Z <| ND <| RT Try.func38 Z Z <| ?_
    simp [isReceiver, maxQuic, h1, h2, h3, h4, h5, h47, h49, h51]
  refine SQ <| RG <| EQ1 Z Z Z <| AS Z Z <| ND <| ?_
  refine gw_cond Z (fun h52 => ?_) (fun h52 => ?_)
  · refine SQ <| RG <| MV Z Z <| MV Z Z <| SKP Z <| PF Z Z Z Z <| MV Z Z <| SKP Z <| PF Z Z Z Z <| AS Z Z <| ND <| RT Try.func38 Z Z <| ?_
    simp [isReceiver, maxQuic, h1, h2, h3, h4, h5, h47, h49, h51, h52]
  refine SQ <| SQ <| RG <| EQ1 Z Z Z <| AS Z Z <| ND <| ?_
  refine gw_cond Z (fun h53 => ?_) (fun h53 => ?_)
  · refine SK <| CT Z h53 <| SQ <| RG <| FA Z tyF_impl_Receiver_2 Z <| LD (i := 0) Z tyP_int Z Z Z <| FA Z tyF_impl_Receiver_3 Z <| LD (i := 0) Z tyP_int Z Z Z <| EQ1 Z Z Z <| MV Z Z <| ?_
    refine rw_caseL (j := 109) Z (fun h54 => ?_) (fun h54 => ?_)
    · refine ON Z Z Z <| FA Z tyF_impl_Receiver_1 Z <| ON Z Z Z <| FA Z tyF_impl_Buffer_1 Z <| ON Z Z Z <| LD (i := 0) Z tyP_S_impl_Chunk Z Z Z <| ON Z Z Z <| rw_len Z tyE_S_impl_Chunk Z <| ON Z Z Z <| EQ1 Z Z Z <| PT Z Z Z Z <| AS Z Z <| ND <| RT Try.func38 Z Z <| ?_
      simp [isReceiver, maxQuic, h1, h2, h3, h4, h5, h47, h49, h51, h52, h53, h54]
    refine SKP Z <| PF Z Z Z Z <| AS Z Z <| ND <| RT Try.func38 Z Z <| ?_
    simp [isReceiver, maxQuic, h1, h2, h3, h4, h5, h47, h49, h51, h52, h53, h54]
  refine RG <| EQ1 Z Z Z <| AS Z Z <| ND <| ?_
  refine gw_cond Z (fun h55 => ?_) (fun h55 => ?_)
  · refine SQ <| RG <| FA Z tyF_impl_Receiver_2 Z <| LD (i := 0) Z tyP_int Z Z Z <| FA Z tyF_impl_Receiver_3 Z <| LD (i := 0) Z tyP_int Z Z Z <| EQ1 Z Z Z <| MV Z Z <| ?_
    refine rw_caseL (j := 109) Z (fun h56 => ?_) (fun h56 => ?_)
    · refine ON Z Z Z <| FA Z tyF_impl_Receiver_1 Z <| ON Z Z Z <| FA Z tyF_impl_Buffer_1 Z <| ON Z Z Z <| LD (i := 0) Z tyP_S_impl_Chunk Z Z Z <| ON Z Z Z <| rw_len Z tyE_S_impl_Chunk Z <| ON Z Z Z <| EQ1 Z Z Z <| PT Z Z Z Z <| AS Z Z <| ND <| RT Try.func38 Z Z <| ?_
      simp [isReceiver, maxQuic, h1, h2, h3, h4, h5, h47, h49, h51, h52, h53, h55, h56]
    refine SKP Z <| PF Z Z Z Z <| AS Z Z <| ND <| RT Try.func38 Z Z <| ?_
    simp [isReceiver, maxQuic, h1, h2, h3, h4, h5, h47, h49, h51, h52, h53, h55, h56]
  refine SK <| IB <| SQ <| RG <| AS Z Z <| ND <| RT Try.func38 Z Z <| ?_
  simp [isReceiver, maxQuic, h1, h2, h3, h4, h5, h47, h49, h51, h52, h53, h55]

set_option maxHeartbeats 4000000 in
set_option maxRecDepth 20000 in
theorem impl_ReceiveData {w : World} {cs : List Value} {x : Receiver} (hv : RdReceiver w cs x) {o : Int} {D : List UInt8} {f : Bool} (hR : RecOk x o D f) (hb : x.le 1048576) : CN Try.prog 15 [.agg cs.toArray, .int .i64 o, .string (mkS D), .bool f] w (fun v ch => ∃ cs', v = .tuple #[.agg cs'.toArray, .int .i64 0] ∧ OwReceiver cs' (recvM x o (w64 (o + (D.length : Int))) D f) ch) := by
  obtain ⟨v0, rfl, k0⟩ := hv
  obtain ⟨A0, c0, rfl, hA0⟩ := k0
  obtain ⟨hb0, hb1⟩ := hb
  refine cn_of Try.func15 Z Z Z <| SQ <| RG <| BX [_, _, _, _, _, _] Z Z Z <| fun b1 => AL Z tyZ_impl_Receiver <| fun b2 => AS Z Z <| ND <| SQ <| RG <| LS (i := 1) [_, _, _, _, _, _] Z tyS_impl_Receiver Z Z Z Z <| CN1 Z fun_impl_copyReceiver Z (fun w hs => impl_copyReceiver ⟨_, Z, (hA0.s Pl.keeps hs)⟩ ⟨hb0, hb1⟩) <| fun vv1 ch1 how1 => ?_
  obtain ⟨cs1, rfl, v1_0, c1_0, rfl, h1_0, rfl⟩ := how1
  obtain ⟨R1_0, b1_0, rfl, hR1_0, hrd1_0⟩ := h1_0.shape eChunk
  refine AL Z tyZ_impl_Receiver <| fun b3 => ST (i := 0) [_, _, _, _, _, _] [_, _, _, _, _, _] tyS_impl_Receiver.sz Z Z Z Z Z Z Z Z <| ND <| SQ <| SQ <| RG <| LS (i := 2) [_, _, _, _, _, _] Z tyS_impl_Receiver Z Z Z Z <| CV1 Z fun_impl_IsReceiver Z (fun w hs => impl_IsReceiver ⟨_, Z, (hA0.s Pl.keeps hs)⟩ ⟨hb0, hb1⟩) <| NT Z Z <| MV Z Z <| rw_lit (j := 17) Z (not_T hR.rcv) <| ON Z Z Z <| MV Z Z <| ON Z Z Z <| rw_lss Z Z Z <| PF Z Z Z Z <| MV Z Z <| ?_
  refine rw_lit (j := 21) Z hR.ins.g22 <| ON Z Z Z <| MV Z Z <| ON Z Z Z <| MV Z Z <| ON Z Z Z <| rw_lenL Z tyStr_string Z <| ON Z Z Z <| rw_sub Z Z Z <| ON Z Z Z <| rw_gtr Z Z Z <| PF Z Z Z Z <| ND <| CF Z hR.ins.g29 <| SK <| SQ <| RG <| MV Z Z <| MV Z Z <| rw_lenL Z tyStr_string Z <| rw_add Z Z Z <| AS Z Z <| ND <| SQ <| SQ <| RG <| LS (i := 2) [_, _, _, _, _, _] Z tyS_impl_Receiver Z Z Z Z <| ?_
  refine MV Z Z <| MV Z Z <| CV1 Z fun_impl_contradicts Z (fun w hs => impl_contradicts ⟨_, Z, (hA0.s Pl.keeps hs)⟩ _ _) <| ND <| CF Z hR.con <| SK <| SQ <| SQ <| RG <| LS (i := 2) [_, _, _, _, _, _] Z tyS_impl_Receiver Z Z Z Z <| CV1 Z fun_impl_takes Z (fun w hs => impl_takes ⟨_, Z, (hA0.s Pl.keeps hs)⟩ ⟨hb0, hb1⟩) <| NT Z Z <| ND <| CF Z (not_T hR.tk) <| SK <| SQ <| RG <| FA Z tyF_impl_Receiver_3 Z <| LD (i := 2) Z tyP_int Z Z Z <| MV Z Z <| rw_max Z Z Z <| ?_
  refine FA Z tyF_impl_Receiver_3 Z <| ST (i := 0) [_] [_, _, _, _, _, _] tyP_int.sz Z Z Z Z Z Z Z Z <| ND <| SQ <| SQ <| RG <| MV Z Z <| ND <| ?_
  refine gw_cond Z (fun h1 => ?_) (fun h1 => ?_)
  · refine RG <| MV Z Z <| FA Z tyF_impl_Receiver_2 Z <| ST (i := 0) [_] [_, _, _, _, _, _] tyP_int.sz Z Z Z Z Z Z Z Z <| FA Z tyF_impl_Receiver_0 Z <| ST (i := 0) [_] [_, _, _, _, _, _] tyP_int.sz Z Z Z Z Z Z Z Z <| ND <| SQ <| RG <| FA Z tyF_impl_Receiver_1 Z <| LS (i := 2) [_, _] Z tyS_impl_Buffer Z Z Z Z <| MV Z Z <| MV Z Z <| CN1 Z fun_impl_InsertData Z (fun w hs => impl_InsertData (x := x.buffer) ⟨_, Z, (hA0.s Pl.keeps hs)⟩ hR.ins) <| fun v2 ch2 how2 => ?_
    rw [← hR.ins.e] at how2
    obtain ⟨cs2, rfl, how2⟩ := how2
    obtain ⟨v2_0, ch2, rfl, h2_0, rfl⟩ := how2
    obtain ⟨R2_0, b2_0, rfl, hR2_0, hrd2_0⟩ := h2_0.shape eChunk
    refine rw_F (F' := ch2 ++ (ch1 ++ ([]))) (by simp only [aN]) <| ?_
    have hbi_ := hR.le
    obtain ⟨hbi0_, hbi1_⟩ := hbi_
    refine FA Z tyF_impl_Receiver_1 Z <| ST (i := 0) [_, _] [_, _, _, _, _, _] tyS_impl_Buffer.sz Z Z Z Z Z Z Z Z <| ND <| SQ <| SQ <| gw_draw' [dd 0, dd 1, dd 2, dd 3, dd 4, dd 5, dd 6, dd 7, dd 8] [9, 10] mixed Z (FD Z) (ts := [_, _]) Z <| DT Z Z (fun K hk => FA Z tyF_impl_Receiver_2 Z hk) <| DT Z Z (fun K hk => LD (i := 0) Z tyP_int Z Z Z hk) <| DT Z Z (fun K hk => rw_neq Z Z Z hk) <| DM Z Z Z <| ?_
    refine dw_caseN (j := 60) Z (fun h2 => ?_) (fun h2 => ?_)
    · refine DT Z Z (fun K hk => ON Z Z Z (FA Z tyF_impl_Receiver_1 Z hk)) <| DT Z Z (fun K hk => ON Z Z Z (LS (i := 0) [_, _] Z tyS_impl_Buffer Z Z Z Z hk)) <| DT Z Z (fun K hk => ON Z Z Z (CV1 Z fun_impl_readyEnd Z (fun w hs => impl_readyEnd ⟨_, Z, ⟨_, _, Z, hrd2_0 _ (fun c hc => hs.at_ c (MR (ML hc)))⟩⟩ ⟨hbi0_, hbi1_⟩) hk)) <| DT Z Z (fun K hk => ON Z Z Z (FA Z tyF_impl_Receiver_2 Z hk)) <| ?_
      refine DT Z Z (fun K hk => ON Z Z Z (LD (i := 0) Z tyP_int Z Z Z hk)) <| dw_nil <| ON Z Z Z <| EQ1 Z Z Z <| PT Z Z Z Z <| ND <| ?_
      refine gw_cond Z (fun h3 => ?_) (fun h3 => ?_)
      · refine RG <| FA Z tyF_impl_Receiver_0 Z <| ST (i := 0) [_] [_, _, _, _, _, _] tyP_int.sz Z Z Z Z Z Z Z Z <| ND <| SQ <| RG <| LS (i := 0) [_, _, _, _, _, _] Z tyS_impl_Receiver Z Z Z Z <| ST (i := 1) [_, _, _, _, _, _] [_, _, _, _, _, _] tyS_impl_Receiver.sz Z Z Z Z Z Z Z Z <| AS Z Z <| ND <| ?_
        refine gw_FP (pg PR PR) (gw_F (F' := (ch2) ++ (ch1 ++ ([]))) (by simp only [aN]) ?_)
        refine ret_cn (ch2) Try.func15 (res2 Try.func15 Z (rv_s (i := 1) [_, _, _, _, _, _] tyS_impl_Receiver Z Z Z Z) (rv_tmp Z)) ?_ ?_
        · refine ⟨_, Z, ?_⟩
          rw [recvM_st (o := o) (e := (w64 (o + (D.length : Int)))) (D := D) (ff := true) (a := false) (b := true) h1 h2 h3]
          exact owReceiver_mk h2_0
        · exact (List.sublist_append_left _ _).trans (List.sublist_append_right _ _)
      refine SK <| SQ <| RG <| LS (i := 0) [_, _, _, _, _, _] Z tyS_impl_Receiver Z Z Z Z <| ST (i := 1) [_, _, _, _, _, _] [_, _, _, _, _, _] tyS_impl_Receiver.sz Z Z Z Z Z Z Z Z <| AS Z Z <| ND <| ?_
      refine gw_FP (pg PR PR) (gw_F (F' := (ch2) ++ (ch1 ++ ([]))) (by simp only [aN]) ?_)
      refine ret_cn (ch2) Try.func15 (res2 Try.func15 Z (rv_s (i := 1) [_, _, _, _, _, _] tyS_impl_Receiver Z Z Z Z) (rv_tmp Z)) ?_ ?_
      · refine ⟨_, Z, ?_⟩
        rw [recvM_st (o := o) (e := (w64 (o + (D.length : Int)))) (D := D) (ff := true) (a := false) (b := false) h1 h2 h3]
        exact owReceiver_mk h2_0
      · exact (List.sublist_append_left _ _).trans (List.sublist_append_right _ _)
    refine DSK Z <| dw_nil <| OF Z Z Z Z <| PF Z Z Z Z <| ND <| CF Z Z <| SK <| SQ <| RG <| LS (i := 0) [_, _, _, _, _, _] Z tyS_impl_Receiver Z Z Z Z <| ST (i := 1) [_, _, _, _, _, _] [_, _, _, _, _, _] tyS_impl_Receiver.sz Z Z Z Z Z Z Z Z <| AS Z Z <| ND <| ?_
    refine gw_FP (pg PR PR) (gw_F (F' := (ch2) ++ (ch1 ++ ([]))) (by simp only [aN]) ?_)
    refine ret_cn (ch2) Try.func15 (res2 Try.func15 Z (rv_s (i := 1) [_, _, _, _, _, _] tyS_impl_Receiver Z Z Z Z) (rv_tmp Z)) ?_ ?_
    · refine ⟨_, Z, ?_⟩
      rw [recvM_st (o := o) (e := (w64 (o + (D.length : Int)))) (D := D) (ff := true) (a := true) h1 h2 rfl]
      exact owReceiver_mk h2_0
    · exact (List.sublist_append_left _ _).trans (List.sublist_append_right _ _)
  refine SK <| SQ <| RG <| FA Z tyF_impl_Receiver_1 Z <| LS (i := 2) [_, _] Z tyS_impl_Buffer Z Z Z Z <| MV Z Z <| MV Z Z <| CN1 Z fun_impl_InsertData Z (fun w hs => impl_InsertData (x := x.buffer) ⟨_, Z, (hA0.s Pl.keeps hs)⟩ hR.ins) <| fun v3 ch3 how3 => ?_
  rw [← hR.ins.e] at how3
  obtain ⟨cs3, rfl, how3⟩ := how3
  obtain ⟨v3_0, ch3, rfl, h3_0, rfl⟩ := how3
  obtain ⟨R3_0, b3_0, rfl, hR3_0, hrd3_0⟩ := h3_0.shape eChunk
  refine rw_F (F' := ch3 ++ (ch1 ++ ([]))) (by simp only [aN]) <| ?_
  have hbi_ := hR.le
  obtain ⟨hbi0_, hbi1_⟩ := hbi_
  refine FA Z tyF_impl_Receiver_1 Z <| ST (i := 0) [_, _] [_, _, _, _, _, _] tyS_impl_Buffer.sz Z Z Z Z Z Z Z Z <| ND <| SQ <| SQ <| gw_draw' [dd 0, dd 1, dd 2, dd 3, dd 4, dd 5, dd 6, dd 7, dd 8] [9, 10] mixed Z (FD Z) (ts := [_, _]) Z <| DT Z Z (fun K hk => FA Z tyF_impl_Receiver_2 Z hk) <| DT Z Z (fun K hk => LD (i := 0) Z tyP_int Z Z Z hk) <| DT Z Z (fun K hk => rw_neq Z Z Z hk) <| DM Z Z Z <| ?_
  refine dw_caseN (j := 60) Z (fun h4 => ?_) (fun h4 => ?_)
  · refine DT Z Z (fun K hk => ON Z Z Z (FA Z tyF_impl_Receiver_1 Z hk)) <| DT Z Z (fun K hk => ON Z Z Z (LS (i := 0) [_, _] Z tyS_impl_Buffer Z Z Z Z hk)) <| DT Z Z (fun K hk => ON Z Z Z (CV1 Z fun_impl_readyEnd Z (fun w hs => impl_readyEnd ⟨_, Z, ⟨_, _, Z, hrd3_0 _ (fun c hc => hs.at_ c (MR (ML hc)))⟩⟩ ⟨hbi0_, hbi1_⟩) hk)) <| DT Z Z (fun K hk => ON Z Z Z (FA Z tyF_impl_Receiver_2 Z hk)) <| ?_
    refine DT Z Z (fun K hk => ON Z Z Z (LD (i := 0) Z tyP_int Z Z Z hk)) <| dw_nil <| ON Z Z Z <| EQ1 Z Z Z <| PT Z Z Z Z <| ND <| ?_
    refine gw_cond Z (fun h5 => ?_) (fun h5 => ?_)
    · refine RG <| FA Z tyF_impl_Receiver_0 Z <| ST (i := 0) [_] [_, _, _, _, _, _] tyP_int.sz Z Z Z Z Z Z Z Z <| ND <| SQ <| RG <| LS (i := 0) [_, _, _, _, _, _] Z tyS_impl_Receiver Z Z Z Z <| ST (i := 1) [_, _, _, _, _, _] [_, _, _, _, _, _] tyS_impl_Receiver.sz Z Z Z Z Z Z Z Z <| AS Z Z <| ND <| ?_
      refine gw_FP (pg PR PR) (gw_F (F' := (ch3) ++ (ch1 ++ ([]))) (by simp only [aN]) ?_)
      refine ret_cn (ch3) Try.func15 (res2 Try.func15 Z (rv_s (i := 1) [_, _, _, _, _, _] tyS_impl_Receiver Z Z Z Z) (rv_tmp Z)) ?_ ?_
      · refine ⟨_, Z, ?_⟩
        rw [recvM_st (o := o) (e := (w64 (o + (D.length : Int)))) (D := D) (ff := false) (a := false) (b := true) h1 h4 h5]
        exact owReceiver_mk h3_0
      · exact (List.sublist_append_left _ _).trans (List.sublist_append_right _ _)
    refine SK <| SQ <| RG <| LS (i := 0) [_, _, _, _, _, _] Z tyS_impl_Receiver Z Z Z Z <| ST (i := 1) [_, _, _, _, _, _] [_, _, _, _, _, _] tyS_impl_Receiver.sz Z Z Z Z Z Z Z Z <| AS Z Z <| ND <| ?_
    refine gw_FP (pg PR PR) (gw_F (F' := (ch3) ++ (ch1 ++ ([]))) (by simp only [aN]) ?_)
    refine ret_cn (ch3) Try.func15 (res2 Try.func15 Z (rv_s (i := 1) [_, _, _, _, _, _] tyS_impl_Receiver Z Z Z Z) (rv_tmp Z)) ?_ ?_
    · refine ⟨_, Z, ?_⟩
      rw [recvM_st (o := o) (e := (w64 (o + (D.length : Int)))) (D := D) (ff := false) (a := false) (b := false) h1 h4 h5]
      exact owReceiver_mk h3_0
    · exact (List.sublist_append_left _ _).trans (List.sublist_append_right _ _)
  refine DSK Z <| dw_nil <| OF Z Z Z Z <| PF Z Z Z Z <| ND <| CF Z Z <| SK <| SQ <| RG <| LS (i := 0) [_, _, _, _, _, _] Z tyS_impl_Receiver Z Z Z Z <| ST (i := 1) [_, _, _, _, _, _] [_, _, _, _, _, _] tyS_impl_Receiver.sz Z Z Z Z Z Z Z Z <| AS Z Z <| ND <| ?_
  refine gw_FP (pg PR PR) (gw_F (F' := (ch3) ++ (ch1 ++ ([]))) (by simp only [aN]) ?_)
  refine ret_cn (ch3) Try.func15 (res2 Try.func15 Z (rv_s (i := 1) [_, _, _, _, _, _] tyS_impl_Receiver Z Z Z Z) (rv_tmp Z)) ?_ ?_
  · refine ⟨_, Z, ?_⟩
    rw [recvM_st (o := o) (e := (w64 (o + (D.length : Int)))) (D := D) (ff := false) (a := true) h1 h4 rfl]
    exact owReceiver_mk h3_0
  · exact (List.sublist_append_left _ _).trans (List.sublist_append_right _ _)
end Go.Proofs.Ytbhnekiclbfmgaa
namespace Go.Proofs.Ytbhnekiclbfmgaa
open SL Go.RowKit
set_option maxHeartbeats 4000000 in
set_option maxRecDepth 20000 in
theorem impl_TakeBytes {w : World} {cs : List Value} {x : Buffer} (hv : RdBuffer w cs x) {D : List UInt8} (hT : TakeOk x D) : CN Try.prog 43 [.agg cs.toArray, .int .i64 100] w (fun v ch => ∃ n A m c, v = .tuple #[.string (mkS D), .agg #[.int .i64 n, .slice A m c]]) := by
  have hb := hT.le
  obtain ⟨v0, rfl, k0⟩ := hv
  obtain ⟨A0, c0, rfl, hA0⟩ := k0
  obtain ⟨hb0, hb1⟩ := hb
  refine cn_of Try.func43 Z Z Z <| SQ <| RG <| BX [_, _] Z Z Z <| fun b1 => AS Z Z <| AL Z tyZ_impl_Buffer <| fun b2 => ND <| SQ <| gw_drawT' (.det 0 (.detB 2 (.det 3 (.both (.add 1 (.det 4 (.detB 5 (.add 6 (.st 7 .nil))))) (.add 6 (.add 1 (.det 4 (.detB 5 (.st 7 .nil))))))))) [8] mixed (by kernel_rfl) (ts := [_]) Z <| dz_det Z Z (fun K hk => LS (i := 1) [_, _] Z tyS_impl_Buffer Z Z Z Z hk) <| dz_detB Z Z (fun K hk => MV Z Z hk) <| dz_det Z Z (fun K hk => LS (i := 1) [_, _] Z tyS_impl_Buffer Z Z Z Z hk) <| ?_
  refine ⟨?_, ?_⟩
  · refine dz_add Z Z (fun K hk => CN1 Z fun_impl_copyBuffer Z (fun w hs => impl_copyBuffer ⟨_, Z, (hA0.s Pl.keeps hs)⟩ ⟨hb0, hb1⟩) hk) <| fun vv1 ch1 how1 => ?_
    obtain ⟨cs1, rfl, v1_0, c1_0, rfl, h1_0, rfl⟩ := how1
    obtain ⟨R1_0, b1_0, rfl, hR1_0, hrd1_0⟩ := h1_0.shape eChunk
    refine dz_det Z Z (fun K hk => CV1 Z fun_impl_ReadyBytes Z (fun w hs => impl_ReadyBytes ⟨_, Z, (hA0.s Pl.keeps hs)⟩ ⟨hb0, hb1⟩) hk) <| dz_detB Z Z (fun K hk => rw_minE Z Z Z hT.m hk) <| dz_new Z Z tyZ_impl_Buffer <| fun b3 => dz_sto Z Z (fun K hk => rw_storeF [_, _] [_, _] tyS_impl_Buffer.sz Z Z Z Z Z Z Z hk) <| dz_nil <| rw_take <| AS Z Z <| ND <| SQ <| SQ <| RG <| MV Z Z <| rw_leq Z Z Z <| ND <| ?_
    refine gw_cond Z (fun h1 => ?_) (fun h1 => ?_)
    · refine SQ <| gw_draw' [dd 0, dd 1] [2] mixed Z (FD Z) (ts := [_]) Z <| DT Z Z (fun K hk => LS (i := 0) [_, _] Z tyS_impl_Buffer Z Z Z Z hk) <| DT Z Z (fun K hk => AS Z Z hk) <| dw_nil <| ST (i := 1) [_, _] [_, _] tyS_impl_Buffer.sz Z Z Z Z Z Z Z Z <| ND <| ?_
      refine ret_cn [] Try.func43 (res2 Try.func43 Z (rv_tmp Z) (rv_s (i := 1) [_, _] tyS_impl_Buffer Z Z Z Z)) ?_ ?_
      · have e_ : D = [] := List.length_eq_zero_iff.1 (by have := of_decide_eq_true h1; omega)
        subst e_
        exact ⟨_, _, _, _, rfl⟩
      · exact List.nil_sublist _
    have hc0_ := hT.c (by have := of_decide_eq_false h1; omega)
    have hic := (List.getElem?_eq_some_iff.1 hc0_).1
    refine SK <| SQ <| RG <| FA Z tyF_impl_Buffer_1 Z <| LD (i := 0) Z tyP_S_impl_Chunk Z Z Z <| rw_indexAddr (0) Z tyE_S_impl_Chunk Z Z Z (hR1_0 (Nat.zero_lt_of_lt hic)) hic <| FX Z tyF_impl_Chunk_1 Z <| rw_loadX _ Z tyP_string Z (fun w hs => ((hrd1_0 _ (fun c hc => hs.at_ c (MR (ML hc)))).plain hc0_).cell Z) <| MV Z Z <| rw_sliceH (l := D) D.length (D.take D.length) Z tyStr_string Z Z Z (by omega) Z <| AS Z Z <| ND <| SQ <| RG <| FA Z tyF_impl_Buffer_0 Z <| ?_
    refine LD (i := 0) Z tyP_int Z Z Z <| MV Z Z <| rw_add Z Z Z <| FA Z tyF_impl_Buffer_0 Z <| ST (i := 0) [_] [_, _] tyP_int.sz Z Z Z Z Z Z Z Z <| ND <| SQ <| SQ <| RG <| MV Z Z <| FA Z tyF_impl_Buffer_1 Z <| LD (i := 0) Z tyP_S_impl_Chunk Z Z Z <| rw_indexAddr (0) Z tyE_S_impl_Chunk Z Z Z (hR1_0 (Nat.zero_lt_of_lt hic)) hic <| FX Z tyF_impl_Chunk_1 Z <| rw_loadX _ Z tyP_string Z (fun w hs => ((hrd1_0 _ (fun c hc => hs.at_ c (MR (ML hc)))).plain hc0_).cell Z) <| ?_
    refine rw_lenL Z tyStr_string Z <| EQ1 Z Z Z <| ND <| CT Z (beq_self_eq_true _) <| RG <| FA Z tyF_impl_Buffer_1 Z <| LD (i := 0) Z tyP_S_impl_Chunk Z Z Z <| rw_sliceTl Z tyM_S_impl_Chunk eChunk h1_0 hic Z Z Z <| fun At2 ct2 hAt2 hrt2 => FA Z tyF_impl_Buffer_1 Z <| ST (i := 0) [_] [_, _] tyP_S_impl_Chunk.sz Z Z Z Z Z Z Z Z <| ND <| SQ <| gw_draw' [dd 0, dd 1, dd 2] [3] mixed Z (FD Z) (ts := [_]) Z <| DM Z Z Z <| DT Z Z (fun K hk => LS (i := 0) [_, _] Z tyS_impl_Buffer Z Z Z Z hk) <| ?_
    refine DT Z Z (fun K hk => AS Z Z hk) <| dw_nil <| ST (i := 1) [_, _] [_, _] tyS_impl_Buffer.sz Z Z Z Z Z Z Z Z <| ND <| ?_
    refine ret_cn [] Try.func43 (res2 Try.func43 Z (rv_tmp Z) (rv_s (i := 1) [_, _] tyS_impl_Buffer Z Z Z Z)) ?_ ?_
    · rw [show D.take D.length = D from List.take_length]
      exact ⟨_, _, _, _, rfl⟩
    · exact List.nil_sublist _
  refine dz_new Z Z tyZ_impl_Buffer <| fun b4 => dz_add Z Z (fun K hk => CN1 Z fun_impl_copyBuffer Z (fun w hs => impl_copyBuffer ⟨_, Z, (hA0.s Pl.keeps hs)⟩ ⟨hb0, hb1⟩) hk) <| fun vv3 ch3 how3 => ?_
  obtain ⟨cs3, rfl, v3_0, c3_0, rfl, h3_0, rfl⟩ := how3
  obtain ⟨R3_0, b3_0, rfl, hR3_0, hrd3_0⟩ := h3_0.shape eChunk
  refine dz_det Z Z (fun K hk => CV1 Z fun_impl_ReadyBytes Z (fun w hs => impl_ReadyBytes ⟨_, Z, (hA0.s Pl.keeps hs)⟩ ⟨hb0, hb1⟩) hk) <| dz_detB Z Z (fun K hk => rw_minE Z Z Z hT.m hk) <| dz_P (pg (pp PR) PR) <| dz_sto Z Z (fun K hk => rw_storeF [_, _] [_, _] tyS_impl_Buffer.sz Z Z Z Z Z Z Z hk) <| dz_nil <| rw_take <| AS Z Z <| ND <| SQ <| SQ <| RG <| MV Z Z <| rw_leq Z Z Z <| ND <| ?_
  refine gw_cond Z (fun h2 => ?_) (fun h2 => ?_)
  · refine SQ <| gw_draw' [dd 0, dd 1] [2] mixed Z (FD Z) (ts := [_]) Z <| DT Z Z (fun K hk => LS (i := 0) [_, _] Z tyS_impl_Buffer Z Z Z Z hk) <| DT Z Z (fun K hk => AS Z Z hk) <| dw_nil <| ST (i := 1) [_, _] [_, _] tyS_impl_Buffer.sz Z Z Z Z Z Z Z Z <| ND <| ?_
    refine ret_cn [] Try.func43 (res2 Try.func43 Z (rv_tmp Z) (rv_s (i := 1) [_, _] tyS_impl_Buffer Z Z Z Z)) ?_ ?_
    · have e_ : D = [] := List.length_eq_zero_iff.1 (by have := of_decide_eq_true h2; omega)
      subst e_
      exact ⟨_, _, _, _, rfl⟩
    · exact List.nil_sublist _
  have hc0_ := hT.c (by have := of_decide_eq_false h2; omega)
  have hic := (List.getElem?_eq_some_iff.1 hc0_).1
  refine SK <| SQ <| RG <| FA Z tyF_impl_Buffer_1 Z <| LD (i := 0) Z tyP_S_impl_Chunk Z Z Z <| rw_indexAddr (0) Z tyE_S_impl_Chunk Z Z Z (hR3_0 (Nat.zero_lt_of_lt hic)) hic <| FX Z tyF_impl_Chunk_1 Z <| rw_loadX _ Z tyP_string Z (fun w hs => ((hrd3_0 _ (fun c hc => hs.at_ c (MR (ML hc)))).plain hc0_).cell Z) <| MV Z Z <| rw_sliceH (l := D) D.length (D.take D.length) Z tyStr_string Z Z Z (by omega) Z <| AS Z Z <| ND <| SQ <| RG <| FA Z tyF_impl_Buffer_0 Z <| ?_
  refine LD (i := 0) Z tyP_int Z Z Z <| MV Z Z <| rw_add Z Z Z <| FA Z tyF_impl_Buffer_0 Z <| ST (i := 0) [_] [_, _] tyP_int.sz Z Z Z Z Z Z Z Z <| ND <| SQ <| SQ <| RG <| MV Z Z <| FA Z tyF_impl_Buffer_1 Z <| LD (i := 0) Z tyP_S_impl_Chunk Z Z Z <| rw_indexAddr (0) Z tyE_S_impl_Chunk Z Z Z (hR3_0 (Nat.zero_lt_of_lt hic)) hic <| FX Z tyF_impl_Chunk_1 Z <| rw_loadX _ Z tyP_string Z (fun w hs => ((hrd3_0 _ (fun c hc => hs.at_ c (MR (ML hc)))).plain hc0_).cell Z) <| ?_
  refine rw_lenL Z tyStr_string Z <| EQ1 Z Z Z <| ND <| CT Z (beq_self_eq_true _) <| RG <| FA Z tyF_impl_Buffer_1 Z <| LD (i := 0) Z tyP_S_impl_Chunk Z Z Z <| rw_sliceTl Z tyM_S_impl_Chunk eChunk h3_0 hic Z Z Z <| fun At4 ct4 hAt4 hrt4 => FA Z tyF_impl_Buffer_1 Z <| ST (i := 0) [_] [_, _] tyP_S_impl_Chunk.sz Z Z Z Z Z Z Z Z <| ND <| SQ <| gw_draw' [dd 0, dd 1, dd 2] [3] mixed Z (FD Z) (ts := [_]) Z <| DM Z Z Z <| DT Z Z (fun K hk => LS (i := 0) [_, _] Z tyS_impl_Buffer Z Z Z Z hk) <| ?_
  refine DT Z Z (fun K hk => AS Z Z hk) <| dw_nil <| ST (i := 1) [_, _] [_, _] tyS_impl_Buffer.sz Z Z Z Z Z Z Z Z <| ND <| ?_
  refine ret_cn [] Try.func43 (res2 Try.func43 Z (rv_tmp Z) (rv_s (i := 1) [_, _] tyS_impl_Buffer Z Z Z Z)) ?_ ?_
  · rw [show D.take D.length = D from List.take_length]
    exact ⟨_, _, _, _, rfl⟩
  · exact List.nil_sublist _

set_option maxHeartbeats 4000000 in
set_option maxRecDepth 20000 in
theorem impl_ReadReceiver {w : World} {cs : List Value} {x : Receiver} (hv : RdReceiver w cs x) {D : List UInt8} (hr_ : isReceiver x = true) (h2_ : x.state = 2) (hT : TakeOk x.buffer D) : CN Try.prog 17 [.agg cs.toArray, .int .i64 100] w (fun v ch => ∃ a0 a1 A m c a3 a4 a5, v = .tuple #[.string (mkS D), .agg #[.int .i64 a0, .int .i64 a1, .slice A m c, .int .i64 a3, .int .i64 a4, .int .i64 a5]]) := by
  have hb : x.le 1048576 := hT.le
  obtain ⟨v0, rfl, k0⟩ := hv
  obtain ⟨A0, c0, rfl, hA0⟩ := k0
  obtain ⟨hb0, hb1⟩ := hb
  refine cn_of Try.func17 Z Z Z <| SQ <| RG <| BX [_, _, _, _, _, _] Z Z Z <| fun b1 => AS Z Z <| AL Z tyZ_impl_Receiver <| fun b2 => ND <| SQ <| RG <| LS (i := 1) [_, _, _, _, _, _] Z tyS_impl_Receiver Z Z Z Z <| CN1 Z fun_impl_copyReceiver Z (fun w hs => impl_copyReceiver ⟨_, Z, (hA0.s Pl.keeps hs)⟩ ⟨hb0, hb1⟩) <| fun vv1 ch1 how1 => ?_
  obtain ⟨cs1, rfl, v1_0, c1_0, rfl, h1_0, rfl⟩ := how1
  obtain ⟨R1_0, b1_0, rfl, hR1_0, hrd1_0⟩ := h1_0.shape eChunk
  refine AL Z tyZ_impl_Receiver <| fun b3 => ST (i := 0) [_, _, _, _, _, _] [_, _, _, _, _, _] tyS_impl_Receiver.sz Z Z Z Z Z Z Z Z <| ND <| SQ <| SQ <| RG <| LS (i := 2) [_, _, _, _, _, _] Z tyS_impl_Receiver Z Z Z Z <| CV1 Z fun_impl_IsReceiver Z (fun w hs => impl_IsReceiver ⟨_, Z, (hA0.s Pl.keeps hs)⟩ ⟨hb0, hb1⟩) <| NT Z Z <| ND <| CF Z (not_T hr_) <| SK <| SQ <| SQ <| RG <| FA Z tyF_impl_Receiver_0 Z <| LD (i := 2) Z tyP_int Z Z Z <| EQ1 Z Z Z <| ND <| CF Z (by rw [h2_]; rfl) <| ?_
  refine SK <| SQ <| RG <| AS Z Z <| ND <| SQ <| RG <| FA Z tyF_impl_Receiver_1 Z <| LS (i := 2) [_, _] Z tyS_impl_Buffer Z Z Z Z <| MV Z Z <| CN1 Z fun_impl_TakeBytes Z (fun w hs => impl_TakeBytes (x := x.buffer) ⟨_, Z, (hA0.s Pl.keeps hs)⟩ hT) <| fun v2 ch2 how2 => ?_
  obtain ⟨n2, sA2, sm2, sc2, rfl⟩ := how2
  refine MV Z Z <| XT Z Z Z <| XT Z Z Z <| AS Z Z <| FA Z tyF_impl_Receiver_1 Z <| ST (i := 0) [_, _] [_, _, _, _, _, _] tyS_impl_Buffer.sz Z Z Z Z Z Z Z Z <| ND <| SQ <| SQ <| RG <| FA Z tyF_impl_Receiver_0 Z <| LD (i := 2) Z tyP_int Z Z Z <| EQ1 Z Z Z <| MV Z Z <| ?_
  refine rw_caseL (j := 30) Z (fun h1 => ?_) (fun h1 => ?_)
  · refine ON Z Z Z <| FA Z tyF_impl_Receiver_1 Z <| ON Z Z Z <| FA Z tyF_impl_Buffer_0 Z <| ON Z Z Z <| LD (i := 0) Z tyP_int Z Z Z <| ON Z Z Z <| FA Z tyF_impl_Receiver_2 Z <| ON Z Z Z <| LD (i := 2) Z tyP_int Z Z Z <| ON Z Z Z <| EQ1 Z Z Z <| PT Z Z Z Z <| ND <| ?_
    refine gw_cond Z (fun h2 => ?_) (fun h2 => ?_)
    · refine RG <| FA Z tyF_impl_Receiver_0 Z <| ST (i := 0) [_] [_, _, _, _, _, _] tyP_int.sz Z Z Z Z Z Z Z Z <| ND <| SQ <| gw_draw' [dd 0, dd 1, dd 2] [3] mixed Z (FD Z) (ts := [_]) Z <| DM Z Z Z <| DT Z Z (fun K hk => LS (i := 0) [_, _, _, _, _, _] Z tyS_impl_Receiver Z Z Z Z hk) <| DT Z Z (fun K hk => AS Z Z hk) <| dw_nil <| ST (i := 1) [_, _, _, _, _, _] [_, _, _, _, _, _] tyS_impl_Receiver.sz Z Z Z Z Z Z Z Z <| ND <| ?_
      refine ret_cn [] Try.func17 (res2 Try.func17 Z (rv_tmp Z) (rv_s (i := 1) [_, _, _, _, _, _] tyS_impl_Receiver Z Z Z Z)) ?_ ?_
      · exact ⟨_, _, _, _, _, _, _, _, rfl⟩
      · exact List.nil_sublist _
    refine SK <| SQ <| gw_draw' [dd 0, dd 1, dd 2] [3] mixed Z (FD Z) (ts := [_]) Z <| DM Z Z Z <| DT Z Z (fun K hk => LS (i := 0) [_, _, _, _, _, _] Z tyS_impl_Receiver Z Z Z Z hk) <| DT Z Z (fun K hk => AS Z Z hk) <| dw_nil <| ST (i := 1) [_, _, _, _, _, _] [_, _, _, _, _, _] tyS_impl_Receiver.sz Z Z Z Z Z Z Z Z <| ND <| ?_
    refine ret_cn [] Try.func17 (res2 Try.func17 Z (rv_tmp Z) (rv_s (i := 1) [_, _, _, _, _, _] tyS_impl_Receiver Z Z Z Z)) ?_ ?_
    · exact ⟨_, _, _, _, _, _, _, _, rfl⟩
    · exact List.nil_sublist _
  refine SKP Z <| PF Z Z Z Z <| ND <| CF Z Z <| SK <| SQ <| gw_draw' [dd 0, dd 1, dd 2] [3] mixed Z (FD Z) (ts := [_]) Z <| DM Z Z Z <| DT Z Z (fun K hk => LS (i := 0) [_, _, _, _, _, _] Z tyS_impl_Receiver Z Z Z Z hk) <| DT Z Z (fun K hk => AS Z Z hk) <| dw_nil <| ST (i := 1) [_, _, _, _, _, _] [_, _, _, _, _, _] tyS_impl_Receiver.sz Z Z Z Z Z Z Z Z <| ND <| ?_
  refine ret_cn [] Try.func17 (res2 Try.func17 Z (rv_tmp Z) (rv_s (i := 1) [_, _, _, _, _, _] tyS_impl_Receiver Z Z Z Z)) ?_ ?_
  · exact ⟨_, _, _, _, _, _, _, _, rfl⟩
  · exact List.nil_sublist _
end Go.Proofs.Ytbhnekiclbfmgaa
namespace Go.Proofs.Ytbhnekiclbfmgaa
open SL Go.RowKit
theorem impl_one (b : Bool) (w : World) : CV Try.prog 29 [.bool b] w (.int .i64 (one b)) := by
  refine cv_of Try.func29 Z Z Z <| SQ <| RG <| AS Z Z <| ND <| SQ <| SQ <| RG <| MV Z Z <| ND <| ?_
  refine gw_cond Z (fun h1 => ?_) (fun h1 => ?_)
  · refine SQ <| RG <| AS Z Z <| ND <| RT Try.func29 Z Z <| ?_
    simp only [one, h1] <;> rfl
  refine SK <| SQ <| RG <| AS Z Z <| ND <| RT Try.func29 Z Z <| ?_
  simp only [one, h1] <;> rfl

set_option maxHeartbeats 2000000 in
set_option maxRecDepth 20000 in
theorem impl_PeekRing {w : World} {cs : List Value} {x : Ring} (hv : RdRing w cs x) (hb : x.le 1048576) (o m : Int) : CV Try.prog 30 [.agg cs.toArray, .int .i64 o, .int .i64 m] w (.tuple #[.string (mkS (peekI x o m)), .bool (peekOk x o m)]) := by
  obtain ⟨v0, rfl, k0⟩ := hv
  obtain ⟨A0, c0, rfl, hA0⟩ := k0
  have hb0 : x.cells.length ≤ 1048576 := hb
  refine cv_of Try.func30 Z Z Z <| SQ <| RG <| BX [_, _, _, _] Z Z Z <| fun b1 => AS Z Z <| AS Z Z <| ND <| SQ <| SQ <| RG <| LS (i := 0) [_, _, _, _] Z tyS_impl_Ring Z Z Z Z <| CV1 Z fun_impl_IsRing Z (fun w hs => impl_IsRing ⟨_, Z, (hA0.s Pl.keeps hs)⟩ (show _ ≤ _ from hb0)) <| NT Z Z <| MV Z Z <| ?_
  refine rw_caseN (j := 13) Z (fun h1 => ?_) (fun h1 => ?_)
  · refine SKP Z <| PT Z Z Z Z <| MV Z Z <| SKP Z <| PT Z Z Z Z <| MV Z Z <| SKP Z <| PT Z Z Z Z <| ND <| CT Z Z <| SQ <| RG <| AS Z Z <| AS Z Z <| ND <| ret_cv Try.func30 (res2 Try.func30 Z (rv_tmp Z) (rv_tmp Z)) <| ?_
    have hk_ : peekOk x o m = false := by simp [peekOk, h1]
    rw [peekI, hk_]; rfl
  refine ON Z Z Z <| MV Z Z <| ON Z Z Z <| rw_lss Z Z Z <| PF Z Z Z Z <| MV Z Z <| ?_
  refine rw_caseL (j := 17) Z (fun h2 => ?_) (fun h2 => ?_)
  · refine SKP Z <| PT Z Z Z Z <| MV Z Z <| SKP Z <| PT Z Z Z Z <| ND <| CT Z Z <| SQ <| RG <| AS Z Z <| AS Z Z <| ND <| ret_cv Try.func30 (res2 Try.func30 Z (rv_tmp Z) (rv_tmp Z)) <| ?_
    have hk_ : peekOk x o m = false := by simp [peekOk, h1, h2]
    rw [peekI, hk_]; rfl
  refine ON Z Z Z <| MV Z Z <| ON Z Z Z <| FA Z tyF_impl_Ring_1 Z <| ON Z Z Z <| LD (i := 0) Z tyP_int Z Z Z <| ON Z Z Z <| FA Z tyF_impl_Ring_2 Z <| ON Z Z Z <| LD (i := 0) Z tyP_int Z Z Z <| ON Z Z Z <| CV1 Z fun_impl_within Z (fun w hs => impl_within _ _ _ w) <| ON Z Z Z <| NT Z Z <| PF Z Z Z Z <| MV Z Z <| ?_
  refine rw_caseN (j := 26) Z (fun h3 => ?_) (fun h3 => ?_)
  · refine SKP Z <| PT Z Z Z Z <| ND <| CT Z Z <| SQ <| RG <| AS Z Z <| AS Z Z <| ND <| ret_cv Try.func30 (res2 Try.func30 Z (rv_tmp Z) (rv_tmp Z)) <| ?_
    have hk_ : peekOk x o m = false := by simp [peekOk, h1, h2, h3]
    rw [peekI, hk_]; rfl
  refine ON Z Z Z <| MV Z Z <| ON Z Z Z <| FA Z tyF_impl_Ring_2 Z <| ON Z Z Z <| LD (i := 0) Z tyP_int Z Z Z <| ON Z Z Z <| MV Z Z <| ON Z Z Z <| rw_sub Z Z Z <| ON Z Z Z <| rw_gtr Z Z Z <| PF Z Z Z Z <| ND <| ?_
  refine gw_cond Z (fun h4 => ?_) (fun h4 => ?_)
  · refine SQ <| RG <| AS Z Z <| AS Z Z <| ND <| ret_cv Try.func30 (res2 Try.func30 Z (rv_tmp Z) (rv_tmp Z)) <| ?_
    have hk_ : peekOk x o m = false := by simp [peekOk, h1, h2, h3, h4]
    rw [peekI, hk_]; rfl
  refine SK <| SQ <| RG <| rw_slice0 Z tyM_S_uint8 (PlO byC) <| fun v1 how1 => AS Z Z <| ND <| SQ <| SQ <| RG <| MV Z Z <| MV Z Z <| ND <| BK <| ?_
  have hring_ := h1
  have hpk_ := peekI_ok hring_ h2 h3 h4
  refine gw_loopX (α := Nat × Value × List Ck) (fun z_ => (z_.1 : Int) ≤ m ∧ OwA 5 1 (PlO byC) z_.2.1 (peekBytes x o z_.1) z_.2.2) (fun z_ => m.toNat - z_.1) (fun e z_ => (36, .int .i64 (z_.1 : Int)) :: (8, z_.2.1) :: e) (fun B _ => B) (fun F z_ => z_.2.2 ++ ([])) (0, v1, []) [(1, _), (3, _), (6, _), (7, _), (35, _)] (Sub.consE Z Z (Sub.consE Z Z (Sub.cons (i := 1) Z (Sub.cons (i := 3) Z (Sub.cons (i := 6) Z (Sub.cons (i := 7) Z (Sub.cons (i := 35) Z (Sub.nil _)))))))) Z Z ?_ ?_
  · exact ⟨hpk_.2.1, how1⟩
  · rintro ⟨i, v, ch⟩ hI2 ih2
    dsimp only at hI2
    dsimp only
    obtain ⟨hle, hO⟩ := hI2
    refine SQ <| RG <| rw_lss Z Z Z <| ND <| SQ <| ?_
    refine gw_cond Z (fun h5 => ?_) (fun h5 => ?_)
    · obtain ⟨k3, hk3, hkl3⟩ := peek_at hring_ hpk_ h5
      refine SK <| SQ <| BK <| SQ <| RG <| MV Z Z <| AS Z Z <| ND <| gw_draw' [dd 0, dd 1, dd 2, dd 3, dd 4, dd 5, dd 6, dd 7, dd 8, dd 9, dd 10, dd 11, (12, .add)] [13, 14] mixed Z (FD Z) (ts := [_, _]) Z <| DM Z Z Z <| DT Z Z (fun K hk => FA Z tyF_impl_Ring_3 Z hk) <| DT Z Z (fun K hk => LD (i := 0) Z tyP_S_int Z Z Z hk) <| DM Z Z Z <| DM Z Z Z <| ?_
      refine DT Z Z (fun K hk => rw_add Z Z Z hk) <| DT Z Z (fun K hk => FA Z tyF_impl_Ring_0 Z hk) <| DT Z Z (fun K hk => LD (i := 0) Z tyP_int Z Z Z hk) <| DT Z Z (fun K hk => rw_rem Z Z Z (ring_nz hring_) hk) <| ?_
      obtain ⟨x4, hx4⟩ := get_of_lt hkl3
      have hd4 := drop_cons hx4
      have hq5 := hA0.plain hx4
      refine DT Z Z (fun K hk => rw_indexAddr (k3) Z tyE_S_int Z Z hk3 (hA0.some hkl3) hkl3 hk) <| DT Z Z (fun K hk => rw_loadX _ Z tyP_int Z (fun w hs => hq5.ld0 hs Z) hk) <| DT Z Z (fun K hk => rw_convIe ((u8of x4).toNat : Int) Z tyCI_int_uint8 Z (u8of_val x4) hk) <| DA Z Z (fun K hk => rw_slice1F (xs := [(0, _)]) [_] Z tyM_S_uint8 Z Z Z hk) <| fun v6 ch6 how6 => ?_
      obtain ⟨bl6, rfl, hch6⟩ := how6
      refine dw_nil <| ?_
      have hpm8 : (ch6 ++ (ch ++ ([]))).Perm (ch ++ ([] ++ (ch6 ++ ([])))) := by
        refine List.Perm.trans ((pg (pp PR) PR) : (ch6 ++ (ch ++ ([]))).Perm (ch ++ (ch6 ++ ([])))) (List.Perm.of_eq ?_)
        simp only [List.nil_append]
      refine rw_append1F (a := (u8of x4)) (ch2 := []) (F2 := ch6 ++ ([])) Z tyM_S_uint8 eByt Z Z (mem_ch hch6 (fun c hc => ML hc)) hO ⟨Z, Z⟩ hpm8 (by rw [peekBytes_len]; have := hpk_.2.2.1; omega) <| fun v7 ch7 how7 => AS Z Z <| ND <| IB <| RG <| rw_add Z Z Z <| MV Z Z <| ND <| ?_
      refine gw_dropF (F' := ch7 ++ ([])) (List.Sublist.append_left (List.nil_sublist _) _) <| ?_
      refine gw_sub (Sub.consE (i := 36) Z (int_succ (by omega)) (Sub.consE (i := 8) Z Z (Sub.cons (i := 1) Z (Sub.cons (i := 3) Z (Sub.cons (i := 6) Z (Sub.cons (i := 7) Z (Sub.cons (i := 35) Z (Sub.nil _)))))))) (ih2 (i + 1, v7, ch7) ?_ ?_)
      · exact ⟨by have := of_decide_eq_true h5; omega, by rw [peek_snoc hk3 hx4]; exact how7⟩
      · show m.toNat - (i + 1) < m.toNat - i; have := of_decide_eq_true h5; omega
    refine EX Z <| SQ <| RG <| MV Z Z <| ?_
    obtain ⟨Rb9, rcb9, rfl, hRb9, hrdb9⟩ := (OwA.s (l := (peekBytes x o i)) hO).shape eByt
    refine rw_convO (l := (peekBytes x o i)) Z tyCB_S_uint8_string Z Z hrdb9 (fun c hc => ML hc) <| AS Z Z <| AS Z Z <| ND <| ret_cv Try.func30 (res2 Try.func30 Z (rv_tmp Z) (rv_tmp Z)) <| ?_
    have hi_ : i = m.toNat := by have := of_decide_eq_false h5; omega
    have hk_ : peekOk x o m = true := by simp [peekOk, h1, h2, h3, h4]
    rw [peekI, hk_, hi_]; rfl

set_option maxHeartbeats 4000000 in
set_option maxRecDepth 20000 in
theorem impl_NextPiece {w : World} {cs : List Value} {x : Sender} (hv : RdSender w cs x) (hb : x.le 1048576) (m lim : Int) : CV Try.prog 12 [.agg cs.toArray, .int .i64 m, .int .i64 lim] w (.tuple #[.agg (nextI x m lim).1.cells.toArray, .bool (nextI x m lim).2]) := by
  obtain ⟨v0, v1, v2, v3, rfl, k0, k1, k2, k3⟩ := hv
  obtain ⟨A0, c0, rfl, hA0⟩ := k0
  obtain ⟨A1, c1, rfl, hA1⟩ := k1
  obtain ⟨A2, c2, rfl, hA2⟩ := k2
  obtain ⟨A3, c3, rfl, hA3⟩ := k3
  obtain ⟨hb0, hb1, hb2, hb3⟩ := hb
  refine cv_of Try.func12 Z Z Z <| SQ <| RG <| BX [_, _, _, _, _, _, _, _, _, _, _, _] Z Z Z <| fun b1 => AL Z tyZ_impl_Piece <| fun b2 => AS Z Z <| ND <| SQ <| SQ <| RG <| LS (i := 1) [_, _, _, _, _, _, _, _, _, _, _, _] Z tyS_impl_Sender Z Z Z Z <| CV1 Z fun_impl_isActive Z (fun w hs => impl_isActive ⟨_, _, _, _, Z, (hA0.s Pl.keeps hs), (hA1.s Pl.keeps hs), (hA2.s Pl.keeps hs), (hA3.s Pl.keeps hs)⟩ ⟨hb0, hb1, hb2, hb3⟩) <| NT Z Z <| ND <| ?_
  refine gw_condN Z (fun h1 => ?_) (fun h1 => ?_)
  · refine SQ <| RG <| rw_build [_, _, _] Z tyB_impl_Piece tyZ_impl_Piece Z Z <| ST (i := 0) [_, _, _] [_, _, _] tyS_impl_Piece.sz Z Z Z Z Z Z Z Z <| AS Z Z <| ND <| ret_cv Try.func12 (res2 Try.func12 Z (rv_s (i := 0) [_, _, _] tyS_impl_Piece Z Z Z Z) (rv_tmp Z)) <| ?_
    rw [nextI_not h1]; rfl
  refine SK <| SQ <| SQ <| RG <| FA Z tyF_impl_Sender_2 Z <| LD (i := 1) Z tyP_S_impl_Range Z Z Z <| rw_len Z tyE_S_impl_Range Z <| EQ1 Z Z Z <| ND <| ?_
  refine gw_cond Z (fun h2 => ?_) (fun h2 => ?_)
  · have hz1 := nil_of_eq h2
    refine SQ <| gw_giveB (B' := [_]) 0 Z Z <| gw_draw' [dd 0, dd 1, dd 2, dd 3, dd 4, dd 5, dd 6, dd 7, dd 8, dd 9, dd 10, dd 11, (12, .detB), (13, .detB), (14, .detB), (15, .sto)] [16] mixed Z (FD Z) (ts := [_]) Z <| DT Z Z (fun K hk => FA Z tyF_impl_Sender_5 Z hk) <| DT Z Z (fun K hk => LD (i := 0) Z tyP_int Z Z Z hk) <| DT Z Z (fun K hk => rw_max Z Z Z hk) <| DT Z Z (fun K hk => FA Z tyF_impl_Sender_6 Z hk) <| DT Z Z (fun K hk => LD (i := 0) Z tyP_int Z Z Z hk) <| ?_
    refine DT Z Z (fun K hk => EQ1 Z Z Z hk) <| DT Z Z (fun K hk => CV1 Z fun_impl_one Z (fun w hs => impl_one _ w) hk) <| DT Z Z (fun K hk => rw_mul Z Z Z hk) <| DT Z Z (fun K hk => FA Z tyF_impl_Sender_6 Z hk) <| DT Z Z (fun K hk => LD (i := 0) Z tyP_int Z Z Z hk) <| DT Z Z (fun K hk => EQ1 Z Z Z hk) <| DT Z Z (fun K hk => rw_build [_, _, _] Z tyB_impl_Piece tyZ_impl_Piece Z Z hk) <| dw_detB Z Z (fun K hk => FA Z tyF_impl_Sender_6 Z hk) <| ?_
    refine dw_detB Z Z (fun K hk => LD (i := 0) Z tyP_int Z Z Z hk) <| dw_detB Z Z (fun K hk => EQ1 Z Z Z hk) <| dw_sto Z Z (fun K hk => rw_storeF [_, _, _] [_, _, _] tyS_impl_Piece.sz Z Z Z Z Z Z Z hk) <| dw_nil <| rw_take <| AS Z Z <| ND <| ret_cv Try.func12 (res2 Try.func12 Z (rv_s (i := 0) [_, _, _] tyS_impl_Piece Z Z Z Z) (rv_tmp Z)) <| ?_
    rw [nextI_nil h1 hz1]; rfl
  have hpos2 := pos_of_ne h2
  refine SK <| SQ <| RG <| FA Z tyF_impl_Sender_2 Z <| LD (i := 1) Z tyP_S_impl_Range Z Z Z <| ?_
  have hi3 : 0 < x.pending.length := by omega
  obtain ⟨x4, hx4⟩ := get_of_lt hi3
  have hd4 := drop_cons hx4
  have hq5 := hA1.plain hx4
  refine rw_indexAddr (0) Z tyE_S_impl_Range Z Z Z (hA1.some hi3) hi3 <| rw_loadX_s [_, _] Z tyS_impl_Range Z Z (fun w hs => hq5.lds0 (n := 2) hs Z) <| AL Z tyZ_impl_Range <| fun b3 => ST (i := 0) [_, _] [_, _] tyS_impl_Range.sz Z Z Z Z Z Z Z Z <| ND <| SQ <| RG <| FA Z tyF_impl_Range_1 Z <| LD (i := 0) Z tyP_int Z Z Z <| FA Z tyF_impl_Range_0 Z <| LD (i := 0) Z tyP_int Z Z Z <| rw_sub Z Z Z <| MV Z Z <| rw_min Z Z Z <| AS Z Z <| ?_
  refine ND <| SQ <| SQ <| RG <| MV Z Z <| FA Z tyF_impl_Range_0 Z <| LD (i := 0) Z tyP_int Z Z Z <| rw_leq Z Z Z <| ND <| ?_
  refine gw_cond Z (fun h3 => ?_) (fun h3 => ?_)
  · refine SQ <| RG <| rw_build [_, _, _] Z tyB_impl_Piece tyZ_impl_Piece Z Z <| ST (i := 1) [_, _, _] [_, _, _] tyS_impl_Piece.sz Z Z Z Z Z Z Z Z <| AS Z Z <| ND <| ret_cv Try.func12 (res2 Try.func12 Z (rv_s (i := 1) [_, _, _] tyS_impl_Piece Z Z Z Z) (rv_tmp Z)) <| ?_
    rw [nextI_cons h1 hx4]; simp [nextN, Piece.cells, h3]
  refine SK <| SQ <| SQ <| RG <| MV Z Z <| FA Z tyF_impl_Range_0 Z <| LD (i := 0) Z tyP_int Z Z Z <| MV Z Z <| rw_add Z Z Z <| rw_lss Z Z Z <| ND <| ?_
  refine gw_cond Z (fun h4 => ?_) (fun h4 => ?_)
  · refine RG <| MV Z Z <| FA Z tyF_impl_Range_0 Z <| LD (i := 0) Z tyP_int Z Z Z <| rw_sub Z Z Z <| AS Z Z <| ND <| SQ <| SQ <| RG <| MV Z Z <| rw_leq Z Z Z <| ND <| ?_
    refine gw_cond Z (fun h5 => ?_) (fun h5 => ?_)
    · refine SQ <| RG <| rw_build [_, _, _] Z tyB_impl_Piece tyZ_impl_Piece Z Z <| ST (i := 1) [_, _, _] [_, _, _] tyS_impl_Piece.sz Z Z Z Z Z Z Z Z <| AS Z Z <| ND <| ret_cv Try.func12 (res2 Try.func12 Z (rv_s (i := 1) [_, _, _] tyS_impl_Piece Z Z Z Z) (rv_tmp Z)) <| ?_
      rw [nextI_cons h1 hx4]; simp [nextN, Piece.cells, h3, h4, h5]
    refine SK <| SQ <| RG <| FA Z tyF_impl_Sender_1 Z <| LS (i := 2) [_, _, _, _] Z tyS_impl_Ring Z Z Z Z <| FA Z tyF_impl_Range_0 Z <| LD (i := 0) Z tyP_int Z Z Z <| MV Z Z <| CV1 Z fun_impl_PeekRing Z (fun w hs => impl_PeekRing ⟨_, Z, (hA0.s Pl.keeps hs)⟩ hb0 _ _) <| MV Z Z <| XT Z Z Z <| XT Z Z Z <| AS Z Z <| AS Z Z <| ND <| SQ <| RG <| FA Z tyF_impl_Range_0 Z <| LD (i := 0) Z tyP_int Z Z Z <| ?_
    refine MV Z Z <| FA Z tyF_impl_Sender_6 Z <| LD (i := 2) Z tyP_int Z Z Z <| EQ1 Z Z Z <| MV Z Z <| ?_
    refine rw_caseL (j := 79) Z (fun h6 => ?_) (fun h6 => ?_)
    · refine ON Z Z Z <| FA Z tyF_impl_Range_0 Z <| ON Z Z Z <| LD (i := 0) Z tyP_int Z Z Z <| ON Z Z Z <| MV Z Z <| ON Z Z Z <| rw_add Z Z Z <| ON Z Z Z <| FA Z tyF_impl_Sender_5 Z <| ON Z Z Z <| LD (i := 2) Z tyP_int Z Z Z <| ON Z Z Z <| EQ1 Z Z Z <| PT Z Z Z Z <| rw_build [_, _, _] Z tyB_impl_Piece tyZ_impl_Piece Z Z <| ST (i := 1) [_, _, _] [_, _, _] tyS_impl_Piece.sz Z Z Z Z Z Z Z Z <| ?_
      refine AS Z Z <| ND <| ret_cv Try.func12 (res2 Try.func12 Z (rv_s (i := 1) [_, _, _] tyS_impl_Piece Z Z Z Z) (rv_tmp Z)) <| ?_
      rw [nextI_cons h1 hx4]; simp [nextN, Piece.cells, h3, h4, h5, h6]
    refine SKP Z <| PF Z Z Z Z <| rw_build [_, _, _] Z tyB_impl_Piece tyZ_impl_Piece Z Z <| ST (i := 1) [_, _, _] [_, _, _] tyS_impl_Piece.sz Z Z Z Z Z Z Z Z <| AS Z Z <| ND <| ret_cv Try.func12 (res2 Try.func12 Z (rv_s (i := 1) [_, _, _] tyS_impl_Piece Z Z Z Z) (rv_tmp Z)) <| ?_
    rw [nextI_cons h1 hx4]; simp [nextN, Piece.cells, h3, h4, h5, h6]
  refine SK <| SQ <| SQ <| RG <| MV Z Z <| rw_leq Z Z Z <| ND <| ?_
  refine gw_cond Z (fun h7 => ?_) (fun h7 => ?_)
  · refine SQ <| RG <| rw_build [_, _, _] Z tyB_impl_Piece tyZ_impl_Piece Z Z <| ST (i := 1) [_, _, _] [_, _, _] tyS_impl_Piece.sz Z Z Z Z Z Z Z Z <| AS Z Z <| ND <| ret_cv Try.func12 (res2 Try.func12 Z (rv_s (i := 1) [_, _, _] tyS_impl_Piece Z Z Z Z) (rv_tmp Z)) <| ?_
    rw [nextI_cons h1 hx4]; simp [nextN, Piece.cells, h3, h4, h7]
  refine SK <| SQ <| RG <| FA Z tyF_impl_Sender_1 Z <| LS (i := 2) [_, _, _, _] Z tyS_impl_Ring Z Z Z Z <| FA Z tyF_impl_Range_0 Z <| LD (i := 0) Z tyP_int Z Z Z <| MV Z Z <| CV1 Z fun_impl_PeekRing Z (fun w hs => impl_PeekRing ⟨_, Z, (hA0.s Pl.keeps hs)⟩ hb0 _ _) <| MV Z Z <| XT Z Z Z <| XT Z Z Z <| AS Z Z <| AS Z Z <| ND <| SQ <| RG <| FA Z tyF_impl_Range_0 Z <| LD (i := 0) Z tyP_int Z Z Z <| ?_
  refine MV Z Z <| FA Z tyF_impl_Sender_6 Z <| LD (i := 2) Z tyP_int Z Z Z <| EQ1 Z Z Z <| MV Z Z <| ?_
  refine rw_caseL (j := 79) Z (fun h8 => ?_) (fun h8 => ?_)
  · refine ON Z Z Z <| FA Z tyF_impl_Range_0 Z <| ON Z Z Z <| LD (i := 0) Z tyP_int Z Z Z <| ON Z Z Z <| MV Z Z <| ON Z Z Z <| rw_add Z Z Z <| ON Z Z Z <| FA Z tyF_impl_Sender_5 Z <| ON Z Z Z <| LD (i := 2) Z tyP_int Z Z Z <| ON Z Z Z <| EQ1 Z Z Z <| PT Z Z Z Z <| rw_build [_, _, _] Z tyB_impl_Piece tyZ_impl_Piece Z Z <| ST (i := 1) [_, _, _] [_, _, _] tyS_impl_Piece.sz Z Z Z Z Z Z Z Z <| ?_
    refine AS Z Z <| ND <| ret_cv Try.func12 (res2 Try.func12 Z (rv_s (i := 1) [_, _, _] tyS_impl_Piece Z Z Z Z) (rv_tmp Z)) <| ?_
    rw [nextI_cons h1 hx4]; simp [nextN, Piece.cells, h3, h4, h7, h8]
  refine SKP Z <| PF Z Z Z Z <| rw_build [_, _, _] Z tyB_impl_Piece tyZ_impl_Piece Z Z <| ST (i := 1) [_, _, _] [_, _, _] tyS_impl_Piece.sz Z Z Z Z Z Z Z Z <| AS Z Z <| ND <| ret_cv Try.func12 (res2 Try.func12 Z (rv_s (i := 1) [_, _, _] tyS_impl_Piece Z Z Z Z) (rv_tmp Z)) <| ?_
  rw [nextI_cons h1 hx4]; simp [nextN, Piece.cells, h3, h4, h7, h8]
end Go.Proofs.Ytbhnekiclbfmgaa
namespace Go.Proofs.Ytbhnekiclbfmgaa
open SL Go.RowKit
theorem laws_big {w : World} {v : Value} {l : List UInt8} (hv : RdS w 1 (Pl byC) v l) : CV Try.prog 4 [v] w (.bool (decide ((1048576 : Int) < (l.length : Int)))) := by
  obtain ⟨A, cp, rfl, hA⟩ := hv
  refine cv_of Try.func4 Z Z Z <| SQ <| RG <| AS Z Z <| ND <| SQ <| RG <| MV Z Z <| rw_len Z tyE_S_uint8 Z <| rw_gtr Z Z Z <| AS Z Z <| ND <| RT Try.func4 Z Z <| ?_
  rfl

theorem laws_at {w : World} {v : Value} {l : List UInt8} (hv : RdS w 1 (Pl byC) v l) (hl : l.length ≤ 1048576) {i : Nat} (hi_ : i ≤ 1000) : CV Try.prog 7 [v, .int .i64 (i : Int)] w (.int .i64 (atV l i)) := by
  obtain ⟨A, cp, rfl, hA⟩ := hv
  refine cv_of Try.func7 Z Z Z <| SQ <| RG <| AS Z Z <| ND <| SQ <| SQ <| RG <| MV Z Z <| MV Z Z <| rw_len Z tyE_S_uint8 Z <| rw_lss Z Z Z <| ND <| ?_
  refine gw_cond Z (fun h1 => ?_) (fun h1 => ?_)
  · have hi1 := lt_of_dec h1
    obtain ⟨x2, hx2⟩ := get_of_lt hi1
    have hd2 := drop_cons hx2
    refine SQ <| RG <| MV Z Z <| MV Z Z <| ?_
    have hq3 := hA.plain hx2
    refine rw_indexAddr (i) Z tyE_S_uint8 Z Z Z (hA.some hi1) hi1 <| rw_loadX _ Z tyP_uint8 Z (fun w hs => hq3.ld0 hs Z) <| rw_convI Z tyCI_uint8_int Z <| AS Z Z <| ND <| RT Try.func7 Z Z <| ?_
    rw [atV_some hx2]
  have hn4 := nil_of_dec h1
  refine SK <| SQ <| RG <| MV Z Z <| rw_mul Z Z Z <| MV Z Z <| rw_len Z tyE_S_uint8 Z <| rw_mul Z Z Z <| rw_add Z Z Z <| rw_rem Z Z Z (by first | decide | omega) <| AS Z Z <| ND <| RT Try.func7 Z Z <| ?_
  rw [atV_none (List.drop_eq_nil_iff.1 hn4)]

set_option maxHeartbeats 16000000 in
set_option maxRecDepth 20000 in
theorem law_FnDrained {w : World} {v : Value} {l : List UInt8} (hv : RdS w 1 (Pl byC) v l) : CV Try.prog 3 [v] w (.bool true) := by
  obtain ⟨A, cp, rfl, hA⟩ := hv
  refine cv_of Try.func3 Z Z Z <| SQ <| RG <| AS Z Z <| ND <| SQ <| SQ <| RG <| MV Z Z <| CV1 Z fun_laws_big Z (fun w hs => laws_big (hA.s Pl.keeps hs)) <| ND <| ?_
  refine gw_cond Z (fun h1 => ?_) (fun h1 => ?_)
  · refine SQ <| RG <| AS Z Z <| ND <| RT Try.func3 Z Z <| ?_
    rfl
  have hl := le_of_dec h1
  refine SK <| SQ <| RG <| CN1 Z fun_impl_NewSender Z (fun w hs => impl_NewSender 16 16 Z (by kernel_rfl) (by decide)) <| fun vv2 ch2 how2 => ?_
  obtain ⟨sv2, rfl, hO2⟩ := how2
  obtain ⟨R2, rc2, rfl, hR2, hrd2⟩ := hO2.shape eInt
  refine MV Z Z <| XT Z Z Z <| XT Z Z Z <| AL Z tyZ_impl_Sender <| fun b1 => rw_storeN (i := 0) [_, _, _, _, _, _, _, _, _, _, _, _] [_, _, _, _, _, _, _, _, _, _, _, _] [_] tyS_impl_Sender.sz Z Z Z Z Z Z Z Z Z <| AS Z Z <| ND <| SQ <| gw_drawF [(0, .det), (1, .det), (2, .det), (3, .det), (4, .det), (5, .add), (6, .det), (8, .det)] [7, 9] 8 mixed Z (FD Z) <| DT Z Z (fun K hk => LS (i := 0) [_, _, _, _, _, _, _, _, _, _, _, _] Z tyS_impl_Sender Z Z Z Z hk) <| DM Z Z Z <| ?_
  refine DT Z Z (fun K hk => CV1 Z fun_laws_at Z (fun w hs => laws_at (hA.s Pl.keeps hs) hl (i := 0) (by omega)) hk) <| ?_
  obtain ⟨n_, hn_, hn17_⟩ : ∃ k : Nat, (atV l 0).tmod 17 = (k : Int) ∧ k < 17 := at_rem (i := 0) (m := 17) hl (by omega) (by omega)
  have hD_ : (abc.take n_).length ≤ 16 := by rw [abc_len hn17_]; omega
  refine DT Z Z (fun K hk => rw_remE Z Z Z (by decide) hn_ hk) <| DT Z Z (fun K hk => rw_sliceH (l := abc) n_ (abc.take n_) Z tyStr_string Z Z Z (show n_ ≤ 16 by omega) Z hk) <| DA Z Z (fun K hk => CN1 Z fun_impl_WriteSender Z (fun w hs => impl_WriteSender (x := newSender 16) ⟨_, _, _, _, Z, ⟨_, _, Z, hrd2 _ (fun c hc => hs.at_ c (MR (ML hc)))⟩, ⟨none, 0, Z, RdL.nil _ _ _ _⟩, ⟨none, 0, Z, RdL.nil _ _ _ _⟩, ⟨none, 0, Z, RdL.nil _ _ _ _⟩⟩ Z (D := (abc.take n_)) hD_) hk) <| fun v3 ch3 how3 => ?_
  obtain ⟨cs3, r3, rfl, how3⟩ := how3
  rw [wr_eq rfl hD_] at how3
  obtain ⟨v3_0, v3_1, v3_2, v3_3, c3_0, c3_1, c3_2, c3_3, rfl, h3_0, h3_1, h3_2, h3_3, rfl⟩ := how3
  obtain ⟨R3_0, b3_0, rfl, hR3_0, hrd3_0⟩ := h3_0.shape eInt
  obtain ⟨R3_1, b3_1, rfl, hR3_1, hrd3_1⟩ := h3_1.shape eRange
  obtain ⟨R3_2, b3_2, rfl, hR3_2, hrd3_2⟩ := h3_2.shape eRange
  obtain ⟨R3_3, b3_3, rfl, hR3_3, hrd3_3⟩ := h3_3.shape eRange
  refine dw_F (F' := c3_0 ++ (c3_1 ++ (c3_2 ++ (c3_3 ++ (ch2 ++ ([])))))) (by simp only [aA, aN]) <| DM Z Z Z <| DT Z Z (fun K hk => XT Z Z Z hk) <| dw_nil <| ?_
  refine ⟨fp_of Z Z Z (fun K hk => XT Z Z Z hk), ?_⟩
  refine cw_det Z Z (fun K hk => XT Z Z Z hk) <| cw_st Z Z (fun K hk => rw_storeN (i := 0) [_, _, _, _, _, _, _, _, _, _, _, _] [_, _, _, _, _, _, _, _, _, _, _, _] [_] tyS_impl_Sender.sz Z Z Z Z Z Z Z Z Z hk) <| cw_nil <| SQ <| RG <| FA Z tyF_impl_Sender_1 Z <| FA Z tyF_impl_Ring_2 Z <| LD (i := 0) Z tyP_int Z Z Z <| AS Z Z <| ND <| gw_sub (Sub.cons (i := 0) Z (Sub.cons (i := 2) Z (Sub.cons (i := 3) Z (Sub.cons (i := 5) Z (Sub.nil _))))) <| SQ <| RG <| CN1 Z fun_spec_NewSender Z (fun w hs => spec_NewSender 16 16 Z (by kernel_rfl) (by decide)) <| fun vv4 ch4 how4 => ?_
  obtain ⟨sv4, rfl, hO4⟩ := how4
  obtain ⟨R4, rc4, rfl, hR4, hrd4⟩ := hO4.shape eInt
  refine MV Z Z <| XT Z Z Z <| XT Z Z Z <| AL Z tyZ_impl_Sender <| fun b2 => rw_storeN (i := 0) [_, _, _, _, _, _, _, _, _, _, _, _] [_, _, _, _, _, _, _, _, _, _, _, _] [_, _] tyS_impl_Sender.sz Z Z Z Z Z Z Z Z Z <| AS Z Z <| ND <| SQ <| gw_drawF [(0, .det), (1, .det), (2, .det), (3, .det), (4, .det), (5, .add), (6, .det), (8, .det)] [7, 9] 8 mixed Z (FD Z) <| DT Z Z (fun K hk => LS (i := 0) [_, _, _, _, _, _, _, _, _, _, _, _] Z tyS_impl_Sender Z Z Z Z hk) <| DM Z Z Z <| ?_
  refine DT Z Z (fun K hk => CV1 Z fun_laws_at Z (fun w hs => laws_at (hA.s Pl.keeps hs) hl (i := 0) (by omega)) hk) <| DT Z Z (fun K hk => rw_remE Z Z Z (by decide) hn_ hk) <| DT Z Z (fun K hk => rw_sliceH (l := abc) n_ (abc.take n_) Z tyStr_string Z Z Z (show n_ ≤ 16 by omega) Z hk) <| DA Z Z (fun K hk => CN1 Z fun_spec_WriteSender Z (fun w hs => spec_WriteSender (x := newSender 16) ⟨_, _, _, _, Z, ⟨_, _, Z, hrd4 _ (fun c hc => hs.at_ c (MR (ML hc)))⟩, ⟨none, 0, Z, RdL.nil _ _ _ _⟩, ⟨none, 0, Z, RdL.nil _ _ _ _⟩, ⟨none, 0, Z, RdL.nil _ _ _ _⟩⟩ Z (D := (abc.take n_)) hD_) hk) <| fun v5 ch5 how5 => ?_
  obtain ⟨cs5, s5, r5, rfl, how5, hfin5⟩ := how5
  obtain ⟨v5_0, v5_1, v5_2, v5_3, c5_0, c5_1, c5_2, c5_3, rfl, h5_0, h5_1, h5_2, h5_3, rfl⟩ := how5
  obtain ⟨R5_0, b5_0, rfl, hR5_0, hrd5_0⟩ := h5_0.shape eInt
  obtain ⟨R5_1, b5_1, rfl, hR5_1, hrd5_1⟩ := h5_1.shape eRange
  obtain ⟨R5_2, b5_2, rfl, hR5_2, hrd5_2⟩ := h5_2.shape eRange
  obtain ⟨R5_3, b5_3, rfl, hR5_3, hrd5_3⟩ := h5_3.shape eRange
  refine dw_F (F' := c5_0 ++ (c5_1 ++ (c5_2 ++ (c5_3 ++ (ch4 ++ (c3_0 ++ (c3_1 ++ (c3_2 ++ (c3_3 ++ (ch2 ++ ([]))))))))))) (by simp only [aA, aN]) <| DM Z Z Z <| DT Z Z (fun K hk => XT Z Z Z hk) <| dw_nil <| ?_
  refine ⟨fp_of Z Z Z (fun K hk => XT Z Z Z hk), ?_⟩
  refine cw_det Z Z (fun K hk => XT Z Z Z hk) <| cw_st Z Z (fun K hk => rw_storeN (i := 0) [_, _, _, _, _, _, _, _, _, _, _, _] [_, _, _, _, _, _, _, _, _, _, _, _] [_, _] tyS_impl_Sender.sz Z Z Z Z Z Z Z Z Z hk) <| cw_nil <| SQ <| SQ <| RG <| MV Z Z <| FA Z tyF_impl_Sender_1 Z <| FA Z tyF_impl_Ring_2 Z <| LD (i := 0) Z tyP_int Z Z Z <| rw_neq Z Z Z <| ND <| gw_sub (Sub.cons (i := 0) Z (Sub.cons (i := 2) Z (Sub.cons (i := 3) Z (Sub.cons (i := 5) Z (Sub.cons (i := 56) Z (Sub.nil _)))))) <| ?_
  refine CF Z (by rw [hfin5]; exact bne_self_eq_false _) <| SK <| SQ <| RG <| LS (i := 1) [_, _, _, _, _, _, _, _, _, _, _, _] Z tyS_impl_Sender Z Z Z Z <| CN1 Z fun_impl_CloseSender Z (fun w hs => impl_CloseSender (x := sender1 (abc.take n_)) ⟨_, _, _, _, Z, ⟨_, _, Z, hrd3_0 _ (fun c hc => hs.at_ c (MR (MR (MR (MR (MR (MR (ML hc))))))))⟩, ⟨_, _, Z, hrd3_1 _ (fun c hc => hs.at_ c (MR (MR (MR (MR (MR (MR (MR (ML hc)))))))))⟩, ⟨_, _, Z, hrd3_2 _ (fun c hc => hs.at_ c (MR (MR (MR (MR (MR (MR (MR (MR (ML hc))))))))))⟩, ⟨_, _, Z, hrd3_3 _ (fun c hc => hs.at_ c (MR (MR (MR (MR (MR (MR (MR (MR (MR (ML hc)))))))))))⟩⟩ Z hD_) <| fun v6 ch6 how6 => ?_
  obtain ⟨cs6, r6, rfl, how6⟩ := how6
  replace how6 : OwSender cs6 (sender0 (abc.take n_)) ch6 := how6
  obtain ⟨v6_0, v6_1, v6_2, v6_3, c6_0, c6_1, c6_2, c6_3, rfl, h6_0, h6_1, h6_2, h6_3, rfl⟩ := how6
  obtain ⟨R6_0, b6_0, rfl, hR6_0, hrd6_0⟩ := h6_0.shape eInt
  obtain ⟨R6_1, b6_1, rfl, hR6_1, hrd6_1⟩ := h6_1.shape eRange
  obtain ⟨R6_2, b6_2, rfl, hR6_2, hrd6_2⟩ := h6_2.shape eRange
  obtain ⟨R6_3, b6_3, rfl, hR6_3, hrd6_3⟩ := h6_3.shape eRange
  refine rw_F (F' := c6_0 ++ (c6_1 ++ (c6_2 ++ (c6_3 ++ (c5_0 ++ (c5_1 ++ (c5_2 ++ (c5_3 ++ (ch4 ++ (c3_0 ++ (c3_1 ++ (c3_2 ++ (c3_3 ++ (ch2 ++ ([]))))))))))))))) (by simp only [aA, aN]) <| MV Z Z <| XT Z Z Z <| XT Z Z Z <| rw_storeN (i := 1) [_, _, _, _, _, _, _, _, _, _, _, _] [_, _, _, _, _, _, _, _, _, _, _, _] [_, _] tyS_impl_Sender.sz Z Z Z Z Z Z Z Z Z <| ND <| SQ <| RG <| CV1 Z fun_impl_NewReceiver Z (fun w hs => impl_NewReceiver w) <| AL Z tyZ_impl_Receiver <| fun b3 => ?_
  refine ST (i := 0) [_, _, _, _, _, _] [_, _, _, _, _, _] tyS_impl_Receiver.sz Z Z Z Z Z Z Z Z <| ND <| SQ <| RG <| rw_slice0 Z tyM_S_impl_Piece (PlO Piece.cells) <| fun v7 how7 => AS Z Z <| ND <| SQ <| SQ <| RG <| AS Z Z <| ND <| BK <| ?_
  refine gw_dropF (F' := c6_0 ++ (c6_1 ++ (c6_2 ++ (c6_3 ++ ([]))))) (List.Sublist.append_left (List.Sublist.append_left (List.Sublist.append_left (List.Sublist.append_left (List.nil_sublist _) _) _) _) _) <| gw_F (F' := (c6_0 ++ (c6_1 ++ (c6_2 ++ (c6_3)))) ++ ([] ++ ([] ++ ([])))) (by simp only [List.append_nil]) <| ?_
  refine gw_loopX (α := Nat × Sender × List Piece × Int × List Value × List Ck × List Value × List Ck × Value × List Ck) (fun z_ => z_.1 ≤ 60 ∧ OwSender z_.2.2.2.2.1 z_.2.1 z_.2.2.2.2.2.1 ∧ OwReceiver z_.2.2.2.2.2.2.1 (recvOf (abc.take n_) z_.2.1 z_.2.2.2.1) z_.2.2.2.2.2.2.2.1 ∧ OwA 44 3 (PlO Piece.cells) z_.2.2.2.2.2.2.2.2.1 z_.2.2.1 z_.2.2.2.2.2.2.2.2.2 ∧ Inv (abc.take n_).length (abc.take n_) z_.2.1 z_.2.2.1 z_.2.2.2.1 ∧ z_.2.2.1.length ≤ z_.1) (fun z_ => 60 - z_.1) (fun e z_ => (10, .int .i64 (z_.1 : Int)) :: (9, z_.2.2.2.2.2.2.2.2.1) :: e) (fun B z_ => (B.set 2 ⟨b1, 29, z_.2.2.2.2.1⟩).set 0 ⟨b3, 40, z_.2.2.2.2.2.2.1⟩) (fun F z_ => z_.2.2.2.2.2.1 ++ (z_.2.2.2.2.2.2.2.1 ++ (z_.2.2.2.2.2.2.2.2.2 ++ ([])))) (0, sender0 (abc.take n_), [], 0, _, c6_0 ++ (c6_1 ++ (c6_2 ++ (c6_3))), _, [], v7, []) [(0, _), (3, _), (5, _), (8, _)] (Sub.consE Z Z (Sub.consE Z Z (Sub.cons (i := 0) Z (Sub.cons (i := 3) Z (Sub.cons (i := 5) Z (Sub.cons (i := 8) Z (Sub.nil _))))))) Z Z ?_ ?_
  · exact ⟨Nat.zero_le _, owSender_mk h6_0 h6_1 h6_2 h6_3, owReceiver_mk (a2 := []) ⟨[], .inl ⟨none, rfl, rfl, rfl⟩⟩, how7, inv0 hD_, Nat.le_refl _⟩
  · rintro ⟨i, s, ps, hi, cs_, ch_, cg_, chg, vp, chp⟩ hI8 ih8
    dsimp only at hI8
    dsimp only [List.set]
    obtain ⟨hle, hS_, hG_, hP, hInv, hpl_⟩ := hI8
    obtain ⟨va0, va1, va2, va3, ca_, cb_, cc_, cd_, rfl, ha0, ha1, ha2, ha3, rfl⟩ := hS_
    obtain ⟨Ra0, ba0, rfl, hRa0, hrda0⟩ := ha0.shape eInt
    obtain ⟨Ra1, ba1, rfl, hRa1, hrda1⟩ := ha1.shape eRange
    obtain ⟨Ra2, ba2, rfl, hRa2, hrda2⟩ := ha2.shape eRange
    obtain ⟨Ra3, ba3, rfl, hRa3, hrda3⟩ := ha3.shape eRange
    obtain ⟨vg0, chg, rfl, hg0, rfl⟩ := hG_
    obtain ⟨Rg0, bg0, rfl, hRg0, hrdg0⟩ := hg0.shape eChunk
    obtain ⟨Rp, bp, rfl, hRp, hrdp⟩ := (OwA.s hP).shape ePiece
    refine gw_F (F' := ca_ ++ (cb_ ++ (cc_ ++ (cd_ ++ (chg ++ (chp ++ ([]))))))) (by simp only [aA]) ?_
    refine SQ <| SQ <| RG <| MV Z Z <| rw_lss Z Z Z <| ND <| ?_
    refine gw_cond Z (fun h2 => ?_) (fun h2 => ?_)
    · have hlt9 : i < 60 := by have := of_decide_eq_true h2; omega
      refine SK <| SQ <| BK <| SQ <| gw_drawF [(0, .det), (1, .det), (2, .det), (3, .det), (4, .det), (5, .det), (6, .det), (7, .det), (8, .det), (9, .det), (10, (.free 44 [.int .i64 0, .string ByteArray.empty, .bool false]))] [11, 12] 9 mixed Z (free_det (free_det (free_det (free_det (free_det (free_det (free_det (free_det (free_det (free_det (free_new Z Z tyZ_impl_Piece free_nil))))))))))) <| DT Z Z (fun K hk => LS (i := 2) [_, _, _, _, _, _, _, _, _, _, _, _] Z tyS_impl_Sender Z Z Z Z hk) <| DM Z Z Z <| ?_
      refine DM Z Z Z <| DT Z Z (fun K hk => CV1 Z fun_laws_at Z (fun w hs => laws_at (hA.s Pl.keeps hs) hl (i := i) (by omega)) hk) <| DT Z Z (fun K hk => rw_rem Z Z Z (by decide) hk) <| DT Z Z (fun K hk => rw_add Z Z Z hk) <| DT Z Z (fun K hk => CV1 Z fun_impl_NextPiece Z (fun w hs => impl_NextPiece (x := s) ⟨_, _, _, _, Z, ⟨_, _, Z, hrda0 _ (fun c hc => hs.at_ c (MR (ML hc)))⟩, ⟨_, _, Z, hrda1 _ (fun c hc => hs.at_ c (MR (MR (ML hc))))⟩, ⟨_, _, Z, hrda2 _ (fun c hc => hs.at_ c (MR (MR (MR (ML hc)))))⟩, ⟨_, _, Z, hrda3 _ (fun c hc => hs.at_ c (MR (MR (MR (MR (ML hc))))))⟩⟩ hInv.vs.toVC.le _ _) hk) <| ?_
      refine DM Z Z Z <| DT Z Z (fun K hk => XT Z Z Z hk) <| DT Z Z (fun K hk => XT Z Z Z hk) <| dw_free Z Z <| fun b4 => dw_nil <| ?_
      refine ⟨fp_of Z Z Z (fun K hk => XT Z Z Z hk), ?_⟩
      refine cw_take <| cw_st Z Z (fun K hk => ST (i := 0) [_, _, _] [_, _, _] tyS_impl_Piece.sz Z Z Z Z Z Z Z Z hk) <| cw_det Z Z (fun K hk => AS Z Z hk) <| cw_nil <| BK <| SQ <| ?_
      refine gw_key2 (P := ((nextI s (IntKind.i64.wrap (1 + (atV l i).tmod 5)) 100).2 = true)) 78 [(0, _), (3, _), (5, _), (8, _), (9, _), (10, _), (11, _), (12, _), (64, _), (65, _), (68, _), (69, _), (70, _), (71, _), (72, _), (73, _), (74, _), (75, _), (76, _), (77, _)] (Sub.cons (i := 0) Z (Sub.cons (i := 3) Z (Sub.cons (i := 5) Z (Sub.cons (i := 8) Z (Sub.cons (i := 9) Z (Sub.cons (i := 10) Z (Sub.cons (i := 11) Z (Sub.cons (i := 12) Z (Sub.cons (i := 64) Z (Sub.cons (i := 65) Z (Sub.cons (i := 68) Z (Sub.cons (i := 69) Z (Sub.cons (i := 70) Z (Sub.cons (i := 71) Z (Sub.cons (i := 72) Z (Sub.cons (i := 73) Z (Sub.cons (i := 74) Z (Sub.cons (i := 75) Z (Sub.cons (i := 76) Z (Sub.cons (i := 77) Z (Sub.nil _))))))))))))))))))))) ?_ ?_ ?_
      · intro hP17_
        have hnx_ := next_ok2 hInv (at_most hl (by omega)) hP17_
        refine CT Z Z <| SQ <| RG <| LS (i := 3) [_, _, _, _, _, _, _, _, _, _, _, _] Z tyS_impl_Sender Z Z Z Z <| LS (i := 0) [_, _, _] Z tyS_impl_Piece Z Z Z Z <| CN1 Z fun_impl_SendPiece Z (fun w hs => impl_SendPiece (x := s) (p := (nextI s (IntKind.i64.wrap (1 + (atV l i).tmod 5)) 100).1) ⟨_, _, _, _, Z, ⟨_, _, Z, hrda0 _ (fun c hc => hs.at_ c (MR (ML hc)))⟩, ⟨_, _, Z, hrda1 _ (fun c hc => hs.at_ c (MR (MR (ML hc))))⟩, ⟨_, _, Z, hrda2 _ (fun c hc => hs.at_ c (MR (MR (MR (ML hc)))))⟩, ⟨_, _, Z, hrda3 _ (fun c hc => hs.at_ c (MR (MR (MR (MR (ML hc))))))⟩⟩ hInv.vs hnx_.1 hInv.ht hnx_.2) <| fun v10 ch10 how10 => ?_
        obtain ⟨cs10, rfl, how10⟩ := how10
        obtain ⟨v10_0, v10_1, v10_2, v10_3, c10_0, c10_1, c10_2, c10_3, rfl, h10_0, h10_1, h10_2, h10_3, rfl⟩ := how10
        obtain ⟨R10_0, b10_0, rfl, hR10_0, hrd10_0⟩ := h10_0.shape eInt
        obtain ⟨R10_1, b10_1, rfl, hR10_1, hrd10_1⟩ := h10_1.shape eRange
        obtain ⟨R10_2, b10_2, rfl, hR10_2, hrd10_2⟩ := h10_2.shape eRange
        obtain ⟨R10_3, b10_3, rfl, hR10_3, hrd10_3⟩ := h10_3.shape eRange
        refine rw_F (F' := c10_0 ++ (c10_1 ++ (c10_2 ++ (c10_3 ++ (ca_ ++ (cb_ ++ (cc_ ++ (cd_ ++ (chg ++ (chp ++ ([]))))))))))) (by simp only [aA, aN]) <| MV Z Z <| XT Z Z Z <| XT Z Z Z <| AL Z tyZ_impl_Sender <| fun b5 => rw_storeN (i := 0) [_, _, _, _, _, _, _, _, _, _, _, _] [_, _, _, _, _, _, _, _, _, _, _, _] [_, _, _, _, _] tyS_impl_Sender.sz Z Z Z Z Z Z Z Z Z <| AS Z Z <| ND <| gw_sub (Sub.cons (i := 0) Z (Sub.cons (i := 3) Z (Sub.cons (i := 5) Z (Sub.cons (i := 8) Z (Sub.cons (i := 9) Z (Sub.cons (i := 10) Z (Sub.cons (i := 11) Z (Sub.cons (i := 13) Z (Sub.cons (i := 14) Z (Sub.nil _)))))))))) <| ?_
        refine SQ <| SQ <| RG <| MV Z Z <| NT Z Z <| ND <| CF Z Z <| SK <| SQ <| RG <| LS (i := 0) [_, _, _, _, _, _, _, _, _, _, _, _] Z tyS_impl_Sender Z Z Z Z <| rw_storeN (i := 4) [_, _, _, _, _, _, _, _, _, _, _, _] [_, _, _, _, _, _, _, _, _, _, _, _] [_, _, _, _, _] tyS_impl_Sender.sz Z Z Z Z Z Z Z Z Z <| ND <| RG <| MV Z Z <| LS (i := 1) [_, _, _] Z tyS_impl_Piece Z Z Z Z <| rw_slice1F (xs := [(0, _)]) [_, _, _] Z tyM_S_impl_Piece Z Z Z <| fun v11 ch11 how11 => ?_
        obtain ⟨bl11, rfl, hch11⟩ := how11
        have hpm13 : (ch11 ++ (c10_0 ++ (c10_1 ++ (c10_2 ++ (c10_3 ++ (ca_ ++ (cb_ ++ (cc_ ++ (cd_ ++ (chg ++ (chp ++ ([])))))))))))).Perm (chp ++ ([] ++ (ch11 ++ (c10_0 ++ (c10_1 ++ (c10_2 ++ (c10_3 ++ (ca_ ++ (cb_ ++ (cc_ ++ (cd_ ++ (chg ++ ([]))))))))))))) := by
          refine List.Perm.trans ((pg (pp (pp (pp (pp (pp (pp (pp (pp (pp (pp PR)))))))))) PR) : (ch11 ++ (c10_0 ++ (c10_1 ++ (c10_2 ++ (c10_3 ++ (ca_ ++ (cb_ ++ (cc_ ++ (cd_ ++ (chg ++ (chp ++ ([])))))))))))).Perm (chp ++ (ch11 ++ (c10_0 ++ (c10_1 ++ (c10_2 ++ (c10_3 ++ (ca_ ++ (cb_ ++ (cc_ ++ (cd_ ++ (chg ++ ([]))))))))))))) (List.Perm.of_eq ?_)
          simp only [List.nil_append]
        refine rw_append1F (a := (nextI s (IntKind.i64.wrap (1 + (atV l i).tmod 5)) 100).1) (ch2 := []) (F2 := ch11 ++ (c10_0 ++ (c10_1 ++ (c10_2 ++ (c10_3 ++ (ca_ ++ (cb_ ++ (cc_ ++ (cd_ ++ (chg ++ ([]))))))))))) Z tyM_S_impl_Piece ePiece Z Z (mem_ch hch11 (fun c hc => ML hc)) hP ⟨Z, Z⟩ hpm13 (by omega) <| fun v12 ch12 how12 => AS Z Z <| ND <| IB <| IB <| RG <| MV Z Z <| rw_addK (((i + 1) : Nat) : Int) Z Z Z (by rw [show (((i + 1) : Nat) : Int) = (i : Int) + (1 : Int) from by omega]; exact w64_of (by omega) (by omega)) <| AS Z Z <| ?_
        refine ND <| gw_sub (Sub.cons (i := 0) Z (Sub.cons (i := 3) Z (Sub.cons (i := 5) Z (Sub.cons (i := 8) Z (Sub.cons (i := 9) Z (Sub.cons (i := 10) Z (Sub.nil _))))))) <| ?_
        refine gw_FP (F' := c10_0 ++ (c10_1 ++ (c10_2 ++ (c10_3 ++ (chg ++ (ch12 ++ (ch11 ++ (ca_ ++ (cb_ ++ (cc_ ++ (cd_ ++ ([])))))))))))) (pg (pp (pp PR)) (pg (pp (pp PR)) (pg (pp (pp PR)) (pg (pp (pp PR)) (pg (pp (pp (pp (pp (pp (pp PR)))))) (pg PR (pg PR (pg PR (pg PR (pg PR (pg PR PR))))))))))) <| gw_dropF (F' := c10_0 ++ (c10_1 ++ (c10_2 ++ (c10_3 ++ (chg ++ (ch12 ++ ([]))))))) (List.Sublist.append_left (List.Sublist.append_left (List.Sublist.append_left (List.Sublist.append_left (List.Sublist.append_left (List.Sublist.append_left (List.nil_sublist _) _) _) _) _) _) _) <| gw_F (F' := (c10_0 ++ (c10_1 ++ (c10_2 ++ (c10_3)))) ++ (chg ++ (ch12 ++ ([])))) (by simp only [aA]) <| ?_
        refine gw_dropN 2 <| ?_
        refine gw_sub (Sub.consE (i := 10) Z Z (Sub.consE (i := 9) Z Z (Sub.cons (i := 0) Z (Sub.cons (i := 3) Z (Sub.cons (i := 5) Z (Sub.cons (i := 8) Z (Sub.nil _))))))) (ih8 (i + 1, (sendP s (nextI s (IntKind.i64.wrap (1 + (atV l i).tmod 5)) 100).1), (ps ++ [(nextI s (IntKind.i64.wrap (1 + (atV l i).tmod 5)) 100).1]), hi, _, c10_0 ++ (c10_1 ++ (c10_2 ++ (c10_3))), _, chg, v12, ch12) ?_ ?_)
        · refine ⟨by omega, owSender_mk h10_0 h10_1 h10_2 h10_3, by rw [(send_step hInv hnx_.2).2]; exact owReceiver_mk hg0, how12, ?_, ?_⟩
          · exact (send_step hInv hnx_.2).1
          · show ((ps ++ [(nextI s (IntKind.i64.wrap (1 + (atV l i).tmod 5)) 100).1])).length ≤ i + 1; first | omega | (simp only [List.length_append, List.length_cons, List.length_nil]; omega)
        · show 60 - (i + 1) < 60 - i; omega
      · refine CF Z Z <| SQ <| RG <| MV Z Z <| rw_len Z tyE_S_impl_Piece Z <| rw_gtr Z Z Z <| AS Z Z <| ND <| gw_sub (Sub.cons (i := 0) Z (Sub.cons (i := 3) Z (Sub.cons (i := 5) Z (Sub.cons (i := 8) Z (Sub.cons (i := 9) Z (Sub.cons (i := 10) Z (Sub.cons (i := 106) Z (Sub.nil _)))))))) <| ?_
        refine gw_cond Z (fun h3 => ?_) (fun h3 => ?_)
        · have hps_ : 0 < ps.length := by have := of_decide_eq_true h3; omega
          refine SQ <| RG <| MV Z Z <| MV Z Z <| rw_addK (((i + 9) : Nat) : Int) Z Z Z (by rw [show (((i + 9) : Nat) : Int) = (i : Int) + (9 : Int) from by omega]; exact w64_of (by omega) (by omega)) <| CV1 Z fun_laws_at Z (fun w hs => laws_at (hA.s Pl.keeps hs) hl (i := (i + 9)) (by omega)) <| MV Z Z <| rw_len Z tyE_S_impl_Piece Z <| ?_
          obtain ⟨k_, hk_, hkl_⟩ := at_rem hl (i := i + 9) (by omega) hps_
          refine rw_remE Z Z Z (by omega) hk_ <| AS Z Z <| ND <| SQ <| RG <| MV Z Z <| MV Z Z <| ?_
          have hi15 : k_ < ps.length := by omega
          obtain ⟨x16, hx16⟩ := get_of_lt hi15
          have hd16 := drop_cons hx16
          refine rw_indexAddr (k_) Z tyE_S_impl_Piece Z Z Z (hRp (Nat.zero_lt_of_lt hi15)) hi15 <| rw_loadX_s [_, _, _] Z tyS_impl_Piece Z Z (fun w hs => ((hrdp _ (fun c hc => hs.at_ c (MR (MR (MR (MR (MR (MR (ML hc))))))))).plain hx16).cut0 (n := 3) Z) <| AL Z tyZ_impl_Piece <| fun b6 => ST (i := 0) [_, _, _] [_, _, _] tyS_impl_Piece.sz Z Z Z Z Z Z Z Z <| ND <| gw_sub (Sub.cons (i := 0) Z (Sub.cons (i := 3) Z (Sub.cons (i := 5) Z (Sub.cons (i := 8) Z (Sub.cons (i := 9) Z (Sub.cons (i := 10) Z (Sub.cons (i := 15) Z (Sub.cons (i := 16) Z (Sub.nil _))))))))) <| ?_
          refine SQ <| gw_draw' [dd 1, dd 2, dd 3, dd 5, dd 6, dd 7, dd 8, (0, .add), (4, .add)] [9, 10] mixed Z (FD Z) (ts := [_, _]) Z <| DM Z Z Z <| DM Z Z Z <| DT Z Z (fun K hk => rw_partHi (k := k_) Z tyM_S_impl_Piece hP hkl_ Z Z Z hk) <| DM Z Z Z <| DM Z Z Z <| DT Z Z (fun K hk => rw_addK (((k_ + 1) : Nat) : Int) Z Z Z (by rw [show (((k_ + 1) : Nat) : Int) = (k_ : Int) + (1 : Int) from by omega]; exact w64_of (by omega) (by omega)) hk) <| ?_
          refine DT Z Z (fun K hk => rw_partLo (m := k_ + 1) Z tyM_S_impl_Piece hP (by omega) Z Z Z hk) <| DA Z Z (fun K hk => rw_slice0D Z tyM_S_impl_Piece (PlO Piece.cells) hk) <| fun v17 ch17 how17 => ?_
          obtain ⟨how17, rfl⟩ := how17
          refine dw_F (F' := ca_ ++ (cb_ ++ (cc_ ++ (cd_ ++ (chg ++ (chp ++ ([]))))))) (by simp only [nA, aN]) <| DA Z Z (fun K hk => rw_appendP (l2 := (ps.take k_)) (F2 := ca_ ++ (cb_ ++ (cc_ ++ (cd_ ++ (chg ++ (chp ++ ([]))))))) Z tyM_S_impl_Piece ePiece (fun _ => Z) Z Z how17 (fun w hs => rd_hi ePiece hP w (fun c hc => hs.at_ c (MR (MR (MR (MR (MR (MR (ML hc))))))))) (.refl _) (by simp only [List.length_take, List.length_nil]; omega) hk) <| fun v18 ch18 how18 => ?_
          refine dw_nil <| rw_appendP (l2 := (ps.drop (k_ + 1))) (F2 := ca_ ++ (cb_ ++ (cc_ ++ (cd_ ++ (chg ++ (chp ++ ([]))))))) Z tyM_S_impl_Piece ePiece (fun _ => Z) Z Z how18 (fun w hs => rd_lo ePiece hP w (fun c hc => hs.at_ c (MR (MR (MR (MR (MR (MR (MR (ML hc)))))))))) ((pg PR PR)) (by simp only [List.length_append, List.length_take, List.length_drop, List.length_nil]; omega) <| fun v19 ch19 how19 => AS Z Z <| ND <| SQ <| ?_
          refine gw_key2 (P := True) 140 [(0, _), (3, _), (5, _), (8, _), (9, _), (10, _), (15, _), (16, _), (121, _), (122, _), (123, _), (124, _), (125, _), (126, _), (127, _), (128, _), (129, _), (130, _)] (Sub.cons (i := 0) Z (Sub.cons (i := 3) Z (Sub.cons (i := 5) Z (Sub.cons (i := 8) Z (Sub.cons (i := 9) Z (Sub.cons (i := 10) Z (Sub.cons (i := 15) Z (Sub.cons (i := 16) Z (Sub.cons (i := 121) Z (Sub.cons (i := 122) Z (Sub.cons (i := 123) Z (Sub.cons (i := 124) Z (Sub.cons (i := 125) Z (Sub.cons (i := 126) Z (Sub.cons (i := 127) Z (Sub.cons (i := 128) Z (Sub.cons (i := 129) Z (Sub.cons (i := 130) Z (Sub.nil _))))))))))))))))))) ?_ ?_ ?_
          · intro hP27_
            refine CT Z Z <| RG <| LS (i := 4) [_, _, _, _, _, _, _, _, _, _, _, _] Z tyS_impl_Sender Z Z Z Z <| LS (i := 0) [_, _, _] Z tyS_impl_Piece Z Z Z Z <| CN1 Z fun_impl_LosePiece Z (fun w hs => impl_LosePiece (x := s) (p := x16) ⟨_, _, _, _, Z, ⟨_, _, Z, hrda0 _ (fun c hc => hs.at_ c (MR (MR (ML hc))))⟩, ⟨_, _, Z, hrda1 _ (fun c hc => hs.at_ c (MR (MR (MR (ML hc)))))⟩, ⟨_, _, Z, hrda2 _ (fun c hc => hs.at_ c (MR (MR (MR (MR (ML hc))))))⟩, ⟨_, _, Z, hrda3 _ (fun c hc => hs.at_ c (MR (MR (MR (MR (MR (ML hc)))))))⟩⟩ (setOk hInv hx16)) <| fun v20 ch20 how20 => ?_
            obtain ⟨cs20, rfl, how20⟩ := how20
            obtain ⟨v20_0, v20_1, v20_2, v20_3, c20_0, c20_1, c20_2, c20_3, rfl, h20_0, h20_1, h20_2, h20_3, rfl⟩ := how20
            obtain ⟨R20_0, b20_0, rfl, hR20_0, hrd20_0⟩ := h20_0.shape eInt
            obtain ⟨R20_1, b20_1, rfl, hR20_1, hrd20_1⟩ := h20_1.shape eRange
            obtain ⟨R20_2, b20_2, rfl, hR20_2, hrd20_2⟩ := h20_2.shape eRange
            obtain ⟨R20_3, b20_3, rfl, hR20_3, hrd20_3⟩ := h20_3.shape eRange
            refine rw_F (F' := c20_0 ++ (c20_1 ++ (c20_2 ++ (c20_3 ++ (ch19 ++ (ca_ ++ (cb_ ++ (cc_ ++ (cd_ ++ (chg ++ (chp ++ ([])))))))))))) (by simp only [aA, aN]) <| rw_storeN (i := 4) [_, _, _, _, _, _, _, _, _, _, _, _] [_, _, _, _, _, _, _, _, _, _, _, _] [_, _, _, _, _] tyS_impl_Sender.sz Z Z Z Z Z Z Z Z Z <| ND <| gw_sub (Sub.cons (i := 0) Z (Sub.cons (i := 3) Z (Sub.cons (i := 5) Z (Sub.cons (i := 8) Z (Sub.cons (i := 9) Z (Sub.cons (i := 10) Z (Sub.nil _))))))) <| IB <| IB <| RG <| MV Z Z <| ?_
            refine rw_addK (((i + 1) : Nat) : Int) Z Z Z (by rw [show (((i + 1) : Nat) : Int) = (i : Int) + (1 : Int) from by omega]; exact w64_of (by omega) (by omega)) <| AS Z Z <| ND <| ?_
            refine gw_FP (F' := c20_0 ++ (c20_1 ++ (c20_2 ++ (c20_3 ++ (chg ++ (ch19 ++ (ca_ ++ (cb_ ++ (cc_ ++ (cd_ ++ (chp ++ ([])))))))))))) (pg PR (pg PR (pg PR (pg PR (pg (pp (pp (pp (pp (pp PR))))) (pg PR (pg PR (pg PR (pg PR (pg PR (pg PR PR))))))))))) <| gw_dropF (F' := c20_0 ++ (c20_1 ++ (c20_2 ++ (c20_3 ++ (chg ++ (ch19 ++ ([]))))))) (List.Sublist.append_left (List.Sublist.append_left (List.Sublist.append_left (List.Sublist.append_left (List.Sublist.append_left (List.Sublist.append_left (List.nil_sublist _) _) _) _) _) _) _) <| gw_F (F' := (c20_0 ++ (c20_1 ++ (c20_2 ++ (c20_3)))) ++ (chg ++ (ch19 ++ ([])))) (by simp only [aA]) <| ?_
            refine gw_dropN 2 <| ?_
            refine gw_sub (Sub.consE (i := 10) Z Z (Sub.consE (i := 9) Z Z (Sub.cons (i := 0) Z (Sub.cons (i := 3) Z (Sub.cons (i := 5) Z (Sub.cons (i := 8) Z (Sub.nil _))))))) (ih8 (i + 1, (loseP s x16), (ps.take k_ ++ ps.drop (k_ + 1)), hi, _, c20_0 ++ (c20_1 ++ (c20_2 ++ (c20_3))), _, chg, v19, ch19) ?_ ?_)
            · refine ⟨by omega, owSender_mk h20_0 h20_1 h20_2 h20_3, by rw [(lose_step hInv (out_ok hInv.ps hx16)).2]; exact owReceiver_mk hg0, how19, ?_, ?_⟩
              · exact (lose_step hInv (out_ok hInv.ps hx16)).1
              · show ((ps.take k_ ++ ps.drop (k_ + 1))).length ≤ i + 1; first | omega | (simp only [List.length_append, List.length_take, List.length_drop]; omega)
            · show 60 - (i + 1) < 60 - i; omega
          · refine CF Z Z <| SQ <| RG <| LS (i := 2) [_, _, _, _, _, _] Z tyS_impl_Receiver Z Z Z Z <| FA Z tyF_impl_Piece_0 Z <| LD (i := 0) Z tyP_int Z Z Z <| FA Z tyF_impl_Piece_1 Z <| LD (i := 0) Z tyP_string Z Z Z <| FA Z tyF_impl_Piece_2 Z <| LD (i := 0) Z tyP_bool Z Z Z <| CN1 Z fun_impl_ReceiveData Z (fun w hs => impl_ReceiveData (x := recvOf (abc.take n_) s hi) (o := x16.offset) (D := x16.data.data.toList) (f := x16.fin) ⟨_, Z, ⟨_, _, Z, hrdg0 _ (fun c hc => hs.at_ c (MR (MR (MR (MR (MR (MR (ML hc))))))))⟩⟩ (recv_ok2 hInv hx16).1 (rc_le hInv.vs.toVC hInv.ht hi)) <| fun v21 ch21 how21 => ?_
            obtain ⟨cs21, rfl, how21⟩ := how21
            rw [(recv_ok2 hInv hx16).2] at how21
            obtain ⟨v21_0, ch21, rfl, h21_0, rfl⟩ := how21
            obtain ⟨R21_0, b21_0, rfl, hR21_0, hrd21_0⟩ := h21_0.shape eChunk
            refine rw_F (F' := ch21 ++ (ch19 ++ (ca_ ++ (cb_ ++ (cc_ ++ (cd_ ++ (chg ++ (chp ++ ([]))))))))) (by simp only [aN]) <| MV Z Z <| XT Z Z Z <| XT Z Z Z <| AL Z tyZ_impl_Receiver <| fun b7 => ST (i := 0) [_, _, _, _, _, _] [_, _, _, _, _, _] tyS_impl_Receiver.sz Z Z Z Z Z Z Z Z <| AS Z Z <| ND <| gw_sub (Sub.cons (i := 0) Z (Sub.cons (i := 3) Z (Sub.cons (i := 5) Z (Sub.cons (i := 8) Z (Sub.cons (i := 9) Z (Sub.cons (i := 10) Z (Sub.cons (i := 16) Z (Sub.cons (i := 17) Z (Sub.cons (i := 18) Z (Sub.nil _)))))))))) <| ?_
            refine SQ <| SQ <| RG <| MV Z Z <| rw_neq Z Z Z <| ND <| CF Z (by decide) <| SK <| SQ <| RG <| LS (i := 0) [_, _, _, _, _, _] Z tyS_impl_Receiver Z Z Z Z <| ST (i := 3) [_, _, _, _, _, _] [_, _, _, _, _, _] tyS_impl_Receiver.sz Z Z Z Z Z Z Z Z <| ND <| RG <| LS (i := 5) [_, _, _, _, _, _, _, _, _, _, _, _] Z tyS_impl_Sender Z Z Z Z <| LS (i := 1) [_, _, _] Z tyS_impl_Piece Z Z Z Z <| CN1 Z fun_impl_AckPiece Z (fun w hs => impl_AckPiece (x := s) (p := x16) ⟨_, _, _, _, Z, ⟨_, _, Z, hrda0 _ (fun c hc => hs.at_ c (MR (MR (MR (ML hc)))))⟩, ⟨_, _, Z, hrda1 _ (fun c hc => hs.at_ c (MR (MR (MR (MR (ML hc))))))⟩, ⟨_, _, Z, hrda2 _ (fun c hc => hs.at_ c (MR (MR (MR (MR (MR (ML hc)))))))⟩, ⟨_, _, Z, hrda3 _ (fun c hc => hs.at_ c (MR (MR (MR (MR (MR (MR (ML hc))))))))⟩⟩ (setOk hInv hx16)) <| fun v22 ch22 how22 => ?_
            obtain ⟨cs22, rfl, how22⟩ := how22
            obtain ⟨v22_0, v22_1, v22_2, v22_3, c22_0, c22_1, c22_2, c22_3, rfl, h22_0, h22_1, h22_2, h22_3, rfl⟩ := how22
            obtain ⟨R22_0, b22_0, rfl, hR22_0, hrd22_0⟩ := h22_0.shape eInt
            obtain ⟨R22_1, b22_1, rfl, hR22_1, hrd22_1⟩ := h22_1.shape eRange
            obtain ⟨R22_2, b22_2, rfl, hR22_2, hrd22_2⟩ := h22_2.shape eRange
            obtain ⟨R22_3, b22_3, rfl, hR22_3, hrd22_3⟩ := h22_3.shape eRange
            refine rw_F (F' := c22_0 ++ (c22_1 ++ (c22_2 ++ (c22_3 ++ (ch21 ++ (ch19 ++ (ca_ ++ (cb_ ++ (cc_ ++ (cd_ ++ (chg ++ (chp ++ ([]))))))))))))) (by simp only [aA, aN]) <| rw_storeN (i := 5) [_, _, _, _, _, _, _, _, _, _, _, _] [_, _, _, _, _, _, _, _, _, _, _, _] [_, _, _, _, _, _] tyS_impl_Sender.sz Z Z Z Z Z Z Z Z Z <| ND <| IB <| IB <| RG <| MV Z Z <| rw_addK (((i + 1) : Nat) : Int) Z Z Z (by rw [show (((i + 1) : Nat) : Int) = (i : Int) + (1 : Int) from by omega]; exact w64_of (by omega) (by omega)) <| ?_
            refine AS Z Z <| ND <| ?_
            refine gw_dropF (F' := c22_0 ++ (c22_1 ++ (c22_2 ++ (c22_3 ++ (ch21 ++ (ch19 ++ ([]))))))) (List.Sublist.append_left (List.Sublist.append_left (List.Sublist.append_left (List.Sublist.append_left (List.Sublist.append_left (List.Sublist.append_left (List.nil_sublist _) _) _) _) _) _) _) <| gw_F (F' := (c22_0 ++ (c22_1 ++ (c22_2 ++ (c22_3)))) ++ (ch21 ++ (ch19 ++ ([])))) (by simp only [aA]) <| gw_dropN 3 <| ?_
            refine gw_sub (Sub.consE (i := 10) Z Z (Sub.consE (i := 9) Z Z (Sub.cons (i := 0) Z (Sub.cons (i := 3) Z (Sub.cons (i := 5) Z (Sub.cons (i := 8) Z (Sub.nil _))))))) (ih8 (i + 1, (ackP s x16), (ps.take k_ ++ ps.drop (k_ + 1)), (max hi (x16.offset + (x16.data.size : Int))), _, c22_0 ++ (c22_1 ++ (c22_2 ++ (c22_3))), _, ch21, v19, ch19) ?_ ?_)
            · refine ⟨by omega, owSender_mk h22_0 h22_1 h22_2 h22_3, owReceiver_mk h21_0, how19, ?_, ?_⟩
              · exact (ack_step hInv (out_ok hInv.ps hx16))
              · show ((ps.take k_ ++ ps.drop (k_ + 1))).length ≤ i + 1; first | omega | (simp only [List.length_append, List.length_take, List.length_drop]; omega)
            · show 60 - (i + 1) < 60 - i; omega
          intro hk1_ hk2_
          refine RG <| MV Z Z <| rw_lss Z Z Z <| MV Z Z <| ?_
          refine rw_caseL (j := 133) Z (fun h4 => ?_) (fun h4 => ?_)
          · refine ON Z Z Z <| MV Z Z <| ON Z Z Z <| MV Z Z <| ON Z Z Z <| rw_addK (((i + 11) : Nat) : Int) Z Z Z (by rw [show (((i + 11) : Nat) : Int) = (i : Int) + (11 : Int) from by omega]; exact w64_of (by omega) (by omega)) <| ON Z Z Z <| CV1 Z fun_laws_at Z (fun w hs => laws_at (hA.s Pl.keeps hs) hl (i := (i + 11)) (by omega)) <| ON Z Z Z <| rw_rem Z Z Z (by decide) <| ON Z Z Z <| EQ1 Z Z Z <| PT Z Z Z Z <| ND <| ?_
            refine gw_caseB (j := 140) Z (fun h5 => ?_) (fun h5 => ?_)
            · exact gw_sub (SubEnd (d := 140) rfl (congrArg Value.bool h5) (Sub.cons (i := 0) rfl (Sub.cons (i := 3) rfl (Sub.cons (i := 5) rfl (Sub.cons (i := 8) rfl (Sub.cons (i := 9) rfl (Sub.cons (i := 10) rfl (Sub.cons (i := 15) rfl (Sub.cons (i := 16) rfl (Sub.cons (i := 121) rfl (Sub.cons (i := 122) rfl (Sub.cons (i := 123) rfl (Sub.cons (i := 124) rfl (Sub.cons (i := 125) rfl (Sub.cons (i := 126) rfl (Sub.cons (i := 127) rfl (Sub.cons (i := 128) rfl (Sub.cons (i := 129) rfl (Sub.cons (i := 130) rfl (Sub.nil _)))))))))))))))))))) (hk1_ trivial)
            exact gw_sub (SubEnd (d := 140) rfl (congrArg Value.bool h5) (Sub.cons (i := 0) rfl (Sub.cons (i := 3) rfl (Sub.cons (i := 5) rfl (Sub.cons (i := 8) rfl (Sub.cons (i := 9) rfl (Sub.cons (i := 10) rfl (Sub.cons (i := 15) rfl (Sub.cons (i := 16) rfl (Sub.cons (i := 121) rfl (Sub.cons (i := 122) rfl (Sub.cons (i := 123) rfl (Sub.cons (i := 124) rfl (Sub.cons (i := 125) rfl (Sub.cons (i := 126) rfl (Sub.cons (i := 127) rfl (Sub.cons (i := 128) rfl (Sub.cons (i := 129) rfl (Sub.cons (i := 130) rfl (Sub.nil _)))))))))))))))))))) hk2_
          refine SKP Z <| PF Z Z Z Z <| ND <| ?_
          exact gw_sub (SubEnd (d := 140) rfl rfl (Sub.cons (i := 0) rfl (Sub.cons (i := 3) rfl (Sub.cons (i := 5) rfl (Sub.cons (i := 8) rfl (Sub.cons (i := 9) rfl (Sub.cons (i := 10) rfl (Sub.cons (i := 15) rfl (Sub.cons (i := 16) rfl (Sub.cons (i := 121) rfl (Sub.cons (i := 122) rfl (Sub.cons (i := 123) rfl (Sub.cons (i := 124) rfl (Sub.cons (i := 125) rfl (Sub.cons (i := 126) rfl (Sub.cons (i := 127) rfl (Sub.cons (i := 128) rfl (Sub.cons (i := 129) rfl (Sub.cons (i := 130) rfl (Sub.nil _)))))))))))))))))))) hk2_
        refine SK <| IB <| IB <| RG <| MV Z Z <| rw_addK (((i + 1) : Nat) : Int) Z Z Z (by rw [show (((i + 1) : Nat) : Int) = (i : Int) + (1 : Int) from by omega]; exact w64_of (by omega) (by omega)) <| AS Z Z <| ND <| ?_
        refine gw_F (F' := (ca_ ++ (cb_ ++ (cc_ ++ (cd_)))) ++ (chg ++ (chp ++ ([])))) (by simp only [aA]) <| gw_dropN 1 <| ?_
        refine gw_sub (Sub.consE (i := 10) Z Z (Sub.consE (i := 9) Z Z (Sub.cons (i := 0) Z (Sub.cons (i := 3) Z (Sub.cons (i := 5) Z (Sub.cons (i := 8) Z (Sub.nil _))))))) (ih8 (i + 1, s, ps, hi, _, ca_ ++ (cb_ ++ (cc_ ++ (cd_))), _, chg, .slice Rp ps.length bp, chp) ?_ ?_)
        · refine ⟨by omega, owSender_mk ha0 ha1 ha2 ha3, owReceiver_mk hg0, hP, ?_, ?_⟩
          · exact hInv
          · show (ps).length ≤ i + 1; first | omega | (simp only [List.length_append, List.length_take, List.length_drop, List.length_cons, List.length_nil]; omega)
        · show 60 - (i + 1) < 60 - i; omega
      intro hk1_ hk2_
      refine RG <| MV Z Z <| MV Z Z <| ?_
      refine rw_caseL (j := 80) Z (fun h6 => ?_) (fun h6 => ?_)
      · refine ON Z Z Z <| MV Z Z <| ON Z Z Z <| rw_len Z tyE_S_impl_Piece Z <| ON Z Z Z <| EQ1 Z Z Z <| ON Z Z Z <| MV Z Z <| ?_
        refine rw_caseL (j := 84) Z (fun h7 => ?_) (fun h7 => ?_)
        · have hnil23 := nil_of_eq h7
          refine SKP Z <| ON Z Z Z <| PT Z Z Z Z <| PT Z Z Z Z <| AS Z Z <| ND <| ?_
          exact gw_sub (SubEnd (d := 78) rfl rfl (Sub.cons (i := 0) rfl (Sub.cons (i := 3) rfl (Sub.cons (i := 5) rfl (Sub.cons (i := 8) rfl (Sub.cons (i := 9) rfl (Sub.cons (i := 10) rfl (Sub.cons (i := 11) rfl (Sub.cons (i := 12) rfl (Sub.cons (i := 64) rfl (Sub.cons (i := 65) rfl (Sub.cons (i := 68) rfl (Sub.cons (i := 69) rfl (Sub.cons (i := 70) rfl (Sub.cons (i := 71) rfl (Sub.cons (i := 72) rfl (Sub.cons (i := 73) rfl (Sub.cons (i := 74) rfl (Sub.cons (i := 75) rfl (Sub.cons (i := 76) rfl (Sub.cons (i := 77) rfl (Sub.nil _)))))))))))))))))))))) (hk1_ h6)
        have hpos24 := pos_of_ne h7
        refine ON Z Z Z <| MV Z Z <| ON Z Z Z <| MV Z Z <| ON Z Z Z <| rw_addK (((i + 7) : Nat) : Int) Z Z Z (by rw [show (((i + 7) : Nat) : Int) = (i : Int) + (7 : Int) from by omega]; exact w64_of (by omega) (by omega)) <| ON Z Z Z <| CV1 Z fun_laws_at Z (fun w hs => laws_at (hA.s Pl.keeps hs) hl (i := (i + 7)) (by omega)) <| ON Z Z Z <| rw_rem Z Z Z (by decide) <| ON Z Z Z <| rw_gtr Z Z Z <| ON Z Z Z <| PF Z Z Z Z <| PT Z Z Z Z <| ?_
        refine AS Z Z <| ND <| ?_
        refine gw_caseB (j := 78) Z (fun h8 => ?_) (fun h8 => ?_)
        · exact gw_sub (SubEnd (d := 78) rfl (congrArg Value.bool h8) (Sub.cons (i := 0) rfl (Sub.cons (i := 3) rfl (Sub.cons (i := 5) rfl (Sub.cons (i := 8) rfl (Sub.cons (i := 9) rfl (Sub.cons (i := 10) rfl (Sub.cons (i := 11) rfl (Sub.cons (i := 12) rfl (Sub.cons (i := 64) rfl (Sub.cons (i := 65) rfl (Sub.cons (i := 68) rfl (Sub.cons (i := 69) rfl (Sub.cons (i := 70) rfl (Sub.cons (i := 71) rfl (Sub.cons (i := 72) rfl (Sub.cons (i := 73) rfl (Sub.cons (i := 74) rfl (Sub.cons (i := 75) rfl (Sub.cons (i := 76) rfl (Sub.cons (i := 77) rfl (Sub.nil _)))))))))))))))))))))) (hk1_ h6)
        exact gw_sub (SubEnd (d := 78) rfl (congrArg Value.bool h8) (Sub.cons (i := 0) rfl (Sub.cons (i := 3) rfl (Sub.cons (i := 5) rfl (Sub.cons (i := 8) rfl (Sub.cons (i := 9) rfl (Sub.cons (i := 10) rfl (Sub.cons (i := 11) rfl (Sub.cons (i := 12) rfl (Sub.cons (i := 64) rfl (Sub.cons (i := 65) rfl (Sub.cons (i := 68) rfl (Sub.cons (i := 69) rfl (Sub.cons (i := 70) rfl (Sub.cons (i := 71) rfl (Sub.cons (i := 72) rfl (Sub.cons (i := 73) rfl (Sub.cons (i := 74) rfl (Sub.cons (i := 75) rfl (Sub.cons (i := 76) rfl (Sub.cons (i := 77) rfl (Sub.nil _)))))))))))))))))))))) hk2_
      refine SKP Z <| PF Z Z Z Z <| AS Z Z <| ND <| ?_
      exact gw_sub (SubEnd (d := 78) rfl rfl (Sub.cons (i := 0) rfl (Sub.cons (i := 3) rfl (Sub.cons (i := 5) rfl (Sub.cons (i := 8) rfl (Sub.cons (i := 9) rfl (Sub.cons (i := 10) rfl (Sub.cons (i := 11) rfl (Sub.cons (i := 12) rfl (Sub.cons (i := 64) rfl (Sub.cons (i := 65) rfl (Sub.cons (i := 68) rfl (Sub.cons (i := 69) rfl (Sub.cons (i := 70) rfl (Sub.cons (i := 71) rfl (Sub.cons (i := 72) rfl (Sub.cons (i := 73) rfl (Sub.cons (i := 74) rfl (Sub.cons (i := 75) rfl (Sub.cons (i := 76) rfl (Sub.cons (i := 77) rfl (Sub.nil _)))))))))))))))))))))) hk2_
    refine EX Z <| SQ <| SQ <| RG <| FA Z tyF_impl_Sender_0 Z <| LD (i := 2) Z tyP_int Z Z Z <| rw_neq Z Z Z <| ND <| ?_
    refine gw_condN Z (fun h9 => ?_) (fun h9 => ?_)
    · refine SQ <| RG <| AS Z Z <| ND <| RT Try.func3 Z Z <| ?_
      rfl
    have h3_ : s.state = 3 := by simpa using h9
    obtain ⟨hpe_, hrr_, h2e_, hTk_⟩ := take_end hInv h3_
    refine SK <| SQ <| RG <| LS (i := 0) [_, _, _, _, _, _] Z tyS_impl_Receiver Z Z Z Z <| CN1 Z fun_impl_ReadReceiver Z (fun w hs => impl_ReadReceiver (x := recvOf (abc.take n_) s hi) (D := (abc.take n_)) ⟨_, Z, ⟨_, _, Z, hrdg0 _ (fun c hc => hs.at_ c (MR (MR (MR (MR (MR (ML hc)))))))⟩⟩ hrr_ h2e_ hTk_) <| fun v26 ch26 how26 => ?_
    obtain ⟨ra0, ra1, rA, rm, rc, ra3, ra4, ra5, rfl⟩ := how26
    refine MV Z Z <| XT Z Z Z <| XT Z Z Z <| AL Z tyZ_impl_Receiver <| fun b8 => AS Z Z <| ST (i := 0) [_, _, _, _, _, _] [_, _, _, _, _, _] tyS_impl_Receiver.sz Z Z Z Z Z Z Z Z <| ND <| gw_sub (Sub.cons (i := 5) Z (Sub.cons (i := 8) Z (Sub.cons (i := 9) Z (Sub.cons (i := 19) Z (Sub.nil _))))) <| SQ <| RG <| FA Z tyF_impl_Receiver_0 Z <| LD (i := 1) Z tyP_int Z Z Z <| EQ1 Z Z Z <| MV Z Z <| rw_lit (j := 172) Z (by rw [h2e_]; rfl) <| ON Z Z Z <| ?_
    refine MV Z Z <| ON Z Z Z <| MV Z Z <| ON Z Z Z <| rw_sliceH (l := abc) n_ (abc.take n_) Z tyStr_string Z Z (congrArg (fun n : Nat => (n : Int)) (abc_len hn17_)) (show n_ ≤ 16 by omega) Z <| ON Z Z Z <| rw_eqlL (a := (abc.take n_)) (b := (abc.take n_)) Z Z Z <| PT Z Z Z Z <| MV Z Z <| rw_lit (j := 178) Z (beq_self_eq_true _) <| ON Z Z Z <| MV Z Z <| ON Z Z Z <| rw_len Z tyE_S_impl_Piece Z <| ON Z Z Z <| EQ1 Z Z Z <| ?_
    refine PT Z Z Z Z <| AS Z Z <| ND <| gw_sub (Sub.cons (i := 2) Z (Sub.nil _)) <| RT Try.func3 Z Z <| ?_
    exact congrArg Value.bool (by rw [hpe_]; rfl)
end Go.Proofs.Ytbhnekiclbfmgaa
