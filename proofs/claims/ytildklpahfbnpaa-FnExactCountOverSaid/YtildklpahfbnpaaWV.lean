/- Walks: senders, streams, what is over. -/
import Derived.Test.YtildklpahfbnpaaWV1
namespace Go.Proofs.Ytildklpahfbnpaa
open SL Go.RowKit
theorem impl_IsReceiver {w : World} {cs : List Value} {x : Receiver} (hv : RdReceiver w cs x) (hb : x.le 1048576) : CV Try.prog 119 [.agg cs.toArray] w (.bool (isReceiver x)) := by
  obtain ⟨v0, rfl, k0⟩ := hv
  obtain ⟨A0, c0, rfl, hA0⟩ := k0
  obtain ⟨hb0, hb1⟩ := hb
  refine cv_of Try.func119 rfl rfl rfl <| SQ <| RG <| BX [_, _, _, _, _, _] rfl rfl rfl <| fun b1 => AS rfl rfl <| ND <| SQ <| SQ <| gw_draw' [(0, .det), (1, .det), (2, .det), (3, .det), (4, .det), (5, .det), (6, .det), (7, .det), (8, .det), (9, .det), (10, .det), (11, .det), (12, .det), (13, .det), (14, .det), (15, .det), (16, .det), (17, .det), (18, .det), (19, .det), (20, .det), (21, .det), (22, .det), (23, .det), (24, .det), (25, .det), (26, .det), (27, .det), (28, .det), (29, .det), (30, .det), (31, .det), (32, .det)] [33, 34, 35, 36] mixed rfl (free_det (free_det (free_det (free_det (free_det (free_det (free_det (free_det (free_det (free_det (free_det (free_det (free_det (free_det (free_det (free_det (free_det (free_det (free_det (free_det (free_det (free_det (free_det (free_det (free_det (free_det (free_det (free_det (free_det (free_det (free_det (free_det (free_det free_nil))))))))))))))))))))))))))))))))) (ts := [_, _, _, _]) rfl <| ?_
  refine DT rfl rfl (fun K hk => FA rfl tyF_impl_Receiver_1 rfl hk) <| DT rfl rfl (fun K hk => LS (i := 0) [_, _] rfl tyS_impl_Buffer rfl rfl rfl rfl hk) <| DT rfl rfl (fun K hk => CV1 rfl fun_impl_IsBuffer rfl (fun w hs => impl_IsBuffer ⟨_, rfl, (hA0.s Pl.keeps hs)⟩ ⟨hb0, hb1⟩) hk) <| DT rfl rfl (fun K hk => NT rfl rfl hk) <| DT rfl rfl (fun K hk => MV rfl rfl hk) <| ?_
  refine dw_case (i := 8) rfl (fun h1 => ?_) (fun h1 => ?_)
  · replace h1 := of_not_T h1
    refine DT rfl rfl (fun K hk => OF rfl rfl (not_F h1) rfl hk) <| DT rfl rfl (fun K hk => OF rfl rfl (not_F h1) rfl hk) <| DT rfl rfl (fun K hk => OF rfl rfl (not_F h1) rfl hk) <| DT rfl rfl (fun K hk => OF rfl rfl (not_F h1) rfl hk) <| DT rfl rfl (fun K hk => OF rfl rfl (not_F h1) rfl hk) <| DT rfl rfl (fun K hk => OF rfl rfl (not_F h1) rfl hk) <| DT rfl rfl (fun K hk => PT rfl rfl (not_F h1) rfl hk) <| DT rfl rfl (fun K hk => MV rfl rfl hk) <| DT rfl rfl (fun K hk => OF rfl rfl rfl rfl hk) <| ?_
    refine DT rfl rfl (fun K hk => OF rfl rfl rfl rfl hk) <| DT rfl rfl (fun K hk => OF rfl rfl rfl rfl hk) <| DT rfl rfl (fun K hk => OF rfl rfl rfl rfl hk) <| DT rfl rfl (fun K hk => PT rfl rfl rfl rfl hk) <| DT rfl rfl (fun K hk => MV rfl rfl hk) <| DT rfl rfl (fun K hk => OF rfl rfl rfl rfl hk) <| DT rfl rfl (fun K hk => OF rfl rfl rfl rfl hk) <| DT rfl rfl (fun K hk => OF rfl rfl rfl rfl hk) <| DT rfl rfl (fun K hk => OF rfl rfl rfl rfl hk) <| DT rfl rfl (fun K hk => PT rfl rfl rfl rfl hk) <| ?_
    refine DT rfl rfl (fun K hk => MV rfl rfl hk) <| DT rfl rfl (fun K hk => OF rfl rfl rfl rfl hk) <| DT rfl rfl (fun K hk => OF rfl rfl rfl rfl hk) <| DT rfl rfl (fun K hk => OF rfl rfl rfl rfl hk) <| DT rfl rfl (fun K hk => OF rfl rfl rfl rfl hk) <| DT rfl rfl (fun K hk => OU rfl rfl rfl hk) <| DT rfl rfl (fun K hk => OU rfl rfl rfl hk) <| DT rfl rfl (fun K hk => OU rfl rfl rfl hk) <| DT rfl rfl (fun K hk => OU rfl rfl rfl hk) <| dw_nil <| OU rfl rfl rfl <| OU rfl rfl rfl <| ?_
    refine OF rfl rfl rfl rfl <| PT rfl rfl rfl rfl <| ND <| CT rfl rfl <| SQ <| RG <| AS rfl rfl <| ND <| ret_cv Try.func119 (res1 Try.func119 rfl (rv_tmp rfl)) <| ?_
    simp [isReceiver, maxQuic, h1]
  · replace h1 := of_not_F h1
    refine DT rfl rfl (fun K hk => ON rfl rfl (not_T h1) (FA rfl tyF_impl_Receiver_1 rfl hk)) <| DT rfl rfl (fun K hk => ON rfl rfl (not_T h1) (LS (i := 0) [_, _] rfl tyS_impl_Buffer rfl rfl rfl rfl hk)) <| DT rfl rfl (fun K hk => ON rfl rfl (not_T h1) (CV1 rfl fun_impl_EndOf rfl (fun w hs => impl_EndOf ⟨_, rfl, (hA0.s Pl.keeps hs)⟩ ⟨hb0, hb1⟩) hk)) <| DT rfl rfl (fun K hk => ON rfl rfl (not_T h1) (FA rfl tyF_impl_Receiver_3 rfl hk)) <| DT rfl rfl (fun K hk => ON rfl rfl (not_T h1) (LD (i := 0) rfl tyP_int rfl rfl rfl hk)) <| ?_
    refine DT rfl rfl (fun K hk => ON rfl rfl (not_T h1) (rw_gtr rfl rfl rfl hk)) <| DT rfl rfl (fun K hk => PF rfl rfl (not_T h1) rfl hk) <| DT rfl rfl (fun K hk => MV rfl rfl hk) <| ?_
    refine dw_case (i := 16) rfl (fun h2 => ?_) (fun h2 => ?_)
    · refine DT rfl rfl (fun K hk => OF rfl rfl h2 rfl hk) <| DT rfl rfl (fun K hk => OF rfl rfl h2 rfl hk) <| DT rfl rfl (fun K hk => OF rfl rfl h2 rfl hk) <| DT rfl rfl (fun K hk => OF rfl rfl h2 rfl hk) <| DT rfl rfl (fun K hk => PT rfl rfl h2 rfl hk) <| DT rfl rfl (fun K hk => MV rfl rfl hk) <| DT rfl rfl (fun K hk => OF rfl rfl rfl rfl hk) <| DT rfl rfl (fun K hk => OF rfl rfl rfl rfl hk) <| DT rfl rfl (fun K hk => OF rfl rfl rfl rfl hk) <| DT rfl rfl (fun K hk => OF rfl rfl rfl rfl hk) <| ?_
      refine DT rfl rfl (fun K hk => PT rfl rfl rfl rfl hk) <| DT rfl rfl (fun K hk => MV rfl rfl hk) <| DT rfl rfl (fun K hk => OF rfl rfl rfl rfl hk) <| DT rfl rfl (fun K hk => OF rfl rfl rfl rfl hk) <| DT rfl rfl (fun K hk => OF rfl rfl rfl rfl hk) <| DT rfl rfl (fun K hk => OF rfl rfl rfl rfl hk) <| DT rfl rfl (fun K hk => OU rfl rfl rfl hk) <| DT rfl rfl (fun K hk => OU rfl rfl rfl hk) <| DT rfl rfl (fun K hk => OU rfl rfl rfl hk) <| DT rfl rfl (fun K hk => OU rfl rfl rfl hk) <| ?_
      refine dw_nil <| OU rfl rfl rfl <| OU rfl rfl rfl <| OF rfl rfl rfl rfl <| PT rfl rfl rfl rfl <| ND <| CT rfl rfl <| SQ <| RG <| AS rfl rfl <| ND <| ret_cv Try.func119 (res1 Try.func119 rfl (rv_tmp rfl)) <| ?_
      simp [isReceiver, maxQuic, h1, h2]
    · refine DT rfl rfl (fun K hk => ON rfl rfl h2 (FA rfl tyF_impl_Receiver_3 rfl hk)) <| DT rfl rfl (fun K hk => ON rfl rfl h2 (LD (i := 0) rfl tyP_int rfl rfl rfl hk)) <| DT rfl rfl (fun K hk => ON rfl rfl h2 (CV1 rfl fun_impl_isQuic rfl (fun w hs => impl_isQuic _ w) hk)) <| DT rfl rfl (fun K hk => ON rfl rfl h2 (NT rfl rfl hk)) <| DT rfl rfl (fun K hk => PF rfl rfl h2 rfl hk) <| DT rfl rfl (fun K hk => MV rfl rfl hk) <| ?_
      refine dw_case (i := 22) rfl (fun h3 => ?_) (fun h3 => ?_)
      · replace h3 := of_not_T h3
        refine DT rfl rfl (fun K hk => OF rfl rfl (not_F h3) rfl hk) <| DT rfl rfl (fun K hk => OF rfl rfl (not_F h3) rfl hk) <| DT rfl rfl (fun K hk => OF rfl rfl (not_F h3) rfl hk) <| DT rfl rfl (fun K hk => OF rfl rfl (not_F h3) rfl hk) <| DT rfl rfl (fun K hk => PT rfl rfl (not_F h3) rfl hk) <| DT rfl rfl (fun K hk => MV rfl rfl hk) <| DT rfl rfl (fun K hk => OF rfl rfl rfl rfl hk) <| DT rfl rfl (fun K hk => OF rfl rfl rfl rfl hk) <| DT rfl rfl (fun K hk => OF rfl rfl rfl rfl hk) <| DT rfl rfl (fun K hk => OF rfl rfl rfl rfl hk) <| ?_
        refine DT rfl rfl (fun K hk => OU rfl rfl rfl hk) <| DT rfl rfl (fun K hk => OU rfl rfl rfl hk) <| DT rfl rfl (fun K hk => OU rfl rfl rfl hk) <| DT rfl rfl (fun K hk => OU rfl rfl rfl hk) <| dw_nil <| OU rfl rfl rfl <| OU rfl rfl rfl <| OF rfl rfl rfl rfl <| PT rfl rfl rfl rfl <| ND <| CT rfl rfl <| SQ <| RG <| AS rfl rfl <| ND <| ret_cv Try.func119 (res1 Try.func119 rfl (rv_tmp rfl)) <| ?_
        simp [isReceiver, maxQuic, h1, h2, h3]
      · replace h3 := of_not_F h3
        refine DT rfl rfl (fun K hk => ON rfl rfl (not_T h3) (FA rfl tyF_impl_Receiver_4 rfl hk)) <| DT rfl rfl (fun K hk => ON rfl rfl (not_T h3) (LD (i := 0) rfl tyP_int rfl rfl rfl hk)) <| DT rfl rfl (fun K hk => ON rfl rfl (not_T h3) (CV1 rfl fun_impl_isQuic rfl (fun w hs => impl_isQuic _ w) hk)) <| DT rfl rfl (fun K hk => ON rfl rfl (not_T h3) (NT rfl rfl hk)) <| DT rfl rfl (fun K hk => PF rfl rfl (not_T h3) rfl hk) <| DT rfl rfl (fun K hk => MV rfl rfl hk) <| ?_
        refine dw_case (i := 28) rfl (fun h4 => ?_) (fun h4 => ?_)
        · replace h4 := of_not_T h4
          refine DT rfl rfl (fun K hk => OF rfl rfl (not_F h4) rfl hk) <| DT rfl rfl (fun K hk => OF rfl rfl (not_F h4) rfl hk) <| DT rfl rfl (fun K hk => OF rfl rfl (not_F h4) rfl hk) <| DT rfl rfl (fun K hk => OF rfl rfl (not_F h4) rfl hk) <| DT rfl rfl (fun K hk => OU rfl rfl rfl hk) <| DT rfl rfl (fun K hk => OU rfl rfl rfl hk) <| DT rfl rfl (fun K hk => OU rfl rfl rfl hk) <| DT rfl rfl (fun K hk => OU rfl rfl rfl hk) <| dw_nil <| OU rfl rfl rfl <| OU rfl rfl rfl <| OF rfl rfl (not_F h4) rfl <| ?_
          refine PT rfl rfl (not_F h4) rfl <| ND <| CT rfl rfl <| SQ <| RG <| AS rfl rfl <| ND <| ret_cv Try.func119 (res1 Try.func119 rfl (rv_tmp rfl)) <| ?_
          simp [isReceiver, maxQuic, h1, h2, h3, h4]
        · replace h4 := of_not_F h4
          refine DT rfl rfl (fun K hk => ON rfl rfl (not_T h4) (FA rfl tyF_impl_Receiver_2 rfl hk)) <| DT rfl rfl (fun K hk => ON rfl rfl (not_T h4) (LD (i := 0) rfl tyP_int rfl rfl rfl hk)) <| DT rfl rfl (fun K hk => ON rfl rfl (not_T h4) (rw_neq rfl rfl rfl hk)) <| DT rfl rfl (fun K hk => ON rfl rfl (not_T h4) (MV rfl rfl hk)) <| ?_
          refine dw_case (i := 32) rfl (fun h5 => ?_) (fun h5 => ?_)
          · replace h5 := of_not_T h5
            refine DT rfl rfl (fun K hk => ON rfl rfl (not_F h5) (FA rfl tyF_impl_Receiver_2 rfl hk)) <| DT rfl rfl (fun K hk => ON rfl rfl (not_F h5) (LD (i := 0) rfl tyP_int rfl rfl rfl hk)) <| DT rfl rfl (fun K hk => ON rfl rfl (not_F h5) (FA rfl tyF_impl_Receiver_3 rfl hk)) <| DT rfl rfl (fun K hk => ON rfl rfl (not_F h5) (LD (i := 0) rfl tyP_int rfl rfl rfl hk)) <| dw_nil <| ON rfl rfl (not_F h5) <| CV1 rfl fun_impl_within rfl (fun w hs => impl_within _ _ _ w) <| ON rfl rfl (not_F h5) <| ?_
            refine NT rfl rfl <| ON rfl rfl (not_T h4) <| PT rfl rfl (not_F h5) rfl <| PF rfl rfl (not_T h4) rfl <| ND <| ?_
            refine gw_cond rfl (fun h6 => ?_) (fun h6 => ?_)
            · replace h6 := of_not_T h6
              refine SQ <| RG <| AS rfl rfl <| ND <| ret_cv Try.func119 (res1 Try.func119 rfl (rv_tmp rfl)) <| ?_
              simp [isReceiver, maxQuic, h1, h2, h3, h4, h5, h6]
            · replace h6 := of_not_F h6
              refine SK <| SQ <| gw_draw' [(0, .det), (1, .det), (2, .det), (3, .det), (4, .det), (5, .det), (6, .det), (7, .det), (8, .det)] [9, 10, 11] mixed rfl (free_det (free_det (free_det (free_det (free_det (free_det (free_det (free_det (free_det free_nil))))))))) (ts := [_, _, _]) rfl <| DT rfl rfl (fun K hk => FA rfl tyF_impl_Receiver_2 rfl hk) <| DT rfl rfl (fun K hk => LD (i := 0) rfl tyP_int rfl rfl rfl hk) <| DT rfl rfl (fun K hk => rw_neq rfl rfl rfl hk) <| DT rfl rfl (fun K hk => MV rfl rfl hk) <| ?_
              refine dw_case (i := 44) rfl (fun h7 => ?_) (fun h7 => ?_)
              · replace h7 := of_not_T h7
                refine DT rfl rfl (fun K hk => ON rfl rfl (not_F h7) (FA rfl tyF_impl_Receiver_1 rfl hk)) <| DT rfl rfl (fun K hk => ON rfl rfl (not_F h7) (LS (i := 0) [_, _] rfl tyS_impl_Buffer rfl rfl rfl rfl hk)) <| DT rfl rfl (fun K hk => ON rfl rfl (not_F h7) (CV1 rfl fun_impl_readyEnd rfl (fun w hs => impl_readyEnd ⟨_, rfl, (hA0.s Pl.keeps hs)⟩ ⟨hb0, hb1⟩) hk)) <| DT rfl rfl (fun K hk => ON rfl rfl (not_F h7) (FA rfl tyF_impl_Receiver_2 rfl hk)) <| DT rfl rfl (fun K hk => ON rfl rfl (not_F h7) (LD (i := 0) rfl tyP_int rfl rfl rfl hk)) <| ?_
                refine dw_nil <| ON rfl rfl (not_F h7) <| EQ1 rfl rfl rfl <| PT rfl rfl (not_F h7) rfl <| AS rfl rfl <| ND <| SQ <| SQ <| RG <| FA rfl tyF_impl_Receiver_0 rfl <| LD (i := 0) rfl tyP_int rfl rfl rfl <| ND <| BK <| SQ <| RG <| EQ1 rfl rfl rfl <| AS rfl rfl <| ND <| ?_
                refine gw_cond rfl (fun h8 => ?_) (fun h8 => ?_)
                · refine SQ <| RG <| FA rfl tyF_impl_Receiver_2 rfl <| LD (i := 0) rfl tyP_int rfl rfl rfl <| EQ1 rfl rfl rfl <| MV rfl rfl <| ?_
                  refine rw_case (j := 59) rfl (fun h9 => ?_) (fun h9 => ?_)
                  · refine ON rfl rfl h9 <| FA rfl tyF_impl_Receiver_4 rfl <| ON rfl rfl h9 <| LD (i := 0) rfl tyP_int rfl rfl rfl <| ON rfl rfl h9 <| EQ1 rfl rfl rfl <| PT rfl rfl h9 rfl <| AS rfl rfl <| ND <| ret_cv Try.func119 (res1 Try.func119 rfl (rv_tmp rfl)) <| ?_
                    simp_all []
                  · refine OF rfl rfl h9 rfl <| OF rfl rfl h9 rfl <| OF rfl rfl h9 rfl <| PF rfl rfl h9 rfl <| AS rfl rfl <| ND <| ret_cv Try.func119 (res1 Try.func119 rfl (rv_tmp rfl)) <| ?_
                    simp [isReceiver, maxQuic, h1, h2, h3, h4, h5, h6, h8]
                · refine SQ <| RG <| EQ1 rfl rfl rfl <| AS rfl rfl <| ND <| ?_
                  refine gw_cond rfl (fun h10 => ?_) (fun h10 => ?_)
                  · refine SQ <| RG <| FA rfl tyF_impl_Receiver_2 rfl <| LD (i := 0) rfl tyP_int rfl rfl rfl <| rw_neq rfl rfl rfl <| MV rfl rfl <| ?_
                    refine rw_case (j := 69) rfl (fun h11 => ?_) (fun h11 => ?_)
                    · replace h11 := of_not_T h11
                      refine ON rfl rfl (not_F h11) <| MV rfl rfl <| ON rfl rfl (not_F h11) <| NT rfl rfl <| PT rfl rfl (not_F h11) rfl <| MV rfl rfl <| ?_
                      refine rw_case (j := 73) rfl (fun h12 => ?_) (fun h12 => ?_)
                      · replace h12 := of_not_T h12
                        refine ON rfl rfl (not_F h12) <| FA rfl tyF_impl_Receiver_4 rfl <| ON rfl rfl (not_F h12) <| LD (i := 0) rfl tyP_int rfl rfl rfl <| ON rfl rfl (not_F h12) <| EQ1 rfl rfl rfl <| PT rfl rfl (not_F h12) rfl <| AS rfl rfl <| ND <| ret_cv Try.func119 (res1 Try.func119 rfl (rv_tmp rfl)) <| ?_
                        simp [isReceiver, maxQuic, h1, h2, h3, h4, h5, h6, h8, h10, h12]
                      · replace h12 := of_not_F h12
                        refine OF rfl rfl (not_T h12) rfl <| OF rfl rfl (not_T h12) rfl <| OF rfl rfl (not_T h12) rfl <| PF rfl rfl (not_T h12) rfl <| AS rfl rfl <| ND <| ret_cv Try.func119 (res1 Try.func119 rfl (rv_tmp rfl)) <| ?_
                        simp [isReceiver, maxQuic, h1, h2, h3, h4, h5, h6, h8, h10, h12]
                    · replace h11 := of_not_F h11
                      refine OF rfl rfl (not_T h11) rfl <| OF rfl rfl (not_T h11) rfl <| PF rfl rfl (not_T h11) rfl <| MV rfl rfl <| OF rfl rfl rfl rfl <| OF rfl rfl rfl rfl <| OF rfl rfl rfl rfl <| PF rfl rfl rfl rfl <| AS rfl rfl <| ND <| ret_cv Try.func119 (res1 Try.func119 rfl (rv_tmp rfl)) <| ?_
                      simp_all []
                  · refine SQ <| RG <| EQ1 rfl rfl rfl <| AS rfl rfl <| ND <| ?_
                    refine gw_cond rfl (fun h13 => ?_) (fun h13 => ?_)
                    · refine SQ <| RG <| MV rfl rfl <| MV rfl rfl <| ?_
                      refine rw_case (j := 81) rfl (fun h14 => ?_) (fun h14 => ?_)
                      · refine ON rfl rfl h14 <| FA rfl tyF_impl_Receiver_4 rfl <| ON rfl rfl h14 <| LD (i := 0) rfl tyP_int rfl rfl rfl <| ON rfl rfl h14 <| EQ1 rfl rfl rfl <| PT rfl rfl h14 rfl <| AS rfl rfl <| ND <| ret_cv Try.func119 (res1 Try.func119 rfl (rv_tmp rfl)) <| ?_
                        simp [isReceiver, maxQuic, h1, h2, h3, h4, h5, h6, h8, h10, h13, h14]
                      · refine OF rfl rfl h14 rfl <| OF rfl rfl h14 rfl <| OF rfl rfl h14 rfl <| PF rfl rfl h14 rfl <| AS rfl rfl <| ND <| ret_cv Try.func119 (res1 Try.func119 rfl (rv_tmp rfl)) <| ?_
                        simp [isReceiver, maxQuic, h1, h2, h3, h4, h5, h6, h8, h10, h13, h14]
                    · refine SQ <| RG <| EQ1 rfl rfl rfl <| AS rfl rfl <| ND <| ?_
                      refine gw_cond rfl (fun h15 => ?_) (fun h15 => ?_)
                      · refine SQ <| RG <| MV rfl rfl <| MV rfl rfl <| ?_
                        refine rw_case (j := 89) rfl (fun h16 => ?_) (fun h16 => ?_)
                        · refine ON rfl rfl h16 <| FA rfl tyF_impl_Receiver_4 rfl <| ON rfl rfl h16 <| LD (i := 0) rfl tyP_int rfl rfl rfl <| ON rfl rfl h16 <| EQ1 rfl rfl rfl <| PT rfl rfl h16 rfl <| MV rfl rfl <| ?_
                          refine rw_case (j := 94) rfl (fun h17 => ?_) (fun h17 => ?_)
                          · refine ON rfl rfl h17 <| FA rfl tyF_impl_Receiver_1 rfl <| ON rfl rfl h17 <| FA rfl tyF_impl_Buffer_1 rfl <| ON rfl rfl h17 <| LD (i := 0) rfl tyP_S_impl_Chunk rfl rfl rfl <| ON rfl rfl h17 <| rw_len rfl tyE_S_impl_Chunk rfl <| ON rfl rfl h17 <| EQ1 rfl rfl rfl <| PT rfl rfl h17 rfl <| AS rfl rfl <| ND <| ret_cv Try.func119 (res1 Try.func119 rfl (rv_tmp rfl)) <| ?_
                            simp [isReceiver, maxQuic, h1, h2, h3, h4, h5, h6, h8, h10, h13, h15, h16, h17]
                          · refine OF rfl rfl h17 rfl <| OF rfl rfl h17 rfl <| OF rfl rfl h17 rfl <| OF rfl rfl h17 rfl <| OF rfl rfl h17 rfl <| PF rfl rfl h17 rfl <| AS rfl rfl <| ND <| ret_cv Try.func119 (res1 Try.func119 rfl (rv_tmp rfl)) <| ?_
                            simp [isReceiver, maxQuic, h1, h2, h3, h4, h5, h6, h8, h10, h13, h15, h16, h17]
                        · refine OF rfl rfl h16 rfl <| OF rfl rfl h16 rfl <| OF rfl rfl h16 rfl <| PF rfl rfl h16 rfl <| MV rfl rfl <| OF rfl rfl rfl rfl <| OF rfl rfl rfl rfl <| OF rfl rfl rfl rfl <| OF rfl rfl rfl rfl <| OF rfl rfl rfl rfl <| PF rfl rfl rfl rfl <| AS rfl rfl <| ND <| ret_cv Try.func119 (res1 Try.func119 rfl (rv_tmp rfl)) <| ?_
                          simp [isReceiver, maxQuic, h1, h2, h3, h4, h5, h6, h8, h10, h13, h15, h16]
                      · refine SQ <| SQ <| RG <| EQ1 rfl rfl rfl <| AS rfl rfl <| ND <| ?_
                        refine gw_cond rfl (fun h18 => ?_) (fun h18 => ?_)
                        · refine SK <| CT rfl h18 <| SQ <| RG <| FA rfl tyF_impl_Receiver_2 rfl <| LD (i := 0) rfl tyP_int rfl rfl rfl <| FA rfl tyF_impl_Receiver_3 rfl <| LD (i := 0) rfl tyP_int rfl rfl rfl <| EQ1 rfl rfl rfl <| MV rfl rfl <| ?_
                          refine rw_case (j := 109) rfl (fun h19 => ?_) (fun h19 => ?_)
                          · refine ON rfl rfl h19 <| FA rfl tyF_impl_Receiver_1 rfl <| ON rfl rfl h19 <| FA rfl tyF_impl_Buffer_1 rfl <| ON rfl rfl h19 <| LD (i := 0) rfl tyP_S_impl_Chunk rfl rfl rfl <| ON rfl rfl h19 <| rw_len rfl tyE_S_impl_Chunk rfl <| ON rfl rfl h19 <| EQ1 rfl rfl rfl <| PT rfl rfl h19 rfl <| AS rfl rfl <| ND <| ret_cv Try.func119 (res1 Try.func119 rfl (rv_tmp rfl)) <| ?_
                            simp [isReceiver, maxQuic, h1, h2, h3, h4, h5, h6, h8, h10, h13, h15, h18, h19]
                          · refine OF rfl rfl h19 rfl <| OF rfl rfl h19 rfl <| OF rfl rfl h19 rfl <| OF rfl rfl h19 rfl <| OF rfl rfl h19 rfl <| PF rfl rfl h19 rfl <| AS rfl rfl <| ND <| ret_cv Try.func119 (res1 Try.func119 rfl (rv_tmp rfl)) <| ?_
                            simp [isReceiver, maxQuic, h1, h2, h3, h4, h5, h6, h8, h10, h13, h15, h18, h19]
                        · refine RG <| EQ1 rfl rfl rfl <| AS rfl rfl <| ND <| ?_
                          refine gw_cond rfl (fun h20 => ?_) (fun h20 => ?_)
                          · refine SQ <| RG <| FA rfl tyF_impl_Receiver_2 rfl <| LD (i := 0) rfl tyP_int rfl rfl rfl <| FA rfl tyF_impl_Receiver_3 rfl <| LD (i := 0) rfl tyP_int rfl rfl rfl <| EQ1 rfl rfl rfl <| MV rfl rfl <| ?_
                            refine rw_case (j := 109) rfl (fun h21 => ?_) (fun h21 => ?_)
                            · refine ON rfl rfl h21 <| FA rfl tyF_impl_Receiver_1 rfl <| ON rfl rfl h21 <| FA rfl tyF_impl_Buffer_1 rfl <| ON rfl rfl h21 <| LD (i := 0) rfl tyP_S_impl_Chunk rfl rfl rfl <| ON rfl rfl h21 <| rw_len rfl tyE_S_impl_Chunk rfl <| ON rfl rfl h21 <| EQ1 rfl rfl rfl <| PT rfl rfl h21 rfl <| AS rfl rfl <| ND <| ret_cv Try.func119 (res1 Try.func119 rfl (rv_tmp rfl)) <| ?_
                              simp [isReceiver, maxQuic, h1, h2, h3, h4, h5, h6, h8, h10, h13, h15, h18, h20, h21]
                            · refine OF rfl rfl h21 rfl <| OF rfl rfl h21 rfl <| OF rfl rfl h21 rfl <| OF rfl rfl h21 rfl <| OF rfl rfl h21 rfl <| PF rfl rfl h21 rfl <| AS rfl rfl <| ND <| ret_cv Try.func119 (res1 Try.func119 rfl (rv_tmp rfl)) <| ?_
                              simp [isReceiver, maxQuic, h1, h2, h3, h4, h5, h6, h8, h10, h13, h15, h18, h20, h21]
                          · refine SK <| IB <| SQ <| RG <| AS rfl rfl <| ND <| ret_cv Try.func119 (res1 Try.func119 rfl (rv_tmp rfl)) <| ?_
                            simp [isReceiver, maxQuic, h1, h2, h3, h4, h5, h6, h8, h10, h13, h15, h18, h20]
              · replace h7 := of_not_F h7
                refine DT rfl rfl (fun K hk => OF rfl rfl (not_T h7) rfl hk) <| DT rfl rfl (fun K hk => OF rfl rfl (not_T h7) rfl hk) <| DT rfl rfl (fun K hk => OF rfl rfl (not_T h7) rfl hk) <| DT rfl rfl (fun K hk => OF rfl rfl (not_T h7) rfl hk) <| DT rfl rfl (fun K hk => OF rfl rfl (not_T h7) rfl hk) <| dw_nil <| OF rfl rfl (not_T h7) rfl <| PF rfl rfl (not_T h7) rfl <| AS rfl rfl <| ND <| SQ <| SQ <| RG <| FA rfl tyF_impl_Receiver_0 rfl <| LD (i := 0) rfl tyP_int rfl rfl rfl <| ND <| BK <| SQ <| ?_
                refine RG <| EQ1 rfl rfl rfl <| AS rfl rfl <| ND <| ?_
                refine gw_cond rfl (fun h22 => ?_) (fun h22 => ?_)
                · refine SQ <| RG <| FA rfl tyF_impl_Receiver_2 rfl <| LD (i := 0) rfl tyP_int rfl rfl rfl <| EQ1 rfl rfl rfl <| MV rfl rfl <| ?_
                  refine rw_case (j := 59) rfl (fun h23 => ?_) (fun h23 => ?_)
                  · refine ON rfl rfl h23 <| FA rfl tyF_impl_Receiver_4 rfl <| ON rfl rfl h23 <| LD (i := 0) rfl tyP_int rfl rfl rfl <| ON rfl rfl h23 <| EQ1 rfl rfl rfl <| PT rfl rfl h23 rfl <| AS rfl rfl <| ND <| ret_cv Try.func119 (res1 Try.func119 rfl (rv_tmp rfl)) <| ?_
                    simp_all []
                  · refine OF rfl rfl h23 rfl <| OF rfl rfl h23 rfl <| OF rfl rfl h23 rfl <| PF rfl rfl h23 rfl <| AS rfl rfl <| ND <| ret_cv Try.func119 (res1 Try.func119 rfl (rv_tmp rfl)) <| ?_
                    simp [isReceiver, maxQuic, h1, h2, h3, h4, h5, h6, h22]
                · refine SQ <| RG <| EQ1 rfl rfl rfl <| AS rfl rfl <| ND <| ?_
                  refine gw_cond rfl (fun h24 => ?_) (fun h24 => ?_)
                  · refine SQ <| RG <| FA rfl tyF_impl_Receiver_2 rfl <| LD (i := 0) rfl tyP_int rfl rfl rfl <| rw_neq rfl rfl rfl <| MV rfl rfl <| ?_
                    refine rw_case (j := 69) rfl (fun h25 => ?_) (fun h25 => ?_)
                    · replace h25 := of_not_T h25
                      refine ON rfl rfl (not_F h25) <| MV rfl rfl <| ON rfl rfl (not_F h25) <| NT rfl rfl <| PT rfl rfl (not_F h25) rfl <| MV rfl rfl <| ON rfl rfl rfl <| FA rfl tyF_impl_Receiver_4 rfl <| ON rfl rfl rfl <| LD (i := 0) rfl tyP_int rfl rfl rfl <| ON rfl rfl rfl <| EQ1 rfl rfl rfl <| PT rfl rfl rfl rfl <| AS rfl rfl <| ND <| ret_cv Try.func119 (res1 Try.func119 rfl (rv_tmp rfl)) <| ?_
                      simp_all []
                    · replace h25 := of_not_F h25
                      refine OF rfl rfl (not_T h25) rfl <| OF rfl rfl (not_T h25) rfl <| PF rfl rfl (not_T h25) rfl <| MV rfl rfl <| OF rfl rfl rfl rfl <| OF rfl rfl rfl rfl <| OF rfl rfl rfl rfl <| PF rfl rfl rfl rfl <| AS rfl rfl <| ND <| ret_cv Try.func119 (res1 Try.func119 rfl (rv_tmp rfl)) <| ?_
                      simp_all []
                  · refine SQ <| RG <| EQ1 rfl rfl rfl <| AS rfl rfl <| ND <| ?_
                    refine gw_cond rfl (fun h26 => ?_) (fun h26 => ?_)
                    · refine SQ <| RG <| MV rfl rfl <| MV rfl rfl <| OF rfl rfl rfl rfl <| OF rfl rfl rfl rfl <| OF rfl rfl rfl rfl <| PF rfl rfl rfl rfl <| AS rfl rfl <| ND <| ret_cv Try.func119 (res1 Try.func119 rfl (rv_tmp rfl)) <| ?_
                      simp_all []
                    · refine SQ <| RG <| EQ1 rfl rfl rfl <| AS rfl rfl <| ND <| ?_
                      refine gw_cond rfl (fun h27 => ?_) (fun h27 => ?_)
                      · refine SQ <| RG <| MV rfl rfl <| MV rfl rfl <| OF rfl rfl rfl rfl <| OF rfl rfl rfl rfl <| OF rfl rfl rfl rfl <| PF rfl rfl rfl rfl <| MV rfl rfl <| OF rfl rfl rfl rfl <| OF rfl rfl rfl rfl <| OF rfl rfl rfl rfl <| OF rfl rfl rfl rfl <| OF rfl rfl rfl rfl <| PF rfl rfl rfl rfl <| AS rfl rfl <| ND <| ret_cv Try.func119 (res1 Try.func119 rfl (rv_tmp rfl)) <| ?_
                        simp_all []
                      · refine SQ <| SQ <| RG <| EQ1 rfl rfl rfl <| AS rfl rfl <| ND <| ?_
                        refine gw_cond rfl (fun h28 => ?_) (fun h28 => ?_)
                        · refine SK <| CT rfl h28 <| SQ <| RG <| FA rfl tyF_impl_Receiver_2 rfl <| LD (i := 0) rfl tyP_int rfl rfl rfl <| FA rfl tyF_impl_Receiver_3 rfl <| LD (i := 0) rfl tyP_int rfl rfl rfl <| EQ1 rfl rfl rfl <| MV rfl rfl <| ?_
                          refine rw_case (j := 109) rfl (fun h29 => ?_) (fun h29 => ?_)
                          · refine ON rfl rfl h29 <| FA rfl tyF_impl_Receiver_1 rfl <| ON rfl rfl h29 <| FA rfl tyF_impl_Buffer_1 rfl <| ON rfl rfl h29 <| LD (i := 0) rfl tyP_S_impl_Chunk rfl rfl rfl <| ON rfl rfl h29 <| rw_len rfl tyE_S_impl_Chunk rfl <| ON rfl rfl h29 <| EQ1 rfl rfl rfl <| PT rfl rfl h29 rfl <| AS rfl rfl <| ND <| ret_cv Try.func119 (res1 Try.func119 rfl (rv_tmp rfl)) <| ?_
                            simp [isReceiver, maxQuic, h1, h2, h3, h4, h5, h6, h22, h24, h26, h27, h28, h29]
                          · refine OF rfl rfl h29 rfl <| OF rfl rfl h29 rfl <| OF rfl rfl h29 rfl <| OF rfl rfl h29 rfl <| OF rfl rfl h29 rfl <| PF rfl rfl h29 rfl <| AS rfl rfl <| ND <| ret_cv Try.func119 (res1 Try.func119 rfl (rv_tmp rfl)) <| ?_
                            simp [isReceiver, maxQuic, h1, h2, h3, h4, h5, h6, h22, h24, h26, h27, h28, h29]
                        · refine RG <| EQ1 rfl rfl rfl <| AS rfl rfl <| ND <| ?_
                          refine gw_cond rfl (fun h30 => ?_) (fun h30 => ?_)
                          · refine SQ <| RG <| FA rfl tyF_impl_Receiver_2 rfl <| LD (i := 0) rfl tyP_int rfl rfl rfl <| FA rfl tyF_impl_Receiver_3 rfl <| LD (i := 0) rfl tyP_int rfl rfl rfl <| EQ1 rfl rfl rfl <| MV rfl rfl <| ?_
                            refine rw_case (j := 109) rfl (fun h31 => ?_) (fun h31 => ?_)
                            · refine ON rfl rfl h31 <| FA rfl tyF_impl_Receiver_1 rfl <| ON rfl rfl h31 <| FA rfl tyF_impl_Buffer_1 rfl <| ON rfl rfl h31 <| LD (i := 0) rfl tyP_S_impl_Chunk rfl rfl rfl <| ON rfl rfl h31 <| rw_len rfl tyE_S_impl_Chunk rfl <| ON rfl rfl h31 <| EQ1 rfl rfl rfl <| PT rfl rfl h31 rfl <| AS rfl rfl <| ND <| ret_cv Try.func119 (res1 Try.func119 rfl (rv_tmp rfl)) <| ?_
                              simp [isReceiver, maxQuic, h1, h2, h3, h4, h5, h6, h22, h24, h26, h27, h28, h30, h31]
                            · refine OF rfl rfl h31 rfl <| OF rfl rfl h31 rfl <| OF rfl rfl h31 rfl <| OF rfl rfl h31 rfl <| OF rfl rfl h31 rfl <| PF rfl rfl h31 rfl <| AS rfl rfl <| ND <| ret_cv Try.func119 (res1 Try.func119 rfl (rv_tmp rfl)) <| ?_
                              simp [isReceiver, maxQuic, h1, h2, h3, h4, h5, h6, h22, h24, h26, h27, h28, h30, h31]
                          · refine SK <| IB <| SQ <| RG <| AS rfl rfl <| ND <| ret_cv Try.func119 (res1 Try.func119 rfl (rv_tmp rfl)) <| ?_
                            simp [isReceiver, maxQuic, h1, h2, h3, h4, h5, h6, h22, h24, h26, h27, h28, h30]
          · replace h5 := of_not_F h5
            refine DT rfl rfl (fun K hk => OF rfl rfl (not_T h5) rfl hk) <| DT rfl rfl (fun K hk => OF rfl rfl (not_T h5) rfl hk) <| DT rfl rfl (fun K hk => OF rfl rfl (not_T h5) rfl hk) <| DT rfl rfl (fun K hk => OF rfl rfl (not_T h5) rfl hk) <| dw_nil <| OF rfl rfl (not_T h5) rfl <| OF rfl rfl (not_T h5) rfl <| ON rfl rfl (not_T h4) <| PF rfl rfl (not_T h5) rfl <| PF rfl rfl (not_T h4) rfl <| ND <| CF rfl rfl <| SK <| SQ <| gw_draw' [(0, .det), (1, .det), (2, .det), (3, .det), (4, .det), (5, .det), (6, .det), (7, .det), (8, .det)] [9, 10, 11] mixed rfl (free_det (free_det (free_det (free_det (free_det (free_det (free_det (free_det (free_det free_nil))))))))) (ts := [_, _, _]) rfl <| ?_
            refine DT rfl rfl (fun K hk => FA rfl tyF_impl_Receiver_2 rfl hk) <| DT rfl rfl (fun K hk => LD (i := 0) rfl tyP_int rfl rfl rfl hk) <| DT rfl rfl (fun K hk => rw_neq rfl rfl rfl hk) <| DT rfl rfl (fun K hk => MV rfl rfl hk) <| ?_
            refine dw_case (i := 44) rfl (fun h32 => ?_) (fun h32 => ?_)
            · replace h32 := of_not_T h32
              refine DT rfl rfl (fun K hk => ON rfl rfl (not_F h32) (FA rfl tyF_impl_Receiver_1 rfl hk)) <| DT rfl rfl (fun K hk => ON rfl rfl (not_F h32) (LS (i := 0) [_, _] rfl tyS_impl_Buffer rfl rfl rfl rfl hk)) <| DT rfl rfl (fun K hk => ON rfl rfl (not_F h32) (CV1 rfl fun_impl_readyEnd rfl (fun w hs => impl_readyEnd ⟨_, rfl, (hA0.s Pl.keeps hs)⟩ ⟨hb0, hb1⟩) hk)) <| DT rfl rfl (fun K hk => ON rfl rfl (not_F h32) (FA rfl tyF_impl_Receiver_2 rfl hk)) <| DT rfl rfl (fun K hk => ON rfl rfl (not_F h32) (LD (i := 0) rfl tyP_int rfl rfl rfl hk)) <| ?_
              refine dw_nil <| ON rfl rfl (not_F h32) <| EQ1 rfl rfl rfl <| PT rfl rfl (not_F h32) rfl <| AS rfl rfl <| ND <| SQ <| SQ <| RG <| FA rfl tyF_impl_Receiver_0 rfl <| LD (i := 0) rfl tyP_int rfl rfl rfl <| ND <| BK <| SQ <| RG <| EQ1 rfl rfl rfl <| AS rfl rfl <| ND <| ?_
              refine gw_cond rfl (fun h33 => ?_) (fun h33 => ?_)
              · refine SQ <| RG <| FA rfl tyF_impl_Receiver_2 rfl <| LD (i := 0) rfl tyP_int rfl rfl rfl <| EQ1 rfl rfl rfl <| MV rfl rfl <| ?_
                refine rw_case (j := 59) rfl (fun h34 => ?_) (fun h34 => ?_)
                · refine ON rfl rfl h34 <| FA rfl tyF_impl_Receiver_4 rfl <| ON rfl rfl h34 <| LD (i := 0) rfl tyP_int rfl rfl rfl <| ON rfl rfl h34 <| EQ1 rfl rfl rfl <| PT rfl rfl h34 rfl <| AS rfl rfl <| ND <| ret_cv Try.func119 (res1 Try.func119 rfl (rv_tmp rfl)) <| ?_
                  simp [isReceiver, maxQuic, h1, h2, h3, h4, h5, h33]
                · refine OF rfl rfl h34 rfl <| OF rfl rfl h34 rfl <| OF rfl rfl h34 rfl <| PF rfl rfl h34 rfl <| AS rfl rfl <| ND <| ret_cv Try.func119 (res1 Try.func119 rfl (rv_tmp rfl)) <| ?_
                  simp_all []
              · refine SQ <| RG <| EQ1 rfl rfl rfl <| AS rfl rfl <| ND <| ?_
                refine gw_cond rfl (fun h35 => ?_) (fun h35 => ?_)
                · refine SQ <| RG <| FA rfl tyF_impl_Receiver_2 rfl <| LD (i := 0) rfl tyP_int rfl rfl rfl <| rw_neq rfl rfl rfl <| MV rfl rfl <| ?_
                  refine rw_case (j := 69) rfl (fun h36 => ?_) (fun h36 => ?_)
                  · replace h36 := of_not_T h36
                    refine ON rfl rfl (not_F h36) <| MV rfl rfl <| ON rfl rfl (not_F h36) <| NT rfl rfl <| PT rfl rfl (not_F h36) rfl <| MV rfl rfl <| ?_
                    refine rw_case (j := 73) rfl (fun h37 => ?_) (fun h37 => ?_)
                    · replace h37 := of_not_T h37
                      refine ON rfl rfl (not_F h37) <| FA rfl tyF_impl_Receiver_4 rfl <| ON rfl rfl (not_F h37) <| LD (i := 0) rfl tyP_int rfl rfl rfl <| ON rfl rfl (not_F h37) <| EQ1 rfl rfl rfl <| PT rfl rfl (not_F h37) rfl <| AS rfl rfl <| ND <| ret_cv Try.func119 (res1 Try.func119 rfl (rv_tmp rfl)) <| ?_
                      simp_all []
                    · replace h37 := of_not_F h37
                      refine OF rfl rfl (not_T h37) rfl <| OF rfl rfl (not_T h37) rfl <| OF rfl rfl (not_T h37) rfl <| PF rfl rfl (not_T h37) rfl <| AS rfl rfl <| ND <| ret_cv Try.func119 (res1 Try.func119 rfl (rv_tmp rfl)) <| ?_
                      simp [isReceiver, maxQuic, h1, h2, h3, h4, h5, h33, h35, h37]
                  · replace h36 := of_not_F h36
                    refine OF rfl rfl (not_T h36) rfl <| OF rfl rfl (not_T h36) rfl <| PF rfl rfl (not_T h36) rfl <| MV rfl rfl <| OF rfl rfl rfl rfl <| OF rfl rfl rfl rfl <| OF rfl rfl rfl rfl <| PF rfl rfl rfl rfl <| AS rfl rfl <| ND <| ret_cv Try.func119 (res1 Try.func119 rfl (rv_tmp rfl)) <| ?_
                    simp [isReceiver, maxQuic, h1, h2, h3, h4, h5, h33, h35]
                · refine SQ <| RG <| EQ1 rfl rfl rfl <| AS rfl rfl <| ND <| ?_
                  refine gw_cond rfl (fun h38 => ?_) (fun h38 => ?_)
                  · refine SQ <| RG <| MV rfl rfl <| MV rfl rfl <| ?_
                    refine rw_case (j := 81) rfl (fun h39 => ?_) (fun h39 => ?_)
                    · refine ON rfl rfl h39 <| FA rfl tyF_impl_Receiver_4 rfl <| ON rfl rfl h39 <| LD (i := 0) rfl tyP_int rfl rfl rfl <| ON rfl rfl h39 <| EQ1 rfl rfl rfl <| PT rfl rfl h39 rfl <| AS rfl rfl <| ND <| ret_cv Try.func119 (res1 Try.func119 rfl (rv_tmp rfl)) <| ?_
                      simp_all []
                    · refine OF rfl rfl h39 rfl <| OF rfl rfl h39 rfl <| OF rfl rfl h39 rfl <| PF rfl rfl h39 rfl <| AS rfl rfl <| ND <| ret_cv Try.func119 (res1 Try.func119 rfl (rv_tmp rfl)) <| ?_
                      simp [isReceiver, maxQuic, h1, h2, h3, h4, h5, h33, h35, h38, h39]
                  · refine SQ <| RG <| EQ1 rfl rfl rfl <| AS rfl rfl <| ND <| ?_
                    refine gw_cond rfl (fun h40 => ?_) (fun h40 => ?_)
                    · refine SQ <| RG <| MV rfl rfl <| MV rfl rfl <| ?_
                      refine rw_case (j := 89) rfl (fun h41 => ?_) (fun h41 => ?_)
                      · refine ON rfl rfl h41 <| FA rfl tyF_impl_Receiver_4 rfl <| ON rfl rfl h41 <| LD (i := 0) rfl tyP_int rfl rfl rfl <| ON rfl rfl h41 <| EQ1 rfl rfl rfl <| PT rfl rfl h41 rfl <| MV rfl rfl <| ?_
                        refine rw_case (j := 94) rfl (fun h42 => ?_) (fun h42 => ?_)
                        · refine ON rfl rfl h42 <| FA rfl tyF_impl_Receiver_1 rfl <| ON rfl rfl h42 <| FA rfl tyF_impl_Buffer_1 rfl <| ON rfl rfl h42 <| LD (i := 0) rfl tyP_S_impl_Chunk rfl rfl rfl <| ON rfl rfl h42 <| rw_len rfl tyE_S_impl_Chunk rfl <| ON rfl rfl h42 <| EQ1 rfl rfl rfl <| PT rfl rfl h42 rfl <| AS rfl rfl <| ND <| ret_cv Try.func119 (res1 Try.func119 rfl (rv_tmp rfl)) <| ?_
                          simp_all []
                        · refine OF rfl rfl h42 rfl <| OF rfl rfl h42 rfl <| OF rfl rfl h42 rfl <| OF rfl rfl h42 rfl <| OF rfl rfl h42 rfl <| PF rfl rfl h42 rfl <| AS rfl rfl <| ND <| ret_cv Try.func119 (res1 Try.func119 rfl (rv_tmp rfl)) <| ?_
                          simp [isReceiver, maxQuic, h1, h2, h3, h4, h5, h33, h35, h38, h40, h41, h42]
                      · refine OF rfl rfl h41 rfl <| OF rfl rfl h41 rfl <| OF rfl rfl h41 rfl <| PF rfl rfl h41 rfl <| MV rfl rfl <| OF rfl rfl rfl rfl <| OF rfl rfl rfl rfl <| OF rfl rfl rfl rfl <| OF rfl rfl rfl rfl <| OF rfl rfl rfl rfl <| PF rfl rfl rfl rfl <| AS rfl rfl <| ND <| ret_cv Try.func119 (res1 Try.func119 rfl (rv_tmp rfl)) <| ?_
                        simp [isReceiver, maxQuic, h1, h2, h3, h4, h5, h33, h35, h38, h40, h41]
                    · refine SQ <| SQ <| RG <| EQ1 rfl rfl rfl <| AS rfl rfl <| ND <| ?_
                      refine gw_cond rfl (fun h43 => ?_) (fun h43 => ?_)
                      · refine SK <| CT rfl h43 <| SQ <| RG <| FA rfl tyF_impl_Receiver_2 rfl <| LD (i := 0) rfl tyP_int rfl rfl rfl <| FA rfl tyF_impl_Receiver_3 rfl <| LD (i := 0) rfl tyP_int rfl rfl rfl <| EQ1 rfl rfl rfl <| MV rfl rfl <| ?_
                        refine rw_case (j := 109) rfl (fun h44 => ?_) (fun h44 => ?_)
                        · refine ON rfl rfl h44 <| FA rfl tyF_impl_Receiver_1 rfl <| ON rfl rfl h44 <| FA rfl tyF_impl_Buffer_1 rfl <| ON rfl rfl h44 <| LD (i := 0) rfl tyP_S_impl_Chunk rfl rfl rfl <| ON rfl rfl h44 <| rw_len rfl tyE_S_impl_Chunk rfl <| ON rfl rfl h44 <| EQ1 rfl rfl rfl <| PT rfl rfl h44 rfl <| AS rfl rfl <| ND <| ret_cv Try.func119 (res1 Try.func119 rfl (rv_tmp rfl)) <| ?_
                          simp [isReceiver, maxQuic, h1, h2, h3, h4, h5, h33, h35, h38, h40, h43, h44]
                        · refine OF rfl rfl h44 rfl <| OF rfl rfl h44 rfl <| OF rfl rfl h44 rfl <| OF rfl rfl h44 rfl <| OF rfl rfl h44 rfl <| PF rfl rfl h44 rfl <| AS rfl rfl <| ND <| ret_cv Try.func119 (res1 Try.func119 rfl (rv_tmp rfl)) <| ?_
                          simp [isReceiver, maxQuic, h1, h2, h3, h4, h5, h33, h35, h38, h40, h43, h44]
                      · refine RG <| EQ1 rfl rfl rfl <| AS rfl rfl <| ND <| ?_
                        refine gw_cond rfl (fun h45 => ?_) (fun h45 => ?_)
                        · refine SQ <| RG <| FA rfl tyF_impl_Receiver_2 rfl <| LD (i := 0) rfl tyP_int rfl rfl rfl <| FA rfl tyF_impl_Receiver_3 rfl <| LD (i := 0) rfl tyP_int rfl rfl rfl <| EQ1 rfl rfl rfl <| MV rfl rfl <| ?_
                          refine rw_case (j := 109) rfl (fun h46 => ?_) (fun h46 => ?_)
                          · refine ON rfl rfl h46 <| FA rfl tyF_impl_Receiver_1 rfl <| ON rfl rfl h46 <| FA rfl tyF_impl_Buffer_1 rfl <| ON rfl rfl h46 <| LD (i := 0) rfl tyP_S_impl_Chunk rfl rfl rfl <| ON rfl rfl h46 <| rw_len rfl tyE_S_impl_Chunk rfl <| ON rfl rfl h46 <| EQ1 rfl rfl rfl <| PT rfl rfl h46 rfl <| AS rfl rfl <| ND <| ret_cv Try.func119 (res1 Try.func119 rfl (rv_tmp rfl)) <| ?_
                            simp [isReceiver, maxQuic, h1, h2, h3, h4, h5, h33, h35, h38, h40, h43, h45, h46]
                          · refine OF rfl rfl h46 rfl <| OF rfl rfl h46 rfl <| OF rfl rfl h46 rfl <| OF rfl rfl h46 rfl <| OF rfl rfl h46 rfl <| PF rfl rfl h46 rfl <| AS rfl rfl <| ND <| ret_cv Try.func119 (res1 Try.func119 rfl (rv_tmp rfl)) <| ?_
                            simp [isReceiver, maxQuic, h1, h2, h3, h4, h5, h33, h35, h38, h40, h43, h45, h46]
                        · refine SK <| IB <| SQ <| RG <| AS rfl rfl <| ND <| ret_cv Try.func119 (res1 Try.func119 rfl (rv_tmp rfl)) <| ?_
                          simp [isReceiver, maxQuic, h1, h2, h3, h4, h5, h33, h35, h38, h40, h43, h45]
            · replace h32 := of_not_F h32
              refine DT rfl rfl (fun K hk => OF rfl rfl (not_T h32) rfl hk) <| DT rfl rfl (fun K hk => OF rfl rfl (not_T h32) rfl hk) <| DT rfl rfl (fun K hk => OF rfl rfl (not_T h32) rfl hk) <| DT rfl rfl (fun K hk => OF rfl rfl (not_T h32) rfl hk) <| DT rfl rfl (fun K hk => OF rfl rfl (not_T h32) rfl hk) <| dw_nil <| OF rfl rfl (not_T h32) rfl <| PF rfl rfl (not_T h32) rfl <| AS rfl rfl <| ND <| SQ <| SQ <| RG <| FA rfl tyF_impl_Receiver_0 rfl <| LD (i := 0) rfl tyP_int rfl rfl rfl <| ND <| BK <| ?_
              refine SQ <| RG <| EQ1 rfl rfl rfl <| AS rfl rfl <| ND <| ?_
              refine gw_cond rfl (fun h47 => ?_) (fun h47 => ?_)
              · refine SQ <| RG <| FA rfl tyF_impl_Receiver_2 rfl <| LD (i := 0) rfl tyP_int rfl rfl rfl <| EQ1 rfl rfl rfl <| MV rfl rfl <| ?_
                refine rw_case (j := 59) rfl (fun h48 => ?_) (fun h48 => ?_)
                · refine ON rfl rfl h48 <| FA rfl tyF_impl_Receiver_4 rfl <| ON rfl rfl h48 <| LD (i := 0) rfl tyP_int rfl rfl rfl <| ON rfl rfl h48 <| EQ1 rfl rfl rfl <| PT rfl rfl h48 rfl <| AS rfl rfl <| ND <| ret_cv Try.func119 (res1 Try.func119 rfl (rv_tmp rfl)) <| ?_
                  simp [isReceiver, maxQuic, h1, h2, h3, h4, h5, h47]
                · refine OF rfl rfl h48 rfl <| OF rfl rfl h48 rfl <| OF rfl rfl h48 rfl <| PF rfl rfl h48 rfl <| AS rfl rfl <| ND <| ret_cv Try.func119 (res1 Try.func119 rfl (rv_tmp rfl)) <| ?_
                  simp_all []
              · refine SQ <| RG <| EQ1 rfl rfl rfl <| AS rfl rfl <| ND <| ?_
                refine gw_cond rfl (fun h49 => ?_) (fun h49 => ?_)
                · refine SQ <| RG <| FA rfl tyF_impl_Receiver_2 rfl <| LD (i := 0) rfl tyP_int rfl rfl rfl <| rw_neq rfl rfl rfl <| MV rfl rfl <| ?_
                  refine rw_case (j := 69) rfl (fun h50 => ?_) (fun h50 => ?_)
                  · replace h50 := of_not_T h50
                    refine ON rfl rfl (not_F h50) <| MV rfl rfl <| ON rfl rfl (not_F h50) <| NT rfl rfl <| PT rfl rfl (not_F h50) rfl <| MV rfl rfl <| ON rfl rfl rfl <| FA rfl tyF_impl_Receiver_4 rfl <| ON rfl rfl rfl <| LD (i := 0) rfl tyP_int rfl rfl rfl <| ON rfl rfl rfl <| EQ1 rfl rfl rfl <| PT rfl rfl rfl rfl <| AS rfl rfl <| ND <| ret_cv Try.func119 (res1 Try.func119 rfl (rv_tmp rfl)) <| ?_
                    simp_all []
                  · replace h50 := of_not_F h50
                    refine OF rfl rfl (not_T h50) rfl <| OF rfl rfl (not_T h50) rfl <| PF rfl rfl (not_T h50) rfl <| MV rfl rfl <| OF rfl rfl rfl rfl <| OF rfl rfl rfl rfl <| OF rfl rfl rfl rfl <| PF rfl rfl rfl rfl <| AS rfl rfl <| ND <| ret_cv Try.func119 (res1 Try.func119 rfl (rv_tmp rfl)) <| ?_
                    simp [isReceiver, maxQuic, h1, h2, h3, h4, h5, h47, h49]
                · refine SQ <| RG <| EQ1 rfl rfl rfl <| AS rfl rfl <| ND <| ?_
                  refine gw_cond rfl (fun h51 => ?_) (fun h51 => ?_)
                  · refine SQ <| RG <| MV rfl rfl <| MV rfl rfl <| OF rfl rfl rfl rfl <| OF rfl rfl rfl rfl <| OF rfl rfl rfl rfl <| PF rfl rfl rfl rfl <| AS rfl rfl <| ND <| ret_cv Try.func119 (res1 Try.func119 rfl (rv_tmp rfl)) <| ?_
                    simp [isReceiver, maxQuic, h1, h2, h3, h4, h5, h47, h49, h51]
                  · refine SQ <| RG <| EQ1 rfl rfl rfl <| AS rfl rfl <| ND <| ?_
                    refine gw_cond rfl (fun h52 => ?_) (fun h52 => ?_)
                    · refine SQ <| RG <| MV rfl rfl <| MV rfl rfl <| OF rfl rfl rfl rfl <| OF rfl rfl rfl rfl <| OF rfl rfl rfl rfl <| PF rfl rfl rfl rfl <| MV rfl rfl <| OF rfl rfl rfl rfl <| OF rfl rfl rfl rfl <| OF rfl rfl rfl rfl <| OF rfl rfl rfl rfl <| OF rfl rfl rfl rfl <| PF rfl rfl rfl rfl <| AS rfl rfl <| ND <| ret_cv Try.func119 (res1 Try.func119 rfl (rv_tmp rfl)) <| ?_
                      simp [isReceiver, maxQuic, h1, h2, h3, h4, h5, h47, h49, h51, h52]
                    · refine SQ <| SQ <| RG <| EQ1 rfl rfl rfl <| AS rfl rfl <| ND <| ?_
                      refine gw_cond rfl (fun h53 => ?_) (fun h53 => ?_)
                      · refine SK <| CT rfl h53 <| SQ <| RG <| FA rfl tyF_impl_Receiver_2 rfl <| LD (i := 0) rfl tyP_int rfl rfl rfl <| FA rfl tyF_impl_Receiver_3 rfl <| LD (i := 0) rfl tyP_int rfl rfl rfl <| EQ1 rfl rfl rfl <| MV rfl rfl <| ?_
                        refine rw_case (j := 109) rfl (fun h54 => ?_) (fun h54 => ?_)
                        · refine ON rfl rfl h54 <| FA rfl tyF_impl_Receiver_1 rfl <| ON rfl rfl h54 <| FA rfl tyF_impl_Buffer_1 rfl <| ON rfl rfl h54 <| LD (i := 0) rfl tyP_S_impl_Chunk rfl rfl rfl <| ON rfl rfl h54 <| rw_len rfl tyE_S_impl_Chunk rfl <| ON rfl rfl h54 <| EQ1 rfl rfl rfl <| PT rfl rfl h54 rfl <| AS rfl rfl <| ND <| ret_cv Try.func119 (res1 Try.func119 rfl (rv_tmp rfl)) <| ?_
                          simp [isReceiver, maxQuic, h1, h2, h3, h4, h5, h47, h49, h51, h52, h53, h54]
                        · refine OF rfl rfl h54 rfl <| OF rfl rfl h54 rfl <| OF rfl rfl h54 rfl <| OF rfl rfl h54 rfl <| OF rfl rfl h54 rfl <| PF rfl rfl h54 rfl <| AS rfl rfl <| ND <| ret_cv Try.func119 (res1 Try.func119 rfl (rv_tmp rfl)) <| ?_
                          simp [isReceiver, maxQuic, h1, h2, h3, h4, h5, h47, h49, h51, h52, h53, h54]
                      · refine RG <| EQ1 rfl rfl rfl <| AS rfl rfl <| ND <| ?_
                        refine gw_cond rfl (fun h55 => ?_) (fun h55 => ?_)
                        · refine SQ <| RG <| FA rfl tyF_impl_Receiver_2 rfl <| LD (i := 0) rfl tyP_int rfl rfl rfl <| FA rfl tyF_impl_Receiver_3 rfl <| LD (i := 0) rfl tyP_int rfl rfl rfl <| EQ1 rfl rfl rfl <| MV rfl rfl <| ?_
                          refine rw_case (j := 109) rfl (fun h56 => ?_) (fun h56 => ?_)
                          · refine ON rfl rfl h56 <| FA rfl tyF_impl_Receiver_1 rfl <| ON rfl rfl h56 <| FA rfl tyF_impl_Buffer_1 rfl <| ON rfl rfl h56 <| LD (i := 0) rfl tyP_S_impl_Chunk rfl rfl rfl <| ON rfl rfl h56 <| rw_len rfl tyE_S_impl_Chunk rfl <| ON rfl rfl h56 <| EQ1 rfl rfl rfl <| PT rfl rfl h56 rfl <| AS rfl rfl <| ND <| ret_cv Try.func119 (res1 Try.func119 rfl (rv_tmp rfl)) <| ?_
                            simp [isReceiver, maxQuic, h1, h2, h3, h4, h5, h47, h49, h51, h52, h53, h55, h56]
                          · refine OF rfl rfl h56 rfl <| OF rfl rfl h56 rfl <| OF rfl rfl h56 rfl <| OF rfl rfl h56 rfl <| OF rfl rfl h56 rfl <| PF rfl rfl h56 rfl <| AS rfl rfl <| ND <| ret_cv Try.func119 (res1 Try.func119 rfl (rv_tmp rfl)) <| ?_
                            simp [isReceiver, maxQuic, h1, h2, h3, h4, h5, h47, h49, h51, h52, h53, h55, h56]
                        · refine SK <| IB <| SQ <| RG <| AS rfl rfl <| ND <| ret_cv Try.func119 (res1 Try.func119 rfl (rv_tmp rfl)) <| ?_
                          simp [isReceiver, maxQuic, h1, h2, h3, h4, h5, h47, h49, h51, h52, h53, h55]

set_option maxRecDepth 20000 in
theorem impl_IsWindow (p : Window) (w : World) : CV Try.prog 140 [.agg p.cells.toArray] w (.bool (isWindow p)) := by
  refine cv_of Try.func140 rfl rfl rfl <| SQ <| RG <| BX [_, _, _, _, _, _] rfl rfl rfl <| fun b1 => AS rfl rfl <| ND <| SQ <| RG <| FA rfl tyF_impl_Window_1 rfl <| LD (i := 0) rfl tyP_int rfl rfl rfl <| CV1 rfl fun_impl_within rfl (fun w hs => impl_within _ _ _ w) <| MV rfl rfl <| ?_
  refine rw_case (j := 6) rfl (fun h1 => ?_) (fun h1 => ?_)
  · refine ON rfl rfl h1 <| FA rfl tyF_impl_Window_0 rfl <| ON rfl rfl h1 <| LD (i := 0) rfl tyP_int rfl rfl rfl <| ON rfl rfl h1 <| FA rfl tyF_impl_Window_1 rfl <| ON rfl rfl h1 <| LD (i := 0) rfl tyP_int rfl rfl rfl <| ON rfl rfl h1 <| CV1 rfl fun_impl_within rfl (fun w hs => impl_within _ _ _ w) <| PT rfl rfl h1 rfl <| MV rfl rfl <| ?_
    refine rw_case (j := 13) rfl (fun h2 => ?_) (fun h2 => ?_)
    · refine ON rfl rfl h2 <| FA rfl tyF_impl_Window_2 rfl <| ON rfl rfl h2 <| LD (i := 0) rfl tyP_int rfl rfl rfl <| ON rfl rfl h2 <| CV1 rfl fun_impl_within rfl (fun w hs => impl_within _ _ _ w) <| PT rfl rfl h2 rfl <| MV rfl rfl <| ?_
      refine rw_case (j := 18) rfl (fun h3 => ?_) (fun h3 => ?_)
      · refine ON rfl rfl h3 <| FA rfl tyF_impl_Window_3 rfl <| ON rfl rfl h3 <| LD (i := 0) rfl tyP_int rfl rfl rfl <| ON rfl rfl h3 <| FA rfl tyF_impl_Window_2 rfl <| ON rfl rfl h3 <| LD (i := 0) rfl tyP_int rfl rfl rfl <| ON rfl rfl h3 <| CV1 rfl fun_impl_within rfl (fun w hs => impl_within _ _ _ w) <| PT rfl rfl h3 rfl <| MV rfl rfl <| ?_
        refine rw_case (j := 25) rfl (fun h4 => ?_) (fun h4 => ?_)
        · refine ON rfl rfl h4 <| FA rfl tyF_impl_Window_4 rfl <| ON rfl rfl h4 <| LD (i := 0) rfl tyP_int rfl rfl rfl <| ON rfl rfl h4 <| FA rfl tyF_impl_Window_3 rfl <| ON rfl rfl h4 <| LD (i := 0) rfl tyP_int rfl rfl rfl <| ON rfl rfl h4 <| CV1 rfl fun_impl_within rfl (fun w hs => impl_within _ _ _ w) <| PT rfl rfl h4 rfl <| MV rfl rfl <| ?_
          refine rw_case (j := 32) rfl (fun h5 => ?_) (fun h5 => ?_)
          · refine ON rfl rfl h5 <| FA rfl tyF_impl_Window_2 rfl <| ON rfl rfl h5 <| LD (i := 0) rfl tyP_int rfl rfl rfl <| ON rfl rfl h5 <| FA rfl tyF_impl_Window_4 rfl <| ON rfl rfl h5 <| LD (i := 0) rfl tyP_int rfl rfl rfl <| ON rfl rfl h5 <| FA rfl tyF_impl_Window_0 rfl <| ON rfl rfl h5 <| LD (i := 0) rfl tyP_int rfl rfl rfl <| ON rfl rfl h5 <| rw_add rfl rfl rfl <| ON rfl rfl h5 <| rw_leq rfl rfl rfl <| PT rfl rfl h5 rfl <| MV rfl rfl <| ?_
            refine rw_case (j := 42) rfl (fun h6 => ?_) (fun h6 => ?_)
            · refine ON rfl rfl h6 <| FA rfl tyF_impl_Window_5 rfl <| ON rfl rfl h6 <| LD (i := 0) rfl tyP_int rfl rfl rfl <| ON rfl rfl h6 <| CV1 rfl fun_impl_within rfl (fun w hs => impl_within _ _ _ w) <| PT rfl rfl h6 rfl <| AS rfl rfl <| ND <| ret_cv Try.func140 (res1 Try.func140 rfl (rv_tmp rfl)) <| ?_
              simp [isWindow, maxQuic, h1, h2, h3, h4, h5, h6]
            · refine OF rfl rfl h6 rfl <| OF rfl rfl h6 rfl <| OF rfl rfl h6 rfl <| PF rfl rfl h6 rfl <| AS rfl rfl <| ND <| ret_cv Try.func140 (res1 Try.func140 rfl (rv_tmp rfl)) <| ?_
              simp [isWindow, maxQuic, h1, h2, h3, h4, h5, h6]
          · refine OF rfl rfl h5 rfl <| OF rfl rfl h5 rfl <| OF rfl rfl h5 rfl <| OF rfl rfl h5 rfl <| OF rfl rfl h5 rfl <| OF rfl rfl h5 rfl <| OF rfl rfl h5 rfl <| OF rfl rfl h5 rfl <| PF rfl rfl h5 rfl <| MV rfl rfl <| OF rfl rfl rfl rfl <| OF rfl rfl rfl rfl <| OF rfl rfl rfl rfl <| PF rfl rfl rfl rfl <| AS rfl rfl <| ND <| ret_cv Try.func140 (res1 Try.func140 rfl (rv_tmp rfl)) <| ?_
            simp [isWindow, maxQuic, h1, h2, h3, h4, h5]
        · refine OF rfl rfl h4 rfl <| OF rfl rfl h4 rfl <| OF rfl rfl h4 rfl <| OF rfl rfl h4 rfl <| OF rfl rfl h4 rfl <| PF rfl rfl h4 rfl <| MV rfl rfl <| OF rfl rfl rfl rfl <| OF rfl rfl rfl rfl <| OF rfl rfl rfl rfl <| OF rfl rfl rfl rfl <| OF rfl rfl rfl rfl <| OF rfl rfl rfl rfl <| OF rfl rfl rfl rfl <| OF rfl rfl rfl rfl <| PF rfl rfl rfl rfl <| MV rfl rfl <| OF rfl rfl rfl rfl <| OF rfl rfl rfl rfl <| OF rfl rfl rfl rfl <| PF rfl rfl rfl rfl <| ?_
          refine AS rfl rfl <| ND <| ret_cv Try.func140 (res1 Try.func140 rfl (rv_tmp rfl)) <| ?_
          simp [isWindow, maxQuic, h1, h2, h3, h4]
      · refine OF rfl rfl h3 rfl <| OF rfl rfl h3 rfl <| OF rfl rfl h3 rfl <| OF rfl rfl h3 rfl <| OF rfl rfl h3 rfl <| PF rfl rfl h3 rfl <| MV rfl rfl <| OF rfl rfl rfl rfl <| OF rfl rfl rfl rfl <| OF rfl rfl rfl rfl <| OF rfl rfl rfl rfl <| OF rfl rfl rfl rfl <| PF rfl rfl rfl rfl <| MV rfl rfl <| OF rfl rfl rfl rfl <| OF rfl rfl rfl rfl <| OF rfl rfl rfl rfl <| OF rfl rfl rfl rfl <| OF rfl rfl rfl rfl <| OF rfl rfl rfl rfl <| OF rfl rfl rfl rfl <| ?_
        refine OF rfl rfl rfl rfl <| PF rfl rfl rfl rfl <| MV rfl rfl <| OF rfl rfl rfl rfl <| OF rfl rfl rfl rfl <| OF rfl rfl rfl rfl <| PF rfl rfl rfl rfl <| AS rfl rfl <| ND <| ret_cv Try.func140 (res1 Try.func140 rfl (rv_tmp rfl)) <| ?_
        simp [isWindow, maxQuic, h1, h2, h3]
    · refine OF rfl rfl h2 rfl <| OF rfl rfl h2 rfl <| OF rfl rfl h2 rfl <| PF rfl rfl h2 rfl <| MV rfl rfl <| OF rfl rfl rfl rfl <| OF rfl rfl rfl rfl <| OF rfl rfl rfl rfl <| OF rfl rfl rfl rfl <| OF rfl rfl rfl rfl <| PF rfl rfl rfl rfl <| MV rfl rfl <| OF rfl rfl rfl rfl <| OF rfl rfl rfl rfl <| OF rfl rfl rfl rfl <| OF rfl rfl rfl rfl <| OF rfl rfl rfl rfl <| PF rfl rfl rfl rfl <| MV rfl rfl <| OF rfl rfl rfl rfl <| OF rfl rfl rfl rfl <| ?_
      refine OF rfl rfl rfl rfl <| OF rfl rfl rfl rfl <| OF rfl rfl rfl rfl <| OF rfl rfl rfl rfl <| OF rfl rfl rfl rfl <| OF rfl rfl rfl rfl <| PF rfl rfl rfl rfl <| MV rfl rfl <| OF rfl rfl rfl rfl <| OF rfl rfl rfl rfl <| OF rfl rfl rfl rfl <| PF rfl rfl rfl rfl <| AS rfl rfl <| ND <| ret_cv Try.func140 (res1 Try.func140 rfl (rv_tmp rfl)) <| ?_
      simp [isWindow, maxQuic, h1, h2]
  · refine OF rfl rfl h1 rfl <| OF rfl rfl h1 rfl <| OF rfl rfl h1 rfl <| OF rfl rfl h1 rfl <| OF rfl rfl h1 rfl <| PF rfl rfl h1 rfl <| MV rfl rfl <| OF rfl rfl rfl rfl <| OF rfl rfl rfl rfl <| OF rfl rfl rfl rfl <| PF rfl rfl rfl rfl <| MV rfl rfl <| OF rfl rfl rfl rfl <| OF rfl rfl rfl rfl <| OF rfl rfl rfl rfl <| OF rfl rfl rfl rfl <| OF rfl rfl rfl rfl <| PF rfl rfl rfl rfl <| MV rfl rfl <| OF rfl rfl rfl rfl <| OF rfl rfl rfl rfl <| ?_
    refine OF rfl rfl rfl rfl <| OF rfl rfl rfl rfl <| OF rfl rfl rfl rfl <| PF rfl rfl rfl rfl <| MV rfl rfl <| OF rfl rfl rfl rfl <| OF rfl rfl rfl rfl <| OF rfl rfl rfl rfl <| OF rfl rfl rfl rfl <| OF rfl rfl rfl rfl <| OF rfl rfl rfl rfl <| OF rfl rfl rfl rfl <| OF rfl rfl rfl rfl <| PF rfl rfl rfl rfl <| MV rfl rfl <| OF rfl rfl rfl rfl <| OF rfl rfl rfl rfl <| OF rfl rfl rfl rfl <| PF rfl rfl rfl rfl <| AS rfl rfl <| ND <| ?_
    refine ret_cv Try.func140 (res1 Try.func140 rfl (rv_tmp rfl)) <| ?_
    simp [isWindow, maxQuic, h1]

theorem impl_IsPriority (p : Priority) (w : World) : CV Try.prog 141 [.agg p.cells.toArray] w (.bool (isPriority p)) := by
  refine cv_of Try.func141 rfl rfl rfl <| SQ <| RG <| BX [_, _] rfl rfl rfl <| fun b1 => AS rfl rfl <| ND <| SQ <| RG <| FA rfl tyF_impl_Priority_0 rfl <| LD (i := 0) rfl tyP_int rfl rfl rfl <| CV1 rfl fun_impl_within rfl (fun w hs => impl_within _ _ _ w) <| AS rfl rfl <| ND <| ret_cv Try.func141 (res1 Try.func141 rfl (rv_tmp rfl)) <| ?_
  simp only [isPriority] <;> rfl

set_option maxHeartbeats 2000000 in
set_option maxRecDepth 20000 in
theorem impl_IsStream {w : World} {cs : List Value} {x : Stream} (hv : RdStream w cs x) (hb : x.le 1048576) : CV Try.prog 58 [.agg cs.toArray] w (.bool (isStream x)) := by
  obtain ⟨v0, v1, v2, v3, v4, rfl, k0, k1, k2, k3, k4⟩ := hv
  obtain ⟨A0, c0, rfl, hA0⟩ := k0
  obtain ⟨A1, c1, rfl, hA1⟩ := k1
  obtain ⟨A2, c2, rfl, hA2⟩ := k2
  obtain ⟨A3, c3, rfl, hA3⟩ := k3
  obtain ⟨A4, c4, rfl, hA4⟩ := k4
  obtain ⟨hb0, hb1, hb2, hb3, hb4, hb5⟩ := hb
  refine cv_of Try.func58 rfl rfl rfl <| SQ <| RG <| BX [_, _, _, _, _, _, _, _, _, _, _, _, _, _, _, _, _, _, _, _, _, _, _, _, _, _, _, _, _, _, _, _, _, _, _, _, _, _, _] rfl rfl rfl <| fun b1 => AS rfl rfl <| ND <| SQ <| BK <| SQ <| RG <| FA rfl tyF_impl_Stream_0 rfl <| LD (i := 0) rfl tyP_int rfl rfl rfl <| CV1 rfl fun_impl_isQuic rfl (fun w hs => impl_isQuic _ w) <| NT rfl rfl <| MV rfl rfl <| ?_
  refine rw_case (j := 8) rfl (fun h1 => ?_) (fun h1 => ?_)
  · replace h1 := of_not_T h1
    refine OF rfl rfl (not_F h1) rfl <| OF rfl rfl (not_F h1) rfl <| OF rfl rfl (not_F h1) rfl <| OF rfl rfl (not_F h1) rfl <| PT rfl rfl (not_F h1) rfl <| MV rfl rfl <| OF rfl rfl rfl rfl <| OF rfl rfl rfl rfl <| OF rfl rfl rfl rfl <| OF rfl rfl rfl rfl <| PT rfl rfl rfl rfl <| MV rfl rfl <| OF rfl rfl rfl rfl <| OF rfl rfl rfl rfl <| OF rfl rfl rfl rfl <| OF rfl rfl rfl rfl <| PT rfl rfl rfl rfl <| MV rfl rfl <| OF rfl rfl rfl rfl <| OF rfl rfl rfl rfl <| ?_
    refine OF rfl rfl rfl rfl <| OF rfl rfl rfl rfl <| PT rfl rfl rfl rfl <| MV rfl rfl <| OF rfl rfl rfl rfl <| OF rfl rfl rfl rfl <| OF rfl rfl rfl rfl <| OF rfl rfl rfl rfl <| PT rfl rfl rfl rfl <| MV rfl rfl <| OF rfl rfl rfl rfl <| OF rfl rfl rfl rfl <| OF rfl rfl rfl rfl <| OF rfl rfl rfl rfl <| PT rfl rfl rfl rfl <| AS rfl rfl <| ND <| CT rfl rfl <| SQ <| RG <| AS rfl rfl <| ND <| ret_cv Try.func58 (res1 Try.func58 rfl (rv_tmp rfl)) <| ?_
    simp [isStream, isStreamW, h1]
  · replace h1 := of_not_F h1
    refine ON rfl rfl (not_T h1) <| FA rfl tyF_impl_Stream_12 rfl <| ON rfl rfl (not_T h1) <| LD (i := 0) rfl tyP_int rfl rfl rfl <| ON rfl rfl (not_T h1) <| CV1 rfl fun_impl_isQuic rfl (fun w hs => impl_isQuic _ w) <| ON rfl rfl (not_T h1) <| NT rfl rfl <| PF rfl rfl (not_T h1) rfl <| MV rfl rfl <| ?_
    refine rw_case (j := 14) rfl (fun h2 => ?_) (fun h2 => ?_)
    · replace h2 := of_not_T h2
      refine OF rfl rfl (not_F h2) rfl <| OF rfl rfl (not_F h2) rfl <| OF rfl rfl (not_F h2) rfl <| OF rfl rfl (not_F h2) rfl <| PT rfl rfl (not_F h2) rfl <| MV rfl rfl <| OF rfl rfl rfl rfl <| OF rfl rfl rfl rfl <| OF rfl rfl rfl rfl <| OF rfl rfl rfl rfl <| PT rfl rfl rfl rfl <| MV rfl rfl <| OF rfl rfl rfl rfl <| OF rfl rfl rfl rfl <| OF rfl rfl rfl rfl <| OF rfl rfl rfl rfl <| PT rfl rfl rfl rfl <| MV rfl rfl <| OF rfl rfl rfl rfl <| OF rfl rfl rfl rfl <| ?_
      refine OF rfl rfl rfl rfl <| OF rfl rfl rfl rfl <| PT rfl rfl rfl rfl <| MV rfl rfl <| OF rfl rfl rfl rfl <| OF rfl rfl rfl rfl <| OF rfl rfl rfl rfl <| OF rfl rfl rfl rfl <| PT rfl rfl rfl rfl <| AS rfl rfl <| ND <| CT rfl rfl <| SQ <| RG <| AS rfl rfl <| ND <| ret_cv Try.func58 (res1 Try.func58 rfl (rv_tmp rfl)) <| ?_
      simp [isStream, isStreamW, h1, h2]
    · replace h2 := of_not_F h2
      refine ON rfl rfl (not_T h2) <| FA rfl tyF_impl_Stream_1 rfl <| ON rfl rfl (not_T h2) <| LS (i := 0) [_, _, _, _, _, _, _, _, _, _, _, _] rfl tyS_impl_Sender rfl rfl rfl rfl <| ON rfl rfl (not_T h2) <| CV1 rfl fun_impl_IsSender rfl (fun w hs => impl_IsSender ⟨_, _, _, _, rfl, (hA0.s Pl.keeps hs), (hA1.s Pl.keeps hs), (hA2.s Pl.keeps hs), (hA3.s Pl.keeps hs)⟩ ⟨hb0, hb1, hb2, hb3⟩) <| ON rfl rfl (not_T h2) <| NT rfl rfl <| PF rfl rfl (not_T h2) rfl <| MV rfl rfl <| ?_
      refine rw_case (j := 20) rfl (fun h3 => ?_) (fun h3 => ?_)
      · replace h3 := of_not_T h3
        refine OF rfl rfl (not_F h3) rfl <| OF rfl rfl (not_F h3) rfl <| OF rfl rfl (not_F h3) rfl <| OF rfl rfl (not_F h3) rfl <| PT rfl rfl (not_F h3) rfl <| MV rfl rfl <| OF rfl rfl rfl rfl <| OF rfl rfl rfl rfl <| OF rfl rfl rfl rfl <| OF rfl rfl rfl rfl <| PT rfl rfl rfl rfl <| MV rfl rfl <| OF rfl rfl rfl rfl <| OF rfl rfl rfl rfl <| OF rfl rfl rfl rfl <| OF rfl rfl rfl rfl <| PT rfl rfl rfl rfl <| MV rfl rfl <| OF rfl rfl rfl rfl <| OF rfl rfl rfl rfl <| ?_
        refine OF rfl rfl rfl rfl <| OF rfl rfl rfl rfl <| PT rfl rfl rfl rfl <| AS rfl rfl <| ND <| CT rfl rfl <| SQ <| RG <| AS rfl rfl <| ND <| ret_cv Try.func58 (res1 Try.func58 rfl (rv_tmp rfl)) <| ?_
        simp [isStream, isStreamW, h1, h2, h3]
      · replace h3 := of_not_F h3
        refine ON rfl rfl (not_T h3) <| FA rfl tyF_impl_Stream_2 rfl <| ON rfl rfl (not_T h3) <| LS (i := 0) [_, _, _, _] rfl tyS_impl_Credit rfl rfl rfl rfl <| ON rfl rfl (not_T h3) <| CV1 rfl fun_impl_IsCredit rfl (fun w hs => impl_IsCredit _ w) <| ON rfl rfl (not_T h3) <| NT rfl rfl <| PF rfl rfl (not_T h3) rfl <| MV rfl rfl <| ?_
        refine rw_case (j := 26) rfl (fun h4 => ?_) (fun h4 => ?_)
        · replace h4 := of_not_T h4
          refine OF rfl rfl (not_F h4) rfl <| OF rfl rfl (not_F h4) rfl <| OF rfl rfl (not_F h4) rfl <| OF rfl rfl (not_F h4) rfl <| PT rfl rfl (not_F h4) rfl <| MV rfl rfl <| OF rfl rfl rfl rfl <| OF rfl rfl rfl rfl <| OF rfl rfl rfl rfl <| OF rfl rfl rfl rfl <| PT rfl rfl rfl rfl <| MV rfl rfl <| OF rfl rfl rfl rfl <| OF rfl rfl rfl rfl <| OF rfl rfl rfl rfl <| OF rfl rfl rfl rfl <| PT rfl rfl rfl rfl <| AS rfl rfl <| ND <| CT rfl rfl <| SQ <| RG <| ?_
          refine AS rfl rfl <| ND <| ret_cv Try.func58 (res1 Try.func58 rfl (rv_tmp rfl)) <| ?_
          simp [isStream, isStreamW, h1, h2, h3, h4]
        · replace h4 := of_not_F h4
          refine ON rfl rfl (not_T h4) <| FA rfl tyF_impl_Stream_3 rfl <| ON rfl rfl (not_T h4) <| LS (i := 0) [_, _, _, _, _, _] rfl tyS_impl_Receiver rfl rfl rfl rfl <| ON rfl rfl (not_T h4) <| CV1 rfl fun_impl_IsReceiver rfl (fun w hs => impl_IsReceiver ⟨_, rfl, (hA4.s Pl.keeps hs)⟩ ⟨hb4, hb5⟩) <| ON rfl rfl (not_T h4) <| NT rfl rfl <| PF rfl rfl (not_T h4) rfl <| MV rfl rfl <| ?_
          refine rw_case (j := 32) rfl (fun h5 => ?_) (fun h5 => ?_)
          · replace h5 := of_not_T h5
            refine OF rfl rfl (not_F h5) rfl <| OF rfl rfl (not_F h5) rfl <| OF rfl rfl (not_F h5) rfl <| OF rfl rfl (not_F h5) rfl <| PT rfl rfl (not_F h5) rfl <| MV rfl rfl <| OF rfl rfl rfl rfl <| OF rfl rfl rfl rfl <| OF rfl rfl rfl rfl <| OF rfl rfl rfl rfl <| PT rfl rfl rfl rfl <| AS rfl rfl <| ND <| CT rfl rfl <| SQ <| RG <| AS rfl rfl <| ND <| ret_cv Try.func58 (res1 Try.func58 rfl (rv_tmp rfl)) <| ?_
            simp [isStream, isStreamW, h1, h2, h3, h4, h5]
          · replace h5 := of_not_F h5
            refine ON rfl rfl (not_T h5) <| FA rfl tyF_impl_Stream_4 rfl <| ON rfl rfl (not_T h5) <| LS (i := 0) [_, _, _, _, _, _] rfl tyS_impl_Window rfl rfl rfl rfl <| ON rfl rfl (not_T h5) <| CV1 rfl fun_impl_IsWindow rfl (fun w hs => impl_IsWindow _ w) <| ON rfl rfl (not_T h5) <| NT rfl rfl <| PF rfl rfl (not_T h5) rfl <| MV rfl rfl <| ?_
            refine rw_case (j := 38) rfl (fun h6 => ?_) (fun h6 => ?_)
            · replace h6 := of_not_T h6
              refine OF rfl rfl (not_F h6) rfl <| OF rfl rfl (not_F h6) rfl <| OF rfl rfl (not_F h6) rfl <| OF rfl rfl (not_F h6) rfl <| PT rfl rfl (not_F h6) rfl <| AS rfl rfl <| ND <| CT rfl rfl <| SQ <| RG <| AS rfl rfl <| ND <| ret_cv Try.func58 (res1 Try.func58 rfl (rv_tmp rfl)) <| ?_
              simp [isStream, isStreamW, h1, h2, h3, h4, h5, h6]
            · replace h6 := of_not_F h6
              refine ON rfl rfl (not_T h6) <| FA rfl tyF_impl_Stream_5 rfl <| ON rfl rfl (not_T h6) <| LS (i := 0) [_, _] rfl tyS_impl_Priority rfl rfl rfl rfl <| ON rfl rfl (not_T h6) <| CV1 rfl fun_impl_IsPriority rfl (fun w hs => impl_IsPriority _ w) <| ON rfl rfl (not_T h6) <| NT rfl rfl <| PF rfl rfl (not_T h6) rfl <| AS rfl rfl <| ND <| ?_
              refine gw_cond rfl (fun h7 => ?_) (fun h7 => ?_)
              · replace h7 := of_not_T h7
                refine SQ <| RG <| AS rfl rfl <| ND <| ret_cv Try.func58 (res1 Try.func58 rfl (rv_tmp rfl)) <| ?_
                simp [isStream, isStreamW, h1, h2, h3, h4, h5, h6, h7]
              · replace h7 := of_not_F h7
                refine SQ <| RG <| FA rfl tyF_impl_Stream_6 rfl <| LD (i := 0) rfl tyP_bool rfl rfl rfl <| NT rfl rfl <| MV rfl rfl <| ?_
                refine rw_case (j := 48) rfl (fun h8 => ?_) (fun h8 => ?_)
                · replace h8 := of_not_T h8
                  refine ON rfl rfl (not_F h8) <| FA rfl tyF_impl_Stream_7 rfl <| ON rfl rfl (not_F h8) <| LD (i := 0) rfl tyP_bool rfl rfl rfl <| ON rfl rfl (not_F h8) <| NT rfl rfl <| PT rfl rfl (not_F h8) rfl <| MV rfl rfl <| ?_
                  refine rw_case (j := 53) rfl (fun h9 => ?_) (fun h9 => ?_)
                  · replace h9 := of_not_T h9
                    refine OF rfl rfl (not_F h9) rfl <| OF rfl rfl (not_F h9) rfl <| OF rfl rfl (not_F h9) rfl <| OF rfl rfl (not_F h9) rfl <| OF rfl rfl (not_F h9) rfl <| OF rfl rfl (not_F h9) rfl <| OF rfl rfl (not_F h9) rfl <| PT rfl rfl (not_F h9) rfl <| MV rfl rfl <| OF rfl rfl rfl rfl <| OF rfl rfl rfl rfl <| OF rfl rfl rfl rfl <| OF rfl rfl rfl rfl <| OF rfl rfl rfl rfl <| OF rfl rfl rfl rfl <| OF rfl rfl rfl rfl <| PT rfl rfl rfl rfl <| AS rfl rfl <| ND <| ?_
                    refine CT rfl rfl <| SQ <| RG <| AS rfl rfl <| ND <| ret_cv Try.func58 (res1 Try.func58 rfl (rv_tmp rfl)) <| ?_
                    simp [isStream, isStreamW, h1, h2, h3, h4, h5, h6, h7, h8, h9]
                  · replace h9 := of_not_F h9
                    refine ON rfl rfl (not_T h9) <| FA rfl tyF_impl_Stream_1 rfl <| ON rfl rfl (not_T h9) <| FA rfl tyF_impl_Sender_7 rfl <| ON rfl rfl (not_T h9) <| LD (i := 0) rfl tyP_int rfl rfl rfl <| ON rfl rfl (not_T h9) <| FA rfl tyF_impl_Stream_2 rfl <| ON rfl rfl (not_T h9) <| FA rfl tyF_impl_Credit_1 rfl <| ON rfl rfl (not_T h9) <| LD (i := 0) rfl tyP_int rfl rfl rfl <| ON rfl rfl (not_T h9) <| rw_gtr rfl rfl rfl <| PF rfl rfl (not_T h9) rfl <| MV rfl rfl <| ?_
                    refine rw_case (j := 62) rfl (fun h10 => ?_) (fun h10 => ?_)
                    · refine OF rfl rfl h10 rfl <| OF rfl rfl h10 rfl <| OF rfl rfl h10 rfl <| OF rfl rfl h10 rfl <| OF rfl rfl h10 rfl <| OF rfl rfl h10 rfl <| OF rfl rfl h10 rfl <| PT rfl rfl h10 rfl <| AS rfl rfl <| ND <| CT rfl rfl <| SQ <| RG <| AS rfl rfl <| ND <| ret_cv Try.func58 (res1 Try.func58 rfl (rv_tmp rfl)) <| ?_
                      simp [isStream, isStreamW, h1, h2, h3, h4, h5, h6, h7, h8, h9, h10]
                    · refine ON rfl rfl h10 <| FA rfl tyF_impl_Stream_3 rfl <| ON rfl rfl h10 <| FA rfl tyF_impl_Receiver_3 rfl <| ON rfl rfl h10 <| LD (i := 0) rfl tyP_int rfl rfl rfl <| ON rfl rfl h10 <| FA rfl tyF_impl_Stream_4 rfl <| ON rfl rfl h10 <| FA rfl tyF_impl_Window_3 rfl <| ON rfl rfl h10 <| LD (i := 0) rfl tyP_int rfl rfl rfl <| ON rfl rfl h10 <| rw_gtr rfl rfl rfl <| PF rfl rfl h10 rfl <| AS rfl rfl <| ND <| ?_
                      refine gw_cond rfl (fun h11 => ?_) (fun h11 => ?_)
                      · refine SQ <| RG <| AS rfl rfl <| ND <| ret_cv Try.func58 (res1 Try.func58 rfl (rv_tmp rfl)) <| ?_
                        simp [isStream, isStreamW, h1, h2, h3, h4, h5, h6, h7, h8, h9, h10, h11]
                      · refine SQ <| RG <| FA rfl tyF_impl_Stream_8 rfl <| LD (i := 0) rfl tyP_bool rfl rfl rfl <| MV rfl rfl <| ?_
                        refine rw_case (j := 74) rfl (fun h12 => ?_) (fun h12 => ?_)
                        · refine ON rfl rfl h12 <| FA rfl tyF_impl_Stream_1 rfl <| ON rfl rfl h12 <| FA rfl tyF_impl_Sender_0 rfl <| ON rfl rfl h12 <| LD (i := 0) rfl tyP_int rfl rfl rfl <| ON rfl rfl h12 <| rw_neq rfl rfl rfl <| PT rfl rfl h12 rfl <| MV rfl rfl <| ?_
                          refine rw_case (j := 80) rfl (fun h13 => ?_) (fun h13 => ?_)
                          · replace h13 := of_not_T h13
                            refine OF rfl rfl (not_F h13) rfl <| OF rfl rfl (not_F h13) rfl <| OF rfl rfl (not_F h13) rfl <| OU rfl rfl rfl <| OU rfl rfl rfl <| OU rfl rfl rfl <| OF rfl rfl (not_F h13) rfl <| PT rfl rfl (not_F h13) rfl <| MV rfl rfl <| OF rfl rfl rfl rfl <| OF rfl rfl rfl rfl <| OF rfl rfl rfl rfl <| OF rfl rfl rfl rfl <| OU rfl rfl rfl <| OU rfl rfl rfl <| OU rfl rfl rfl <| OF rfl rfl rfl rfl <| PT rfl rfl rfl rfl <| AS rfl rfl <| ND <| ?_
                            refine CT rfl rfl <| SQ <| RG <| AS rfl rfl <| ND <| ret_cv Try.func58 (res1 Try.func58 rfl (rv_tmp rfl)) <| ?_
                            simp [isStream, isStreamW, h1, h2, h3, h4, h5, h6, h7, h8, h9, h10, h11, h12, h13]
                          · replace h13 := of_not_F h13
                            refine ON rfl rfl (not_T h13) <| FA rfl tyF_impl_Stream_9 rfl <| ON rfl rfl (not_T h13) <| LD (i := 0) rfl tyP_bool rfl rfl rfl <| ON rfl rfl (not_T h13) <| MV rfl rfl <| ?_
                            refine rw_case (j := 83) rfl (fun h14 => ?_) (fun h14 => ?_)
                            · refine ON rfl rfl h14 <| FA rfl tyF_impl_Stream_11 rfl <| ON rfl rfl h14 <| LD (i := 0) rfl tyP_bool rfl rfl rfl <| ON rfl rfl h14 <| NT rfl rfl <| ON rfl rfl (not_T h13) <| PT rfl rfl h14 rfl <| PF rfl rfl (not_T h13) rfl <| MV rfl rfl <| ?_
                              refine rw_case (j := 89) rfl (fun h15 => ?_) (fun h15 => ?_)
                              · replace h15 := of_not_T h15
                                refine OF rfl rfl (not_F h15) rfl <| OF rfl rfl (not_F h15) rfl <| OF rfl rfl (not_F h15) rfl <| OF rfl rfl (not_F h15) rfl <| OU rfl rfl rfl <| OU rfl rfl rfl <| OU rfl rfl rfl <| OF rfl rfl (not_F h15) rfl <| PT rfl rfl (not_F h15) rfl <| AS rfl rfl <| ND <| CT rfl rfl <| SQ <| RG <| AS rfl rfl <| ND <| ret_cv Try.func58 (res1 Try.func58 rfl (rv_tmp rfl)) <| ?_
                                simp [isStream, isStreamW, h1, h2, h3, h4, h5, h6, h7, h8, h9, h10, h11, h12, h13, h14, h15]
                              · replace h15 := of_not_F h15
                                refine ON rfl rfl (not_T h15) <| FA rfl tyF_impl_Stream_12 rfl <| ON rfl rfl (not_T h15) <| LD (i := 0) rfl tyP_int rfl rfl rfl <| ON rfl rfl (not_T h15) <| rw_neq rfl rfl rfl <| ON rfl rfl (not_T h15) <| MV rfl rfl <| ?_
                                refine rw_case (j := 93) rfl (fun h16 => ?_) (fun h16 => ?_)
                                · replace h16 := of_not_T h16
                                  refine ON rfl rfl (not_F h16) <| FA rfl tyF_impl_Stream_11 rfl <| ON rfl rfl (not_F h16) <| LD (i := 0) rfl tyP_bool rfl rfl rfl <| ON rfl rfl (not_F h16) <| NT rfl rfl <| ON rfl rfl (not_T h15) <| PT rfl rfl (not_F h16) rfl <| PF rfl rfl (not_T h15) rfl <| AS rfl rfl <| ND <| CF rfl (not_T h15) <| SQ <| RG <| FA rfl tyF_impl_Stream_6 rfl <| LD (i := 0) rfl tyP_bool rfl rfl rfl <| NT rfl rfl <| MV rfl rfl <| ON rfl rfl (not_F h8) <| FA rfl tyF_impl_Stream_1 rfl <| ?_
                                  refine ON rfl rfl (not_F h8) <| FA rfl tyF_impl_Sender_0 rfl <| ON rfl rfl (not_F h8) <| LD (i := 0) rfl tyP_int rfl rfl rfl <| ON rfl rfl (not_F h8) <| rw_neq rfl rfl rfl <| ON rfl rfl (not_F h8) <| MV rfl rfl <| ?_
                                  refine rw_case (j := 108) rfl (fun h17 => ?_) (fun h17 => ?_)
                                  · replace h17 := of_not_T h17
                                    refine OF rfl rfl (not_F h17) rfl <| OF rfl rfl (not_F h17) rfl <| OF rfl rfl (not_F h17) rfl <| OF rfl rfl (not_F h17) rfl <| OF rfl rfl (not_F h17) rfl <| ON rfl rfl (not_F h8) <| PT rfl rfl (not_F h17) rfl <| ON rfl rfl (not_F h8) <| MV rfl rfl <| OF rfl rfl rfl rfl <| OF rfl rfl rfl rfl <| OF rfl rfl rfl rfl <| OF rfl rfl rfl rfl <| ON rfl rfl (not_F h8) <| PT rfl rfl rfl rfl <| PT rfl rfl (not_F h8) rfl <| AS rfl rfl <| ND <| CT rfl rfl <| SQ <| ?_
                                    refine RG <| AS rfl rfl <| ND <| ret_cv Try.func58 (res1 Try.func58 rfl (rv_tmp rfl)) <| ?_
                                    simp [isStream, isStreamW, h1, h2, h3, h4, h5, h6, h7, h8, h9, h10, h11, h12, h13, h14, h15, h16, h17]
                                  · replace h17 := of_not_F h17
                                    refine ON rfl rfl (not_T h17) <| FA rfl tyF_impl_Stream_1 rfl <| ON rfl rfl (not_T h17) <| FA rfl tyF_impl_Sender_1 rfl <| ON rfl rfl (not_T h17) <| FA rfl tyF_impl_Ring_2 rfl <| ON rfl rfl (not_T h17) <| LD (i := 0) rfl tyP_int rfl rfl rfl <| ON rfl rfl (not_T h17) <| rw_neq rfl rfl rfl <| ON rfl rfl (not_F h8) <| PF rfl rfl (not_T h17) rfl <| ON rfl rfl (not_F h8) <| MV rfl rfl <| ?_
                                    refine rw_case (j := 115) rfl (fun h18 => ?_) (fun h18 => ?_)
                                    · replace h18 := of_not_T h18
                                      refine OF rfl rfl (not_F h18) rfl <| OF rfl rfl (not_F h18) rfl <| OF rfl rfl (not_F h18) rfl <| OF rfl rfl (not_F h18) rfl <| ON rfl rfl (not_F h8) <| PT rfl rfl (not_F h18) rfl <| PT rfl rfl (not_F h8) rfl <| AS rfl rfl <| ND <| CT rfl rfl <| SQ <| RG <| AS rfl rfl <| ND <| ret_cv Try.func58 (res1 Try.func58 rfl (rv_tmp rfl)) <| ?_
                                      simp [isStream, isStreamW, h1, h2, h3, h4, h5, h6, h7, h8, h9, h10, h11, h12, h13, h14, h15, h16, h17, h18]
                                    · replace h18 := of_not_F h18
                                      refine ON rfl rfl (not_T h18) <| FA rfl tyF_impl_Stream_1 rfl <| ON rfl rfl (not_T h18) <| FA rfl tyF_impl_Sender_5 rfl <| ON rfl rfl (not_T h18) <| LD (i := 0) rfl tyP_int rfl rfl rfl <| ON rfl rfl (not_T h18) <| rw_neq rfl rfl rfl <| ON rfl rfl (not_F h8) <| PF rfl rfl (not_T h18) rfl <| PT rfl rfl (not_F h8) rfl <| AS rfl rfl <| ND <| ?_
                                      refine gw_cond rfl (fun h19 => ?_) (fun h19 => ?_)
                                      · replace h19 := of_not_T h19
                                        refine SQ <| RG <| AS rfl rfl <| ND <| ret_cv Try.func58 (res1 Try.func58 rfl (rv_tmp rfl)) <| ?_
                                        simp [isStream, isStreamW, h1, h2, h3, h4, h5, h6, h7, h8, h9, h10, h11, h12, h13, h14, h15, h16, h17, h18, h19]
                                      · replace h19 := of_not_F h19
                                        refine SK <| IB <| SQ <| RG <| FA rfl tyF_impl_Stream_7 rfl <| LD (i := 0) rfl tyP_bool rfl rfl rfl <| MV rfl rfl <| OF rfl rfl h9 rfl <| OF rfl rfl h9 rfl <| OF rfl rfl h9 rfl <| OF rfl rfl h9 rfl <| OF rfl rfl h9 rfl <| OU rfl rfl rfl <| OU rfl rfl rfl <| OU rfl rfl rfl <| OU rfl rfl rfl <| OF rfl rfl h9 rfl <| OF rfl rfl h9 rfl <| OU rfl rfl rfl <| OU rfl rfl rfl <| OU rfl rfl rfl <| OF rfl rfl h9 rfl <| PT rfl rfl h9 rfl <| ?_
                                        refine AS rfl rfl <| ND <| ret_cv Try.func58 (res1 Try.func58 rfl (rv_tmp rfl)) <| ?_
                                        simp [isStream, isStreamW, h1, h2, h3, h4, h5, h6, h7, h8, h9, h10, h11, h12, h13, h14, h15, h16, h17, h18, h19]
                                · replace h16 := of_not_F h16
                                  refine OF rfl rfl (not_T h16) rfl <| OF rfl rfl (not_T h16) rfl <| OF rfl rfl (not_T h16) rfl <| ON rfl rfl (not_T h15) <| PF rfl rfl (not_T h16) rfl <| PF rfl rfl (not_T h15) rfl <| AS rfl rfl <| ND <| CF rfl rfl <| SQ <| RG <| FA rfl tyF_impl_Stream_6 rfl <| LD (i := 0) rfl tyP_bool rfl rfl rfl <| NT rfl rfl <| MV rfl rfl <| ON rfl rfl (not_F h8) <| FA rfl tyF_impl_Stream_1 rfl <| ON rfl rfl (not_F h8) <| FA rfl tyF_impl_Sender_0 rfl <| ON rfl rfl (not_F h8) <| ?_
                                  refine LD (i := 0) rfl tyP_int rfl rfl rfl <| ON rfl rfl (not_F h8) <| rw_neq rfl rfl rfl <| ON rfl rfl (not_F h8) <| MV rfl rfl <| ?_
                                  refine rw_case (j := 108) rfl (fun h20 => ?_) (fun h20 => ?_)
                                  · replace h20 := of_not_T h20
                                    refine OF rfl rfl (not_F h20) rfl <| OF rfl rfl (not_F h20) rfl <| OF rfl rfl (not_F h20) rfl <| OF rfl rfl (not_F h20) rfl <| OF rfl rfl (not_F h20) rfl <| ON rfl rfl (not_F h8) <| PT rfl rfl (not_F h20) rfl <| ON rfl rfl (not_F h8) <| MV rfl rfl <| OF rfl rfl rfl rfl <| OF rfl rfl rfl rfl <| OF rfl rfl rfl rfl <| OF rfl rfl rfl rfl <| ON rfl rfl (not_F h8) <| PT rfl rfl rfl rfl <| PT rfl rfl (not_F h8) rfl <| AS rfl rfl <| ND <| CT rfl rfl <| SQ <| ?_
                                    refine RG <| AS rfl rfl <| ND <| ret_cv Try.func58 (res1 Try.func58 rfl (rv_tmp rfl)) <| ?_
                                    simp [isStream, isStreamW, h1, h2, h3, h4, h5, h6, h7, h8, h9, h10, h11, h12, h13, h14, h15, h16, h20]
                                  · replace h20 := of_not_F h20
                                    refine ON rfl rfl (not_T h20) <| FA rfl tyF_impl_Stream_1 rfl <| ON rfl rfl (not_T h20) <| FA rfl tyF_impl_Sender_1 rfl <| ON rfl rfl (not_T h20) <| FA rfl tyF_impl_Ring_2 rfl <| ON rfl rfl (not_T h20) <| LD (i := 0) rfl tyP_int rfl rfl rfl <| ON rfl rfl (not_T h20) <| rw_neq rfl rfl rfl <| ON rfl rfl (not_F h8) <| PF rfl rfl (not_T h20) rfl <| ON rfl rfl (not_F h8) <| MV rfl rfl <| ?_
                                    refine rw_case (j := 115) rfl (fun h21 => ?_) (fun h21 => ?_)
                                    · replace h21 := of_not_T h21
                                      refine OF rfl rfl (not_F h21) rfl <| OF rfl rfl (not_F h21) rfl <| OF rfl rfl (not_F h21) rfl <| OF rfl rfl (not_F h21) rfl <| ON rfl rfl (not_F h8) <| PT rfl rfl (not_F h21) rfl <| PT rfl rfl (not_F h8) rfl <| AS rfl rfl <| ND <| CT rfl rfl <| SQ <| RG <| AS rfl rfl <| ND <| ret_cv Try.func58 (res1 Try.func58 rfl (rv_tmp rfl)) <| ?_
                                      simp [isStream, isStreamW, h1, h2, h3, h4, h5, h6, h7, h8, h9, h10, h11, h12, h13, h14, h15, h16, h20, h21]
                                    · replace h21 := of_not_F h21
                                      refine ON rfl rfl (not_T h21) <| FA rfl tyF_impl_Stream_1 rfl <| ON rfl rfl (not_T h21) <| FA rfl tyF_impl_Sender_5 rfl <| ON rfl rfl (not_T h21) <| LD (i := 0) rfl tyP_int rfl rfl rfl <| ON rfl rfl (not_T h21) <| rw_neq rfl rfl rfl <| ON rfl rfl (not_F h8) <| PF rfl rfl (not_T h21) rfl <| PT rfl rfl (not_F h8) rfl <| AS rfl rfl <| ND <| ?_
                                      refine gw_cond rfl (fun h22 => ?_) (fun h22 => ?_)
                                      · replace h22 := of_not_T h22
                                        refine SQ <| RG <| AS rfl rfl <| ND <| ret_cv Try.func58 (res1 Try.func58 rfl (rv_tmp rfl)) <| ?_
                                        simp [isStream, isStreamW, h1, h2, h3, h4, h5, h6, h7, h8, h9, h10, h11, h12, h13, h14, h15, h16, h20, h21, h22]
                                      · replace h22 := of_not_F h22
                                        refine SK <| IB <| SQ <| RG <| FA rfl tyF_impl_Stream_7 rfl <| LD (i := 0) rfl tyP_bool rfl rfl rfl <| MV rfl rfl <| OF rfl rfl h9 rfl <| OF rfl rfl h9 rfl <| OF rfl rfl h9 rfl <| OF rfl rfl h9 rfl <| OF rfl rfl h9 rfl <| OU rfl rfl rfl <| OU rfl rfl rfl <| OU rfl rfl rfl <| OU rfl rfl rfl <| OF rfl rfl h9 rfl <| OF rfl rfl h9 rfl <| OU rfl rfl rfl <| OU rfl rfl rfl <| OU rfl rfl rfl <| OF rfl rfl h9 rfl <| PT rfl rfl h9 rfl <| ?_
                                        refine AS rfl rfl <| ND <| ret_cv Try.func58 (res1 Try.func58 rfl (rv_tmp rfl)) <| ?_
                                        simp [isStream, isStreamW, h1, h2, h3, h4, h5, h6, h7, h8, h9, h10, h11, h12, h13, h14, h15, h16, h20, h21, h22]
                            · refine OF rfl rfl h14 rfl <| OF rfl rfl h14 rfl <| OF rfl rfl h14 rfl <| ON rfl rfl (not_T h13) <| PF rfl rfl h14 rfl <| PF rfl rfl (not_T h13) rfl <| MV rfl rfl <| ON rfl rfl rfl <| FA rfl tyF_impl_Stream_12 rfl <| ON rfl rfl rfl <| LD (i := 0) rfl tyP_int rfl rfl rfl <| ON rfl rfl rfl <| rw_neq rfl rfl rfl <| ON rfl rfl rfl <| MV rfl rfl <| ?_
                              refine rw_case (j := 93) rfl (fun h23 => ?_) (fun h23 => ?_)
                              · replace h23 := of_not_T h23
                                refine ON rfl rfl (not_F h23) <| FA rfl tyF_impl_Stream_11 rfl <| ON rfl rfl (not_F h23) <| LD (i := 0) rfl tyP_bool rfl rfl rfl <| ON rfl rfl (not_F h23) <| NT rfl rfl <| ON rfl rfl rfl <| PT rfl rfl (not_F h23) rfl <| PF rfl rfl rfl rfl <| AS rfl rfl <| ND <| ?_
                                refine gw_cond rfl (fun h24 => ?_) (fun h24 => ?_)
                                · replace h24 := of_not_T h24
                                  refine SQ <| RG <| AS rfl rfl <| ND <| ret_cv Try.func58 (res1 Try.func58 rfl (rv_tmp rfl)) <| ?_
                                  simp [isStream, isStreamW, h1, h2, h3, h4, h5, h6, h7, h8, h9, h10, h11, h12, h13, h14, h23, h24]
                                · replace h24 := of_not_F h24
                                  refine SQ <| RG <| FA rfl tyF_impl_Stream_6 rfl <| LD (i := 0) rfl tyP_bool rfl rfl rfl <| NT rfl rfl <| MV rfl rfl <| ON rfl rfl (not_F h8) <| FA rfl tyF_impl_Stream_1 rfl <| ON rfl rfl (not_F h8) <| FA rfl tyF_impl_Sender_0 rfl <| ON rfl rfl (not_F h8) <| LD (i := 0) rfl tyP_int rfl rfl rfl <| ON rfl rfl (not_F h8) <| rw_neq rfl rfl rfl <| ON rfl rfl (not_F h8) <| MV rfl rfl <| ?_
                                  refine rw_case (j := 108) rfl (fun h25 => ?_) (fun h25 => ?_)
                                  · replace h25 := of_not_T h25
                                    refine OF rfl rfl (not_F h25) rfl <| OF rfl rfl (not_F h25) rfl <| OF rfl rfl (not_F h25) rfl <| OF rfl rfl (not_F h25) rfl <| OF rfl rfl (not_F h25) rfl <| ON rfl rfl (not_F h8) <| PT rfl rfl (not_F h25) rfl <| ON rfl rfl (not_F h8) <| MV rfl rfl <| OF rfl rfl rfl rfl <| OF rfl rfl rfl rfl <| OF rfl rfl rfl rfl <| OF rfl rfl rfl rfl <| ON rfl rfl (not_F h8) <| PT rfl rfl rfl rfl <| PT rfl rfl (not_F h8) rfl <| AS rfl rfl <| ND <| CT rfl rfl <| SQ <| ?_
                                    refine RG <| AS rfl rfl <| ND <| ret_cv Try.func58 (res1 Try.func58 rfl (rv_tmp rfl)) <| ?_
                                    simp [isStream, isStreamW, h1, h2, h3, h4, h5, h6, h7, h8, h9, h10, h11, h12, h13, h14, h23, h24, h25]
                                  · replace h25 := of_not_F h25
                                    refine ON rfl rfl (not_T h25) <| FA rfl tyF_impl_Stream_1 rfl <| ON rfl rfl (not_T h25) <| FA rfl tyF_impl_Sender_1 rfl <| ON rfl rfl (not_T h25) <| FA rfl tyF_impl_Ring_2 rfl <| ON rfl rfl (not_T h25) <| LD (i := 0) rfl tyP_int rfl rfl rfl <| ON rfl rfl (not_T h25) <| rw_neq rfl rfl rfl <| ON rfl rfl (not_F h8) <| PF rfl rfl (not_T h25) rfl <| ON rfl rfl (not_F h8) <| MV rfl rfl <| ?_
                                    refine rw_case (j := 115) rfl (fun h26 => ?_) (fun h26 => ?_)
                                    · replace h26 := of_not_T h26
                                      refine OF rfl rfl (not_F h26) rfl <| OF rfl rfl (not_F h26) rfl <| OF rfl rfl (not_F h26) rfl <| OF rfl rfl (not_F h26) rfl <| ON rfl rfl (not_F h8) <| PT rfl rfl (not_F h26) rfl <| PT rfl rfl (not_F h8) rfl <| AS rfl rfl <| ND <| CT rfl rfl <| SQ <| RG <| AS rfl rfl <| ND <| ret_cv Try.func58 (res1 Try.func58 rfl (rv_tmp rfl)) <| ?_
                                      simp [isStream, isStreamW, h1, h2, h3, h4, h5, h6, h7, h8, h9, h10, h11, h12, h13, h14, h23, h24, h25, h26]
                                    · replace h26 := of_not_F h26
                                      refine ON rfl rfl (not_T h26) <| FA rfl tyF_impl_Stream_1 rfl <| ON rfl rfl (not_T h26) <| FA rfl tyF_impl_Sender_5 rfl <| ON rfl rfl (not_T h26) <| LD (i := 0) rfl tyP_int rfl rfl rfl <| ON rfl rfl (not_T h26) <| rw_neq rfl rfl rfl <| ON rfl rfl (not_F h8) <| PF rfl rfl (not_T h26) rfl <| PT rfl rfl (not_F h8) rfl <| AS rfl rfl <| ND <| ?_
                                      refine gw_cond rfl (fun h27 => ?_) (fun h27 => ?_)
                                      · replace h27 := of_not_T h27
                                        refine SQ <| RG <| AS rfl rfl <| ND <| ret_cv Try.func58 (res1 Try.func58 rfl (rv_tmp rfl)) <| ?_
                                        simp [isStream, isStreamW, h1, h2, h3, h4, h5, h6, h7, h8, h9, h10, h11, h12, h13, h14, h23, h24, h25, h26, h27]
                                      · replace h27 := of_not_F h27
                                        refine SK <| IB <| SQ <| RG <| FA rfl tyF_impl_Stream_7 rfl <| LD (i := 0) rfl tyP_bool rfl rfl rfl <| MV rfl rfl <| OF rfl rfl h9 rfl <| OF rfl rfl h9 rfl <| OF rfl rfl h9 rfl <| OF rfl rfl h9 rfl <| OF rfl rfl h9 rfl <| OU rfl rfl rfl <| OU rfl rfl rfl <| OU rfl rfl rfl <| OU rfl rfl rfl <| OF rfl rfl h9 rfl <| OF rfl rfl h9 rfl <| OU rfl rfl rfl <| OU rfl rfl rfl <| OU rfl rfl rfl <| OF rfl rfl h9 rfl <| PT rfl rfl h9 rfl <| ?_
                                        refine AS rfl rfl <| ND <| ret_cv Try.func58 (res1 Try.func58 rfl (rv_tmp rfl)) <| ?_
                                        simp [isStream, isStreamW, h1, h2, h3, h4, h5, h6, h7, h8, h9, h10, h11, h12, h13, h14, h23, h24, h25, h26, h27]
                              · replace h23 := of_not_F h23
                                refine OF rfl rfl (not_T h23) rfl <| OF rfl rfl (not_T h23) rfl <| OF rfl rfl (not_T h23) rfl <| ON rfl rfl rfl <| PF rfl rfl (not_T h23) rfl <| PF rfl rfl rfl rfl <| AS rfl rfl <| ND <| CF rfl rfl <| SQ <| RG <| FA rfl tyF_impl_Stream_6 rfl <| LD (i := 0) rfl tyP_bool rfl rfl rfl <| NT rfl rfl <| MV rfl rfl <| ON rfl rfl (not_F h8) <| FA rfl tyF_impl_Stream_1 rfl <| ON rfl rfl (not_F h8) <| FA rfl tyF_impl_Sender_0 rfl <| ON rfl rfl (not_F h8) <| ?_
                                refine LD (i := 0) rfl tyP_int rfl rfl rfl <| ON rfl rfl (not_F h8) <| rw_neq rfl rfl rfl <| ON rfl rfl (not_F h8) <| MV rfl rfl <| ?_
                                refine rw_case (j := 108) rfl (fun h28 => ?_) (fun h28 => ?_)
                                · replace h28 := of_not_T h28
                                  refine OF rfl rfl (not_F h28) rfl <| OF rfl rfl (not_F h28) rfl <| OF rfl rfl (not_F h28) rfl <| OF rfl rfl (not_F h28) rfl <| OF rfl rfl (not_F h28) rfl <| ON rfl rfl (not_F h8) <| PT rfl rfl (not_F h28) rfl <| ON rfl rfl (not_F h8) <| MV rfl rfl <| OF rfl rfl rfl rfl <| OF rfl rfl rfl rfl <| OF rfl rfl rfl rfl <| OF rfl rfl rfl rfl <| ON rfl rfl (not_F h8) <| PT rfl rfl rfl rfl <| PT rfl rfl (not_F h8) rfl <| AS rfl rfl <| ND <| CT rfl rfl <| SQ <| ?_
                                  refine RG <| AS rfl rfl <| ND <| ret_cv Try.func58 (res1 Try.func58 rfl (rv_tmp rfl)) <| ?_
                                  simp [isStream, isStreamW, h1, h2, h3, h4, h5, h6, h7, h8, h9, h10, h11, h12, h13, h14, h23, h28]
                                · replace h28 := of_not_F h28
                                  refine ON rfl rfl (not_T h28) <| FA rfl tyF_impl_Stream_1 rfl <| ON rfl rfl (not_T h28) <| FA rfl tyF_impl_Sender_1 rfl <| ON rfl rfl (not_T h28) <| FA rfl tyF_impl_Ring_2 rfl <| ON rfl rfl (not_T h28) <| LD (i := 0) rfl tyP_int rfl rfl rfl <| ON rfl rfl (not_T h28) <| rw_neq rfl rfl rfl <| ON rfl rfl (not_F h8) <| PF rfl rfl (not_T h28) rfl <| ON rfl rfl (not_F h8) <| MV rfl rfl <| ?_
                                  refine rw_case (j := 115) rfl (fun h29 => ?_) (fun h29 => ?_)
                                  · replace h29 := of_not_T h29
                                    refine OF rfl rfl (not_F h29) rfl <| OF rfl rfl (not_F h29) rfl <| OF rfl rfl (not_F h29) rfl <| OF rfl rfl (not_F h29) rfl <| ON rfl rfl (not_F h8) <| PT rfl rfl (not_F h29) rfl <| PT rfl rfl (not_F h8) rfl <| AS rfl rfl <| ND <| CT rfl rfl <| SQ <| RG <| AS rfl rfl <| ND <| ret_cv Try.func58 (res1 Try.func58 rfl (rv_tmp rfl)) <| ?_
                                    simp [isStream, isStreamW, h1, h2, h3, h4, h5, h6, h7, h8, h9, h10, h11, h12, h13, h14, h23, h28, h29]
                                  · replace h29 := of_not_F h29
                                    refine ON rfl rfl (not_T h29) <| FA rfl tyF_impl_Stream_1 rfl <| ON rfl rfl (not_T h29) <| FA rfl tyF_impl_Sender_5 rfl <| ON rfl rfl (not_T h29) <| LD (i := 0) rfl tyP_int rfl rfl rfl <| ON rfl rfl (not_T h29) <| rw_neq rfl rfl rfl <| ON rfl rfl (not_F h8) <| PF rfl rfl (not_T h29) rfl <| PT rfl rfl (not_F h8) rfl <| AS rfl rfl <| ND <| ?_
                                    refine gw_cond rfl (fun h30 => ?_) (fun h30 => ?_)
                                    · replace h30 := of_not_T h30
                                      refine SQ <| RG <| AS rfl rfl <| ND <| ret_cv Try.func58 (res1 Try.func58 rfl (rv_tmp rfl)) <| ?_
                                      simp [isStream, isStreamW, h1, h2, h3, h4, h5, h6, h7, h8, h9, h10, h11, h12, h13, h14, h23, h28, h29, h30]
                                    · replace h30 := of_not_F h30
                                      refine SK <| IB <| SQ <| RG <| FA rfl tyF_impl_Stream_7 rfl <| LD (i := 0) rfl tyP_bool rfl rfl rfl <| MV rfl rfl <| OF rfl rfl h9 rfl <| OF rfl rfl h9 rfl <| OF rfl rfl h9 rfl <| OF rfl rfl h9 rfl <| OF rfl rfl h9 rfl <| OU rfl rfl rfl <| OU rfl rfl rfl <| OU rfl rfl rfl <| OU rfl rfl rfl <| OF rfl rfl h9 rfl <| OF rfl rfl h9 rfl <| OU rfl rfl rfl <| OU rfl rfl rfl <| OU rfl rfl rfl <| OF rfl rfl h9 rfl <| PT rfl rfl h9 rfl <| ?_
                                      refine AS rfl rfl <| ND <| ret_cv Try.func58 (res1 Try.func58 rfl (rv_tmp rfl)) <| ?_
                                      simp [isStream, isStreamW, h1, h2, h3, h4, h5, h6, h7, h8, h9, h10, h11, h12, h13, h14, h23, h28, h29, h30]
                        · refine OF rfl rfl h12 rfl <| OF rfl rfl h12 rfl <| OF rfl rfl h12 rfl <| OF rfl rfl h12 rfl <| PF rfl rfl h12 rfl <| MV rfl rfl <| ON rfl rfl rfl <| FA rfl tyF_impl_Stream_9 rfl <| ON rfl rfl rfl <| LD (i := 0) rfl tyP_bool rfl rfl rfl <| ON rfl rfl rfl <| MV rfl rfl <| ?_
                          refine rw_case (j := 83) rfl (fun h31 => ?_) (fun h31 => ?_)
                          · refine ON rfl rfl h31 <| FA rfl tyF_impl_Stream_11 rfl <| ON rfl rfl h31 <| LD (i := 0) rfl tyP_bool rfl rfl rfl <| ON rfl rfl h31 <| NT rfl rfl <| ON rfl rfl rfl <| PT rfl rfl h31 rfl <| PF rfl rfl rfl rfl <| MV rfl rfl <| ?_
                            refine rw_case (j := 89) rfl (fun h32 => ?_) (fun h32 => ?_)
                            · replace h32 := of_not_T h32
                              refine OF rfl rfl (not_F h32) rfl <| OF rfl rfl (not_F h32) rfl <| OF rfl rfl (not_F h32) rfl <| OF rfl rfl (not_F h32) rfl <| OU rfl rfl rfl <| OU rfl rfl rfl <| OU rfl rfl rfl <| OF rfl rfl (not_F h32) rfl <| PT rfl rfl (not_F h32) rfl <| AS rfl rfl <| ND <| CT rfl rfl <| SQ <| RG <| AS rfl rfl <| ND <| ret_cv Try.func58 (res1 Try.func58 rfl (rv_tmp rfl)) <| ?_
                              simp [isStream, isStreamW, h1, h2, h3, h4, h5, h6, h7, h8, h9, h10, h11, h12, h31, h32]
                            · replace h32 := of_not_F h32
                              refine ON rfl rfl (not_T h32) <| FA rfl tyF_impl_Stream_12 rfl <| ON rfl rfl (not_T h32) <| LD (i := 0) rfl tyP_int rfl rfl rfl <| ON rfl rfl (not_T h32) <| rw_neq rfl rfl rfl <| ON rfl rfl (not_T h32) <| MV rfl rfl <| ?_
                              refine rw_case (j := 93) rfl (fun h33 => ?_) (fun h33 => ?_)
                              · replace h33 := of_not_T h33
                                refine ON rfl rfl (not_F h33) <| FA rfl tyF_impl_Stream_11 rfl <| ON rfl rfl (not_F h33) <| LD (i := 0) rfl tyP_bool rfl rfl rfl <| ON rfl rfl (not_F h33) <| NT rfl rfl <| ON rfl rfl (not_T h32) <| PT rfl rfl (not_F h33) rfl <| PF rfl rfl (not_T h32) rfl <| AS rfl rfl <| ND <| CF rfl (not_T h32) <| SQ <| RG <| FA rfl tyF_impl_Stream_6 rfl <| LD (i := 0) rfl tyP_bool rfl rfl rfl <| NT rfl rfl <| MV rfl rfl <| ON rfl rfl (not_F h8) <| FA rfl tyF_impl_Stream_1 rfl <| ?_
                                refine ON rfl rfl (not_F h8) <| FA rfl tyF_impl_Sender_0 rfl <| ON rfl rfl (not_F h8) <| LD (i := 0) rfl tyP_int rfl rfl rfl <| ON rfl rfl (not_F h8) <| rw_neq rfl rfl rfl <| ON rfl rfl (not_F h8) <| MV rfl rfl <| ?_
                                refine rw_case (j := 108) rfl (fun h34 => ?_) (fun h34 => ?_)
                                · replace h34 := of_not_T h34
                                  refine OF rfl rfl (not_F h34) rfl <| OF rfl rfl (not_F h34) rfl <| OF rfl rfl (not_F h34) rfl <| OF rfl rfl (not_F h34) rfl <| OF rfl rfl (not_F h34) rfl <| ON rfl rfl (not_F h8) <| PT rfl rfl (not_F h34) rfl <| ON rfl rfl (not_F h8) <| MV rfl rfl <| OF rfl rfl rfl rfl <| OF rfl rfl rfl rfl <| OF rfl rfl rfl rfl <| OF rfl rfl rfl rfl <| ON rfl rfl (not_F h8) <| PT rfl rfl rfl rfl <| PT rfl rfl (not_F h8) rfl <| AS rfl rfl <| ND <| CT rfl rfl <| SQ <| ?_
                                  refine RG <| AS rfl rfl <| ND <| ret_cv Try.func58 (res1 Try.func58 rfl (rv_tmp rfl)) <| ?_
                                  simp [isStream, isStreamW, h1, h2, h3, h4, h5, h6, h7, h8, h9, h10, h11, h12, h31, h32, h33, h34]
                                · replace h34 := of_not_F h34
                                  refine ON rfl rfl (not_T h34) <| FA rfl tyF_impl_Stream_1 rfl <| ON rfl rfl (not_T h34) <| FA rfl tyF_impl_Sender_1 rfl <| ON rfl rfl (not_T h34) <| FA rfl tyF_impl_Ring_2 rfl <| ON rfl rfl (not_T h34) <| LD (i := 0) rfl tyP_int rfl rfl rfl <| ON rfl rfl (not_T h34) <| rw_neq rfl rfl rfl <| ON rfl rfl (not_F h8) <| PF rfl rfl (not_T h34) rfl <| ON rfl rfl (not_F h8) <| MV rfl rfl <| ?_
                                  refine rw_case (j := 115) rfl (fun h35 => ?_) (fun h35 => ?_)
                                  · replace h35 := of_not_T h35
                                    refine OF rfl rfl (not_F h35) rfl <| OF rfl rfl (not_F h35) rfl <| OF rfl rfl (not_F h35) rfl <| OF rfl rfl (not_F h35) rfl <| ON rfl rfl (not_F h8) <| PT rfl rfl (not_F h35) rfl <| PT rfl rfl (not_F h8) rfl <| AS rfl rfl <| ND <| CT rfl rfl <| SQ <| RG <| AS rfl rfl <| ND <| ret_cv Try.func58 (res1 Try.func58 rfl (rv_tmp rfl)) <| ?_
                                    simp [isStream, isStreamW, h1, h2, h3, h4, h5, h6, h7, h8, h9, h10, h11, h12, h31, h32, h33, h34, h35]
                                  · replace h35 := of_not_F h35
                                    refine ON rfl rfl (not_T h35) <| FA rfl tyF_impl_Stream_1 rfl <| ON rfl rfl (not_T h35) <| FA rfl tyF_impl_Sender_5 rfl <| ON rfl rfl (not_T h35) <| LD (i := 0) rfl tyP_int rfl rfl rfl <| ON rfl rfl (not_T h35) <| rw_neq rfl rfl rfl <| ON rfl rfl (not_F h8) <| PF rfl rfl (not_T h35) rfl <| PT rfl rfl (not_F h8) rfl <| AS rfl rfl <| ND <| ?_
                                    refine gw_cond rfl (fun h36 => ?_) (fun h36 => ?_)
                                    · replace h36 := of_not_T h36
                                      refine SQ <| RG <| AS rfl rfl <| ND <| ret_cv Try.func58 (res1 Try.func58 rfl (rv_tmp rfl)) <| ?_
                                      simp [isStream, isStreamW, h1, h2, h3, h4, h5, h6, h7, h8, h9, h10, h11, h12, h31, h32, h33, h34, h35, h36]
                                    · replace h36 := of_not_F h36
                                      refine SK <| IB <| SQ <| RG <| FA rfl tyF_impl_Stream_7 rfl <| LD (i := 0) rfl tyP_bool rfl rfl rfl <| MV rfl rfl <| OF rfl rfl h9 rfl <| OF rfl rfl h9 rfl <| OF rfl rfl h9 rfl <| OF rfl rfl h9 rfl <| OF rfl rfl h9 rfl <| OU rfl rfl rfl <| OU rfl rfl rfl <| OU rfl rfl rfl <| OU rfl rfl rfl <| OF rfl rfl h9 rfl <| OF rfl rfl h9 rfl <| OU rfl rfl rfl <| OU rfl rfl rfl <| OU rfl rfl rfl <| OF rfl rfl h9 rfl <| PT rfl rfl h9 rfl <| ?_
                                      refine AS rfl rfl <| ND <| ret_cv Try.func58 (res1 Try.func58 rfl (rv_tmp rfl)) <| ?_
                                      simp [isStream, isStreamW, h1, h2, h3, h4, h5, h6, h7, h8, h9, h10, h11, h12, h31, h32, h33, h34, h35, h36]
                              · replace h33 := of_not_F h33
                                refine OF rfl rfl (not_T h33) rfl <| OF rfl rfl (not_T h33) rfl <| OF rfl rfl (not_T h33) rfl <| ON rfl rfl (not_T h32) <| PF rfl rfl (not_T h33) rfl <| PF rfl rfl (not_T h32) rfl <| AS rfl rfl <| ND <| CF rfl rfl <| SQ <| RG <| FA rfl tyF_impl_Stream_6 rfl <| LD (i := 0) rfl tyP_bool rfl rfl rfl <| NT rfl rfl <| MV rfl rfl <| ON rfl rfl (not_F h8) <| FA rfl tyF_impl_Stream_1 rfl <| ON rfl rfl (not_F h8) <| FA rfl tyF_impl_Sender_0 rfl <| ON rfl rfl (not_F h8) <| ?_
                                refine LD (i := 0) rfl tyP_int rfl rfl rfl <| ON rfl rfl (not_F h8) <| rw_neq rfl rfl rfl <| ON rfl rfl (not_F h8) <| MV rfl rfl <| ?_
                                refine rw_case (j := 108) rfl (fun h37 => ?_) (fun h37 => ?_)
                                · replace h37 := of_not_T h37
                                  refine OF rfl rfl (not_F h37) rfl <| OF rfl rfl (not_F h37) rfl <| OF rfl rfl (not_F h37) rfl <| OF rfl rfl (not_F h37) rfl <| OF rfl rfl (not_F h37) rfl <| ON rfl rfl (not_F h8) <| PT rfl rfl (not_F h37) rfl <| ON rfl rfl (not_F h8) <| MV rfl rfl <| OF rfl rfl rfl rfl <| OF rfl rfl rfl rfl <| OF rfl rfl rfl rfl <| OF rfl rfl rfl rfl <| ON rfl rfl (not_F h8) <| PT rfl rfl rfl rfl <| PT rfl rfl (not_F h8) rfl <| AS rfl rfl <| ND <| CT rfl rfl <| SQ <| ?_
                                  refine RG <| AS rfl rfl <| ND <| ret_cv Try.func58 (res1 Try.func58 rfl (rv_tmp rfl)) <| ?_
                                  simp [isStream, isStreamW, h1, h2, h3, h4, h5, h6, h7, h8, h9, h10, h11, h12, h31, h32, h33, h37]
                                · replace h37 := of_not_F h37
                                  refine ON rfl rfl (not_T h37) <| FA rfl tyF_impl_Stream_1 rfl <| ON rfl rfl (not_T h37) <| FA rfl tyF_impl_Sender_1 rfl <| ON rfl rfl (not_T h37) <| FA rfl tyF_impl_Ring_2 rfl <| ON rfl rfl (not_T h37) <| LD (i := 0) rfl tyP_int rfl rfl rfl <| ON rfl rfl (not_T h37) <| rw_neq rfl rfl rfl <| ON rfl rfl (not_F h8) <| PF rfl rfl (not_T h37) rfl <| ON rfl rfl (not_F h8) <| MV rfl rfl <| ?_
                                  refine rw_case (j := 115) rfl (fun h38 => ?_) (fun h38 => ?_)
                                  · replace h38 := of_not_T h38
                                    refine OF rfl rfl (not_F h38) rfl <| OF rfl rfl (not_F h38) rfl <| OF rfl rfl (not_F h38) rfl <| OF rfl rfl (not_F h38) rfl <| ON rfl rfl (not_F h8) <| PT rfl rfl (not_F h38) rfl <| PT rfl rfl (not_F h8) rfl <| AS rfl rfl <| ND <| CT rfl rfl <| SQ <| RG <| AS rfl rfl <| ND <| ret_cv Try.func58 (res1 Try.func58 rfl (rv_tmp rfl)) <| ?_
                                    simp [isStream, isStreamW, h1, h2, h3, h4, h5, h6, h7, h8, h9, h10, h11, h12, h31, h32, h33, h37, h38]
                                  · replace h38 := of_not_F h38
                                    refine ON rfl rfl (not_T h38) <| FA rfl tyF_impl_Stream_1 rfl <| ON rfl rfl (not_T h38) <| FA rfl tyF_impl_Sender_5 rfl <| ON rfl rfl (not_T h38) <| LD (i := 0) rfl tyP_int rfl rfl rfl <| ON rfl rfl (not_T h38) <| rw_neq rfl rfl rfl <| ON rfl rfl (not_F h8) <| PF rfl rfl (not_T h38) rfl <| PT rfl rfl (not_F h8) rfl <| AS rfl rfl <| ND <| ?_
                                    refine gw_cond rfl (fun h39 => ?_) (fun h39 => ?_)
                                    · replace h39 := of_not_T h39
                                      refine SQ <| RG <| AS rfl rfl <| ND <| ret_cv Try.func58 (res1 Try.func58 rfl (rv_tmp rfl)) <| ?_
                                      simp [isStream, isStreamW, h1, h2, h3, h4, h5, h6, h7, h8, h9, h10, h11, h12, h31, h32, h33, h37, h38, h39]
                                    · replace h39 := of_not_F h39
                                      refine SK <| IB <| SQ <| RG <| FA rfl tyF_impl_Stream_7 rfl <| LD (i := 0) rfl tyP_bool rfl rfl rfl <| MV rfl rfl <| OF rfl rfl h9 rfl <| OF rfl rfl h9 rfl <| OF rfl rfl h9 rfl <| OF rfl rfl h9 rfl <| OF rfl rfl h9 rfl <| OU rfl rfl rfl <| OU rfl rfl rfl <| OU rfl rfl rfl <| OU rfl rfl rfl <| OF rfl rfl h9 rfl <| OF rfl rfl h9 rfl <| OU rfl rfl rfl <| OU rfl rfl rfl <| OU rfl rfl rfl <| OF rfl rfl h9 rfl <| PT rfl rfl h9 rfl <| ?_
                                      refine AS rfl rfl <| ND <| ret_cv Try.func58 (res1 Try.func58 rfl (rv_tmp rfl)) <| ?_
                                      simp [isStream, isStreamW, h1, h2, h3, h4, h5, h6, h7, h8, h9, h10, h11, h12, h31, h32, h33, h37, h38, h39]
                          · refine OF rfl rfl h31 rfl <| OF rfl rfl h31 rfl <| OF rfl rfl h31 rfl <| ON rfl rfl rfl <| PF rfl rfl h31 rfl <| PF rfl rfl rfl rfl <| MV rfl rfl <| ON rfl rfl rfl <| FA rfl tyF_impl_Stream_12 rfl <| ON rfl rfl rfl <| LD (i := 0) rfl tyP_int rfl rfl rfl <| ON rfl rfl rfl <| rw_neq rfl rfl rfl <| ON rfl rfl rfl <| MV rfl rfl <| ?_
                            refine rw_case (j := 93) rfl (fun h40 => ?_) (fun h40 => ?_)
                            · replace h40 := of_not_T h40
                              refine ON rfl rfl (not_F h40) <| FA rfl tyF_impl_Stream_11 rfl <| ON rfl rfl (not_F h40) <| LD (i := 0) rfl tyP_bool rfl rfl rfl <| ON rfl rfl (not_F h40) <| NT rfl rfl <| ON rfl rfl rfl <| PT rfl rfl (not_F h40) rfl <| PF rfl rfl rfl rfl <| AS rfl rfl <| ND <| ?_
                              refine gw_cond rfl (fun h41 => ?_) (fun h41 => ?_)
                              · replace h41 := of_not_T h41
                                refine SQ <| RG <| AS rfl rfl <| ND <| ret_cv Try.func58 (res1 Try.func58 rfl (rv_tmp rfl)) <| ?_
                                simp [isStream, isStreamW, h1, h2, h3, h4, h5, h6, h7, h8, h9, h10, h11, h12, h31, h40, h41]
                              · replace h41 := of_not_F h41
                                refine SQ <| RG <| FA rfl tyF_impl_Stream_6 rfl <| LD (i := 0) rfl tyP_bool rfl rfl rfl <| NT rfl rfl <| MV rfl rfl <| ON rfl rfl (not_F h8) <| FA rfl tyF_impl_Stream_1 rfl <| ON rfl rfl (not_F h8) <| FA rfl tyF_impl_Sender_0 rfl <| ON rfl rfl (not_F h8) <| LD (i := 0) rfl tyP_int rfl rfl rfl <| ON rfl rfl (not_F h8) <| rw_neq rfl rfl rfl <| ON rfl rfl (not_F h8) <| MV rfl rfl <| ?_
                                refine rw_case (j := 108) rfl (fun h42 => ?_) (fun h42 => ?_)
                                · replace h42 := of_not_T h42
                                  refine OF rfl rfl (not_F h42) rfl <| OF rfl rfl (not_F h42) rfl <| OF rfl rfl (not_F h42) rfl <| OF rfl rfl (not_F h42) rfl <| OF rfl rfl (not_F h42) rfl <| ON rfl rfl (not_F h8) <| PT rfl rfl (not_F h42) rfl <| ON rfl rfl (not_F h8) <| MV rfl rfl <| OF rfl rfl rfl rfl <| OF rfl rfl rfl rfl <| OF rfl rfl rfl rfl <| OF rfl rfl rfl rfl <| ON rfl rfl (not_F h8) <| PT rfl rfl rfl rfl <| PT rfl rfl (not_F h8) rfl <| AS rfl rfl <| ND <| CT rfl rfl <| SQ <| ?_
                                  refine RG <| AS rfl rfl <| ND <| ret_cv Try.func58 (res1 Try.func58 rfl (rv_tmp rfl)) <| ?_
                                  simp [isStream, isStreamW, h1, h2, h3, h4, h5, h6, h7, h8, h9, h10, h11, h12, h31, h40, h41, h42]
                                · replace h42 := of_not_F h42
                                  refine ON rfl rfl (not_T h42) <| FA rfl tyF_impl_Stream_1 rfl <| ON rfl rfl (not_T h42) <| FA rfl tyF_impl_Sender_1 rfl <| ON rfl rfl (not_T h42) <| FA rfl tyF_impl_Ring_2 rfl <| ON rfl rfl (not_T h42) <| LD (i := 0) rfl tyP_int rfl rfl rfl <| ON rfl rfl (not_T h42) <| rw_neq rfl rfl rfl <| ON rfl rfl (not_F h8) <| PF rfl rfl (not_T h42) rfl <| ON rfl rfl (not_F h8) <| MV rfl rfl <| ?_
                                  refine rw_case (j := 115) rfl (fun h43 => ?_) (fun h43 => ?_)
                                  · replace h43 := of_not_T h43
                                    refine OF rfl rfl (not_F h43) rfl <| OF rfl rfl (not_F h43) rfl <| OF rfl rfl (not_F h43) rfl <| OF rfl rfl (not_F h43) rfl <| ON rfl rfl (not_F h8) <| PT rfl rfl (not_F h43) rfl <| PT rfl rfl (not_F h8) rfl <| AS rfl rfl <| ND <| CT rfl rfl <| SQ <| RG <| AS rfl rfl <| ND <| ret_cv Try.func58 (res1 Try.func58 rfl (rv_tmp rfl)) <| ?_
                                    simp [isStream, isStreamW, h1, h2, h3, h4, h5, h6, h7, h8, h9, h10, h11, h12, h31, h40, h41, h42, h43]
                                  · replace h43 := of_not_F h43
                                    refine ON rfl rfl (not_T h43) <| FA rfl tyF_impl_Stream_1 rfl <| ON rfl rfl (not_T h43) <| FA rfl tyF_impl_Sender_5 rfl <| ON rfl rfl (not_T h43) <| LD (i := 0) rfl tyP_int rfl rfl rfl <| ON rfl rfl (not_T h43) <| rw_neq rfl rfl rfl <| ON rfl rfl (not_F h8) <| PF rfl rfl (not_T h43) rfl <| PT rfl rfl (not_F h8) rfl <| AS rfl rfl <| ND <| ?_
                                    refine gw_cond rfl (fun h44 => ?_) (fun h44 => ?_)
                                    · replace h44 := of_not_T h44
                                      refine SQ <| RG <| AS rfl rfl <| ND <| ret_cv Try.func58 (res1 Try.func58 rfl (rv_tmp rfl)) <| ?_
                                      simp [isStream, isStreamW, h1, h2, h3, h4, h5, h6, h7, h8, h9, h10, h11, h12, h31, h40, h41, h42, h43, h44]
                                    · replace h44 := of_not_F h44
                                      refine SK <| IB <| SQ <| RG <| FA rfl tyF_impl_Stream_7 rfl <| LD (i := 0) rfl tyP_bool rfl rfl rfl <| MV rfl rfl <| OF rfl rfl h9 rfl <| OF rfl rfl h9 rfl <| OF rfl rfl h9 rfl <| OF rfl rfl h9 rfl <| OF rfl rfl h9 rfl <| OU rfl rfl rfl <| OU rfl rfl rfl <| OU rfl rfl rfl <| OU rfl rfl rfl <| OF rfl rfl h9 rfl <| OF rfl rfl h9 rfl <| OU rfl rfl rfl <| OU rfl rfl rfl <| OU rfl rfl rfl <| OF rfl rfl h9 rfl <| PT rfl rfl h9 rfl <| ?_
                                      refine AS rfl rfl <| ND <| ret_cv Try.func58 (res1 Try.func58 rfl (rv_tmp rfl)) <| ?_
                                      simp [isStream, isStreamW, h1, h2, h3, h4, h5, h6, h7, h8, h9, h10, h11, h12, h31, h40, h41, h42, h43, h44]
                            · replace h40 := of_not_F h40
                              refine OF rfl rfl (not_T h40) rfl <| OF rfl rfl (not_T h40) rfl <| OF rfl rfl (not_T h40) rfl <| ON rfl rfl rfl <| PF rfl rfl (not_T h40) rfl <| PF rfl rfl rfl rfl <| AS rfl rfl <| ND <| CF rfl rfl <| SQ <| RG <| FA rfl tyF_impl_Stream_6 rfl <| LD (i := 0) rfl tyP_bool rfl rfl rfl <| NT rfl rfl <| MV rfl rfl <| ON rfl rfl (not_F h8) <| FA rfl tyF_impl_Stream_1 rfl <| ON rfl rfl (not_F h8) <| FA rfl tyF_impl_Sender_0 rfl <| ON rfl rfl (not_F h8) <| ?_
                              refine LD (i := 0) rfl tyP_int rfl rfl rfl <| ON rfl rfl (not_F h8) <| rw_neq rfl rfl rfl <| ON rfl rfl (not_F h8) <| MV rfl rfl <| ?_
                              refine rw_case (j := 108) rfl (fun h45 => ?_) (fun h45 => ?_)
                              · replace h45 := of_not_T h45
                                refine OF rfl rfl (not_F h45) rfl <| OF rfl rfl (not_F h45) rfl <| OF rfl rfl (not_F h45) rfl <| OF rfl rfl (not_F h45) rfl <| OF rfl rfl (not_F h45) rfl <| ON rfl rfl (not_F h8) <| PT rfl rfl (not_F h45) rfl <| ON rfl rfl (not_F h8) <| MV rfl rfl <| OF rfl rfl rfl rfl <| OF rfl rfl rfl rfl <| OF rfl rfl rfl rfl <| OF rfl rfl rfl rfl <| ON rfl rfl (not_F h8) <| PT rfl rfl rfl rfl <| PT rfl rfl (not_F h8) rfl <| AS rfl rfl <| ND <| CT rfl rfl <| SQ <| ?_
                                refine RG <| AS rfl rfl <| ND <| ret_cv Try.func58 (res1 Try.func58 rfl (rv_tmp rfl)) <| ?_
                                simp [isStream, isStreamW, h1, h2, h3, h4, h5, h6, h7, h8, h9, h10, h11, h12, h31, h40, h45]
                              · replace h45 := of_not_F h45
                                refine ON rfl rfl (not_T h45) <| FA rfl tyF_impl_Stream_1 rfl <| ON rfl rfl (not_T h45) <| FA rfl tyF_impl_Sender_1 rfl <| ON rfl rfl (not_T h45) <| FA rfl tyF_impl_Ring_2 rfl <| ON rfl rfl (not_T h45) <| LD (i := 0) rfl tyP_int rfl rfl rfl <| ON rfl rfl (not_T h45) <| rw_neq rfl rfl rfl <| ON rfl rfl (not_F h8) <| PF rfl rfl (not_T h45) rfl <| ON rfl rfl (not_F h8) <| MV rfl rfl <| ?_
                                refine rw_case (j := 115) rfl (fun h46 => ?_) (fun h46 => ?_)
                                · replace h46 := of_not_T h46
                                  refine OF rfl rfl (not_F h46) rfl <| OF rfl rfl (not_F h46) rfl <| OF rfl rfl (not_F h46) rfl <| OF rfl rfl (not_F h46) rfl <| ON rfl rfl (not_F h8) <| PT rfl rfl (not_F h46) rfl <| PT rfl rfl (not_F h8) rfl <| AS rfl rfl <| ND <| CT rfl rfl <| SQ <| RG <| AS rfl rfl <| ND <| ret_cv Try.func58 (res1 Try.func58 rfl (rv_tmp rfl)) <| ?_
                                  simp [isStream, isStreamW, h1, h2, h3, h4, h5, h6, h7, h8, h9, h10, h11, h12, h31, h40, h45, h46]
                                · replace h46 := of_not_F h46
                                  refine ON rfl rfl (not_T h46) <| FA rfl tyF_impl_Stream_1 rfl <| ON rfl rfl (not_T h46) <| FA rfl tyF_impl_Sender_5 rfl <| ON rfl rfl (not_T h46) <| LD (i := 0) rfl tyP_int rfl rfl rfl <| ON rfl rfl (not_T h46) <| rw_neq rfl rfl rfl <| ON rfl rfl (not_F h8) <| PF rfl rfl (not_T h46) rfl <| PT rfl rfl (not_F h8) rfl <| AS rfl rfl <| ND <| ?_
                                  refine gw_cond rfl (fun h47 => ?_) (fun h47 => ?_)
                                  · replace h47 := of_not_T h47
                                    refine SQ <| RG <| AS rfl rfl <| ND <| ret_cv Try.func58 (res1 Try.func58 rfl (rv_tmp rfl)) <| ?_
                                    simp [isStream, isStreamW, h1, h2, h3, h4, h5, h6, h7, h8, h9, h10, h11, h12, h31, h40, h45, h46, h47]
                                  · replace h47 := of_not_F h47
                                    refine SK <| IB <| SQ <| RG <| FA rfl tyF_impl_Stream_7 rfl <| LD (i := 0) rfl tyP_bool rfl rfl rfl <| MV rfl rfl <| OF rfl rfl h9 rfl <| OF rfl rfl h9 rfl <| OF rfl rfl h9 rfl <| OF rfl rfl h9 rfl <| OF rfl rfl h9 rfl <| OU rfl rfl rfl <| OU rfl rfl rfl <| OU rfl rfl rfl <| OU rfl rfl rfl <| OF rfl rfl h9 rfl <| OF rfl rfl h9 rfl <| OU rfl rfl rfl <| OU rfl rfl rfl <| OU rfl rfl rfl <| OF rfl rfl h9 rfl <| PT rfl rfl h9 rfl <| ?_
                                    refine AS rfl rfl <| ND <| ret_cv Try.func58 (res1 Try.func58 rfl (rv_tmp rfl)) <| ?_
                                    simp [isStream, isStreamW, h1, h2, h3, h4, h5, h6, h7, h8, h9, h10, h11, h12, h31, h40, h45, h46, h47]
                · replace h8 := of_not_F h8
                  refine OF rfl rfl (not_T h8) rfl <| OF rfl rfl (not_T h8) rfl <| OF rfl rfl (not_T h8) rfl <| PF rfl rfl (not_T h8) rfl <| MV rfl rfl <| ON rfl rfl rfl <| FA rfl tyF_impl_Stream_1 rfl <| ON rfl rfl rfl <| FA rfl tyF_impl_Sender_7 rfl <| ON rfl rfl rfl <| LD (i := 0) rfl tyP_int rfl rfl rfl <| ON rfl rfl rfl <| FA rfl tyF_impl_Stream_2 rfl <| ON rfl rfl rfl <| FA rfl tyF_impl_Credit_1 rfl <| ON rfl rfl rfl <| LD (i := 0) rfl tyP_int rfl rfl rfl <| ?_
                  refine ON rfl rfl rfl <| rw_gtr rfl rfl rfl <| PF rfl rfl rfl rfl <| MV rfl rfl <| ?_
                  refine rw_case (j := 62) rfl (fun h48 => ?_) (fun h48 => ?_)
                  · refine OF rfl rfl h48 rfl <| OF rfl rfl h48 rfl <| OF rfl rfl h48 rfl <| OF rfl rfl h48 rfl <| OF rfl rfl h48 rfl <| OF rfl rfl h48 rfl <| OF rfl rfl h48 rfl <| PT rfl rfl h48 rfl <| AS rfl rfl <| ND <| CT rfl rfl <| SQ <| RG <| AS rfl rfl <| ND <| ret_cv Try.func58 (res1 Try.func58 rfl (rv_tmp rfl)) <| ?_
                    simp [isStream, isStreamW, h1, h2, h3, h4, h5, h6, h7, h8, h48]
                  · refine ON rfl rfl h48 <| FA rfl tyF_impl_Stream_3 rfl <| ON rfl rfl h48 <| FA rfl tyF_impl_Receiver_3 rfl <| ON rfl rfl h48 <| LD (i := 0) rfl tyP_int rfl rfl rfl <| ON rfl rfl h48 <| FA rfl tyF_impl_Stream_4 rfl <| ON rfl rfl h48 <| FA rfl tyF_impl_Window_3 rfl <| ON rfl rfl h48 <| LD (i := 0) rfl tyP_int rfl rfl rfl <| ON rfl rfl h48 <| rw_gtr rfl rfl rfl <| PF rfl rfl h48 rfl <| AS rfl rfl <| ND <| ?_
                    refine gw_cond rfl (fun h49 => ?_) (fun h49 => ?_)
                    · refine SQ <| RG <| AS rfl rfl <| ND <| ret_cv Try.func58 (res1 Try.func58 rfl (rv_tmp rfl)) <| ?_
                      simp [isStream, isStreamW, h1, h2, h3, h4, h5, h6, h7, h8, h48, h49]
                    · refine SQ <| RG <| FA rfl tyF_impl_Stream_8 rfl <| LD (i := 0) rfl tyP_bool rfl rfl rfl <| MV rfl rfl <| ?_
                      refine rw_case (j := 74) rfl (fun h50 => ?_) (fun h50 => ?_)
                      · refine ON rfl rfl h50 <| FA rfl tyF_impl_Stream_1 rfl <| ON rfl rfl h50 <| FA rfl tyF_impl_Sender_0 rfl <| ON rfl rfl h50 <| LD (i := 0) rfl tyP_int rfl rfl rfl <| ON rfl rfl h50 <| rw_neq rfl rfl rfl <| PT rfl rfl h50 rfl <| MV rfl rfl <| ?_
                        refine rw_case (j := 80) rfl (fun h51 => ?_) (fun h51 => ?_)
                        · replace h51 := of_not_T h51
                          refine OF rfl rfl (not_F h51) rfl <| OF rfl rfl (not_F h51) rfl <| OF rfl rfl (not_F h51) rfl <| OU rfl rfl rfl <| OU rfl rfl rfl <| OU rfl rfl rfl <| OF rfl rfl (not_F h51) rfl <| PT rfl rfl (not_F h51) rfl <| MV rfl rfl <| OF rfl rfl rfl rfl <| OF rfl rfl rfl rfl <| OF rfl rfl rfl rfl <| OF rfl rfl rfl rfl <| OU rfl rfl rfl <| OU rfl rfl rfl <| OU rfl rfl rfl <| OF rfl rfl rfl rfl <| PT rfl rfl rfl rfl <| AS rfl rfl <| ND <| ?_
                          refine CT rfl rfl <| SQ <| RG <| AS rfl rfl <| ND <| ret_cv Try.func58 (res1 Try.func58 rfl (rv_tmp rfl)) <| ?_
                          simp [isStream, isStreamW, h1, h2, h3, h4, h5, h6, h7, h8, h48, h49, h50, h51]
                        · replace h51 := of_not_F h51
                          refine ON rfl rfl (not_T h51) <| FA rfl tyF_impl_Stream_9 rfl <| ON rfl rfl (not_T h51) <| LD (i := 0) rfl tyP_bool rfl rfl rfl <| ON rfl rfl (not_T h51) <| MV rfl rfl <| ?_
                          refine rw_case (j := 83) rfl (fun h52 => ?_) (fun h52 => ?_)
                          · refine ON rfl rfl h52 <| FA rfl tyF_impl_Stream_11 rfl <| ON rfl rfl h52 <| LD (i := 0) rfl tyP_bool rfl rfl rfl <| ON rfl rfl h52 <| NT rfl rfl <| ON rfl rfl (not_T h51) <| PT rfl rfl h52 rfl <| PF rfl rfl (not_T h51) rfl <| MV rfl rfl <| ?_
                            refine rw_case (j := 89) rfl (fun h53 => ?_) (fun h53 => ?_)
                            · replace h53 := of_not_T h53
                              refine OF rfl rfl (not_F h53) rfl <| OF rfl rfl (not_F h53) rfl <| OF rfl rfl (not_F h53) rfl <| OF rfl rfl (not_F h53) rfl <| OU rfl rfl rfl <| OU rfl rfl rfl <| OU rfl rfl rfl <| OF rfl rfl (not_F h53) rfl <| PT rfl rfl (not_F h53) rfl <| AS rfl rfl <| ND <| CT rfl rfl <| SQ <| RG <| AS rfl rfl <| ND <| ret_cv Try.func58 (res1 Try.func58 rfl (rv_tmp rfl)) <| ?_
                              simp [isStream, isStreamW, h1, h2, h3, h4, h5, h6, h7, h8, h48, h49, h50, h51, h52, h53]
                            · replace h53 := of_not_F h53
                              refine ON rfl rfl (not_T h53) <| FA rfl tyF_impl_Stream_12 rfl <| ON rfl rfl (not_T h53) <| LD (i := 0) rfl tyP_int rfl rfl rfl <| ON rfl rfl (not_T h53) <| rw_neq rfl rfl rfl <| ON rfl rfl (not_T h53) <| MV rfl rfl <| ?_
                              refine rw_case (j := 93) rfl (fun h54 => ?_) (fun h54 => ?_)
                              · replace h54 := of_not_T h54
                                refine ON rfl rfl (not_F h54) <| FA rfl tyF_impl_Stream_11 rfl <| ON rfl rfl (not_F h54) <| LD (i := 0) rfl tyP_bool rfl rfl rfl <| ON rfl rfl (not_F h54) <| NT rfl rfl <| ON rfl rfl (not_T h53) <| PT rfl rfl (not_F h54) rfl <| PF rfl rfl (not_T h53) rfl <| AS rfl rfl <| ND <| CF rfl (not_T h53) <| SQ <| RG <| FA rfl tyF_impl_Stream_6 rfl <| LD (i := 0) rfl tyP_bool rfl rfl rfl <| NT rfl rfl <| MV rfl rfl <| OF rfl rfl (not_T h8) rfl <| OF rfl rfl (not_T h8) rfl <| ?_
                                refine OF rfl rfl (not_T h8) rfl <| OF rfl rfl (not_T h8) rfl <| OF rfl rfl (not_T h8) rfl <| OU rfl rfl rfl <| OU rfl rfl rfl <| OU rfl rfl rfl <| OU rfl rfl rfl <| OU rfl rfl rfl <| OF rfl rfl (not_T h8) rfl <| OF rfl rfl (not_T h8) rfl <| OU rfl rfl rfl <| OU rfl rfl rfl <| OU rfl rfl rfl <| OU rfl rfl rfl <| OF rfl rfl (not_T h8) rfl <| PF rfl rfl (not_T h8) rfl <| AS rfl rfl <| ND <| CF rfl rfl <| SK <| IB <| SQ <| RG <| FA rfl tyF_impl_Stream_7 rfl <| ?_
                                refine LD (i := 0) rfl tyP_bool rfl rfl rfl <| MV rfl rfl <| ?_
                                refine rw_case (j := 124) rfl (fun h55 => ?_) (fun h55 => ?_)
                                · refine OF rfl rfl h55 rfl <| OF rfl rfl h55 rfl <| OF rfl rfl h55 rfl <| OF rfl rfl h55 rfl <| OF rfl rfl h55 rfl <| OU rfl rfl rfl <| OU rfl rfl rfl <| OU rfl rfl rfl <| OU rfl rfl rfl <| OF rfl rfl h55 rfl <| OF rfl rfl h55 rfl <| OU rfl rfl rfl <| OU rfl rfl rfl <| OU rfl rfl rfl <| OF rfl rfl h55 rfl <| PT rfl rfl h55 rfl <| AS rfl rfl <| ND <| ret_cv Try.func58 (res1 Try.func58 rfl (rv_tmp rfl)) <| ?_
                                  simp [isStream, isStreamW, h1, h2, h3, h4, h5, h6, h7, h8, h48, h49, h50, h51, h52, h53, h54, h55]
                                · refine ON rfl rfl h55 <| FA rfl tyF_impl_Stream_3 rfl <| ON rfl rfl h55 <| FA rfl tyF_impl_Receiver_0 rfl <| ON rfl rfl h55 <| LD (i := 0) rfl tyP_int rfl rfl rfl <| ON rfl rfl h55 <| EQ1 rfl rfl rfl <| ON rfl rfl h55 <| MV rfl rfl <| ?_
                                  refine rw_case (j := 129) rfl (fun h56 => ?_) (fun h56 => ?_)
                                  · refine ON rfl rfl h56 <| FA rfl tyF_impl_Stream_3 rfl <| ON rfl rfl h56 <| FA rfl tyF_impl_Receiver_3 rfl <| ON rfl rfl h56 <| LD (i := 0) rfl tyP_int rfl rfl rfl <| ON rfl rfl h56 <| EQ1 rfl rfl rfl <| ON rfl rfl h55 <| PT rfl rfl h56 rfl <| ON rfl rfl h55 <| MV rfl rfl <| ?_
                                    refine rw_case (j := 135) rfl (fun h57 => ?_) (fun h57 => ?_)
                                    · refine ON rfl rfl h57 <| FA rfl tyF_impl_Stream_11 rfl <| ON rfl rfl h57 <| LD (i := 0) rfl tyP_bool rfl rfl rfl <| ON rfl rfl h57 <| NT rfl rfl <| ON rfl rfl h55 <| PT rfl rfl h57 rfl <| PF rfl rfl h55 rfl <| AS rfl rfl <| ND <| ret_cv Try.func58 (res1 Try.func58 rfl (rv_tmp rfl)) <| ?_
                                      simp [isStream, isStreamW, h1, h2, h3, h4, h5, h6, h7, h8, h48, h49, h50, h51, h52, h53, h54, h55, h56, h57]
                                    · refine OF rfl rfl h57 rfl <| OF rfl rfl h57 rfl <| OF rfl rfl h57 rfl <| ON rfl rfl h55 <| PF rfl rfl h57 rfl <| PF rfl rfl h55 rfl <| AS rfl rfl <| ND <| ret_cv Try.func58 (res1 Try.func58 rfl (rv_tmp rfl)) <| ?_
                                      simp [isStream, isStreamW, h1, h2, h3, h4, h5, h6, h7, h8, h48, h49, h50, h51, h52, h53, h54, h55, h56, h57]
                                  · refine OF rfl rfl h56 rfl <| OF rfl rfl h56 rfl <| OF rfl rfl h56 rfl <| OF rfl rfl h56 rfl <| ON rfl rfl h55 <| PF rfl rfl h56 rfl <| ON rfl rfl h55 <| MV rfl rfl <| OF rfl rfl rfl rfl <| OF rfl rfl rfl rfl <| OF rfl rfl rfl rfl <| ON rfl rfl h55 <| PF rfl rfl rfl rfl <| PF rfl rfl h55 rfl <| AS rfl rfl <| ND <| ret_cv Try.func58 (res1 Try.func58 rfl (rv_tmp rfl)) <| ?_
                                    simp [isStream, isStreamW, h1, h2, h3, h4, h5, h6, h7, h8, h48, h49, h50, h51, h52, h53, h54, h55, h56]
                              · replace h54 := of_not_F h54
                                refine OF rfl rfl (not_T h54) rfl <| OF rfl rfl (not_T h54) rfl <| OF rfl rfl (not_T h54) rfl <| ON rfl rfl (not_T h53) <| PF rfl rfl (not_T h54) rfl <| PF rfl rfl (not_T h53) rfl <| AS rfl rfl <| ND <| CF rfl rfl <| SQ <| RG <| FA rfl tyF_impl_Stream_6 rfl <| LD (i := 0) rfl tyP_bool rfl rfl rfl <| NT rfl rfl <| MV rfl rfl <| OF rfl rfl (not_T h8) rfl <| OF rfl rfl (not_T h8) rfl <| OF rfl rfl (not_T h8) rfl <| OF rfl rfl (not_T h8) rfl <| OF rfl rfl (not_T h8) rfl <| ?_
                                refine OU rfl rfl rfl <| OU rfl rfl rfl <| OU rfl rfl rfl <| OU rfl rfl rfl <| OU rfl rfl rfl <| OF rfl rfl (not_T h8) rfl <| OF rfl rfl (not_T h8) rfl <| OU rfl rfl rfl <| OU rfl rfl rfl <| OU rfl rfl rfl <| OU rfl rfl rfl <| OF rfl rfl (not_T h8) rfl <| PF rfl rfl (not_T h8) rfl <| AS rfl rfl <| ND <| CF rfl rfl <| SK <| IB <| SQ <| RG <| FA rfl tyF_impl_Stream_7 rfl <| LD (i := 0) rfl tyP_bool rfl rfl rfl <| MV rfl rfl <| ?_
                                refine rw_case (j := 124) rfl (fun h58 => ?_) (fun h58 => ?_)
                                · refine OF rfl rfl h58 rfl <| OF rfl rfl h58 rfl <| OF rfl rfl h58 rfl <| OF rfl rfl h58 rfl <| OF rfl rfl h58 rfl <| OU rfl rfl rfl <| OU rfl rfl rfl <| OU rfl rfl rfl <| OU rfl rfl rfl <| OF rfl rfl h58 rfl <| OF rfl rfl h58 rfl <| OU rfl rfl rfl <| OU rfl rfl rfl <| OU rfl rfl rfl <| OF rfl rfl h58 rfl <| PT rfl rfl h58 rfl <| AS rfl rfl <| ND <| ret_cv Try.func58 (res1 Try.func58 rfl (rv_tmp rfl)) <| ?_
                                  simp [isStream, isStreamW, h1, h2, h3, h4, h5, h6, h7, h8, h48, h49, h50, h51, h52, h53, h54, h58]
                                · refine ON rfl rfl h58 <| FA rfl tyF_impl_Stream_3 rfl <| ON rfl rfl h58 <| FA rfl tyF_impl_Receiver_0 rfl <| ON rfl rfl h58 <| LD (i := 0) rfl tyP_int rfl rfl rfl <| ON rfl rfl h58 <| EQ1 rfl rfl rfl <| ON rfl rfl h58 <| MV rfl rfl <| ?_
                                  refine rw_case (j := 129) rfl (fun h59 => ?_) (fun h59 => ?_)
                                  · refine ON rfl rfl h59 <| FA rfl tyF_impl_Stream_3 rfl <| ON rfl rfl h59 <| FA rfl tyF_impl_Receiver_3 rfl <| ON rfl rfl h59 <| LD (i := 0) rfl tyP_int rfl rfl rfl <| ON rfl rfl h59 <| EQ1 rfl rfl rfl <| ON rfl rfl h58 <| PT rfl rfl h59 rfl <| ON rfl rfl h58 <| MV rfl rfl <| ?_
                                    refine rw_case (j := 135) rfl (fun h60 => ?_) (fun h60 => ?_)
                                    · refine ON rfl rfl h60 <| FA rfl tyF_impl_Stream_11 rfl <| ON rfl rfl h60 <| LD (i := 0) rfl tyP_bool rfl rfl rfl <| ON rfl rfl h60 <| NT rfl rfl <| ON rfl rfl h58 <| PT rfl rfl h60 rfl <| PF rfl rfl h58 rfl <| AS rfl rfl <| ND <| ret_cv Try.func58 (res1 Try.func58 rfl (rv_tmp rfl)) <| ?_
                                      simp [isStream, isStreamW, h1, h2, h3, h4, h5, h6, h7, h8, h48, h49, h50, h51, h52, h53, h54, h58, h59, h60]
                                    · refine OF rfl rfl h60 rfl <| OF rfl rfl h60 rfl <| OF rfl rfl h60 rfl <| ON rfl rfl h58 <| PF rfl rfl h60 rfl <| PF rfl rfl h58 rfl <| AS rfl rfl <| ND <| ret_cv Try.func58 (res1 Try.func58 rfl (rv_tmp rfl)) <| ?_
                                      simp [isStream, isStreamW, h1, h2, h3, h4, h5, h6, h7, h8, h48, h49, h50, h51, h52, h53, h54, h58, h59, h60]
                                  · refine OF rfl rfl h59 rfl <| OF rfl rfl h59 rfl <| OF rfl rfl h59 rfl <| OF rfl rfl h59 rfl <| ON rfl rfl h58 <| PF rfl rfl h59 rfl <| ON rfl rfl h58 <| MV rfl rfl <| OF rfl rfl rfl rfl <| OF rfl rfl rfl rfl <| OF rfl rfl rfl rfl <| ON rfl rfl h58 <| PF rfl rfl rfl rfl <| PF rfl rfl h58 rfl <| AS rfl rfl <| ND <| ret_cv Try.func58 (res1 Try.func58 rfl (rv_tmp rfl)) <| ?_
                                    simp [isStream, isStreamW, h1, h2, h3, h4, h5, h6, h7, h8, h48, h49, h50, h51, h52, h53, h54, h58, h59]
                          · refine OF rfl rfl h52 rfl <| OF rfl rfl h52 rfl <| OF rfl rfl h52 rfl <| ON rfl rfl (not_T h51) <| PF rfl rfl h52 rfl <| PF rfl rfl (not_T h51) rfl <| MV rfl rfl <| ON rfl rfl rfl <| FA rfl tyF_impl_Stream_12 rfl <| ON rfl rfl rfl <| LD (i := 0) rfl tyP_int rfl rfl rfl <| ON rfl rfl rfl <| rw_neq rfl rfl rfl <| ON rfl rfl rfl <| MV rfl rfl <| ?_
                            refine rw_case (j := 93) rfl (fun h61 => ?_) (fun h61 => ?_)
                            · replace h61 := of_not_T h61
                              refine ON rfl rfl (not_F h61) <| FA rfl tyF_impl_Stream_11 rfl <| ON rfl rfl (not_F h61) <| LD (i := 0) rfl tyP_bool rfl rfl rfl <| ON rfl rfl (not_F h61) <| NT rfl rfl <| ON rfl rfl rfl <| PT rfl rfl (not_F h61) rfl <| PF rfl rfl rfl rfl <| AS rfl rfl <| ND <| ?_
                              refine gw_cond rfl (fun h62 => ?_) (fun h62 => ?_)
                              · replace h62 := of_not_T h62
                                refine SQ <| RG <| AS rfl rfl <| ND <| ret_cv Try.func58 (res1 Try.func58 rfl (rv_tmp rfl)) <| ?_
                                simp [isStream, isStreamW, h1, h2, h3, h4, h5, h6, h7, h8, h48, h49, h50, h51, h52, h61, h62]
                              · replace h62 := of_not_F h62
                                refine SQ <| RG <| FA rfl tyF_impl_Stream_6 rfl <| LD (i := 0) rfl tyP_bool rfl rfl rfl <| NT rfl rfl <| MV rfl rfl <| OF rfl rfl (not_T h8) rfl <| OF rfl rfl (not_T h8) rfl <| OF rfl rfl (not_T h8) rfl <| OF rfl rfl (not_T h8) rfl <| OF rfl rfl (not_T h8) rfl <| OU rfl rfl rfl <| OU rfl rfl rfl <| OU rfl rfl rfl <| OU rfl rfl rfl <| OU rfl rfl rfl <| OF rfl rfl (not_T h8) rfl <| OF rfl rfl (not_T h8) rfl <| OU rfl rfl rfl <| OU rfl rfl rfl <| ?_
                                refine OU rfl rfl rfl <| OU rfl rfl rfl <| OF rfl rfl (not_T h8) rfl <| PF rfl rfl (not_T h8) rfl <| AS rfl rfl <| ND <| CF rfl rfl <| SK <| IB <| SQ <| RG <| FA rfl tyF_impl_Stream_7 rfl <| LD (i := 0) rfl tyP_bool rfl rfl rfl <| MV rfl rfl <| ?_
                                refine rw_case (j := 124) rfl (fun h63 => ?_) (fun h63 => ?_)
                                · refine OF rfl rfl h63 rfl <| OF rfl rfl h63 rfl <| OF rfl rfl h63 rfl <| OF rfl rfl h63 rfl <| OF rfl rfl h63 rfl <| OU rfl rfl rfl <| OU rfl rfl rfl <| OU rfl rfl rfl <| OU rfl rfl rfl <| OF rfl rfl h63 rfl <| OF rfl rfl h63 rfl <| OU rfl rfl rfl <| OU rfl rfl rfl <| OU rfl rfl rfl <| OF rfl rfl h63 rfl <| PT rfl rfl h63 rfl <| AS rfl rfl <| ND <| ret_cv Try.func58 (res1 Try.func58 rfl (rv_tmp rfl)) <| ?_
                                  simp [isStream, isStreamW, h1, h2, h3, h4, h5, h6, h7, h8, h48, h49, h50, h51, h52, h61, h62, h63]
                                · refine ON rfl rfl h63 <| FA rfl tyF_impl_Stream_3 rfl <| ON rfl rfl h63 <| FA rfl tyF_impl_Receiver_0 rfl <| ON rfl rfl h63 <| LD (i := 0) rfl tyP_int rfl rfl rfl <| ON rfl rfl h63 <| EQ1 rfl rfl rfl <| ON rfl rfl h63 <| MV rfl rfl <| ?_
                                  refine rw_case (j := 129) rfl (fun h64 => ?_) (fun h64 => ?_)
                                  · refine ON rfl rfl h64 <| FA rfl tyF_impl_Stream_3 rfl <| ON rfl rfl h64 <| FA rfl tyF_impl_Receiver_3 rfl <| ON rfl rfl h64 <| LD (i := 0) rfl tyP_int rfl rfl rfl <| ON rfl rfl h64 <| EQ1 rfl rfl rfl <| ON rfl rfl h63 <| PT rfl rfl h64 rfl <| ON rfl rfl h63 <| MV rfl rfl <| ?_
                                    refine rw_case (j := 135) rfl (fun h65 => ?_) (fun h65 => ?_)
                                    · refine ON rfl rfl h65 <| FA rfl tyF_impl_Stream_11 rfl <| ON rfl rfl h65 <| LD (i := 0) rfl tyP_bool rfl rfl rfl <| ON rfl rfl h65 <| NT rfl rfl <| ON rfl rfl h63 <| PT rfl rfl h65 rfl <| PF rfl rfl h63 rfl <| AS rfl rfl <| ND <| ret_cv Try.func58 (res1 Try.func58 rfl (rv_tmp rfl)) <| ?_
                                      simp [isStream, isStreamW, h1, h2, h3, h4, h5, h6, h7, h8, h48, h49, h50, h51, h52, h61, h62, h63, h64, h65]
                                    · refine OF rfl rfl h65 rfl <| OF rfl rfl h65 rfl <| OF rfl rfl h65 rfl <| ON rfl rfl h63 <| PF rfl rfl h65 rfl <| PF rfl rfl h63 rfl <| AS rfl rfl <| ND <| ret_cv Try.func58 (res1 Try.func58 rfl (rv_tmp rfl)) <| ?_
                                      simp [isStream, isStreamW, h1, h2, h3, h4, h5, h6, h7, h8, h48, h49, h50, h51, h52, h61, h62, h63, h64, h65]
                                  · refine OF rfl rfl h64 rfl <| OF rfl rfl h64 rfl <| OF rfl rfl h64 rfl <| OF rfl rfl h64 rfl <| ON rfl rfl h63 <| PF rfl rfl h64 rfl <| ON rfl rfl h63 <| MV rfl rfl <| OF rfl rfl rfl rfl <| OF rfl rfl rfl rfl <| OF rfl rfl rfl rfl <| ON rfl rfl h63 <| PF rfl rfl rfl rfl <| PF rfl rfl h63 rfl <| AS rfl rfl <| ND <| ret_cv Try.func58 (res1 Try.func58 rfl (rv_tmp rfl)) <| ?_
                                    simp [isStream, isStreamW, h1, h2, h3, h4, h5, h6, h7, h8, h48, h49, h50, h51, h52, h61, h62, h63, h64]
                            · replace h61 := of_not_F h61
                              refine OF rfl rfl (not_T h61) rfl <| OF rfl rfl (not_T h61) rfl <| OF rfl rfl (not_T h61) rfl <| ON rfl rfl rfl <| PF rfl rfl (not_T h61) rfl <| PF rfl rfl rfl rfl <| AS rfl rfl <| ND <| CF rfl rfl <| SQ <| RG <| FA rfl tyF_impl_Stream_6 rfl <| LD (i := 0) rfl tyP_bool rfl rfl rfl <| NT rfl rfl <| MV rfl rfl <| OF rfl rfl (not_T h8) rfl <| OF rfl rfl (not_T h8) rfl <| OF rfl rfl (not_T h8) rfl <| OF rfl rfl (not_T h8) rfl <| OF rfl rfl (not_T h8) rfl <| ?_
                              refine OU rfl rfl rfl <| OU rfl rfl rfl <| OU rfl rfl rfl <| OU rfl rfl rfl <| OU rfl rfl rfl <| OF rfl rfl (not_T h8) rfl <| OF rfl rfl (not_T h8) rfl <| OU rfl rfl rfl <| OU rfl rfl rfl <| OU rfl rfl rfl <| OU rfl rfl rfl <| OF rfl rfl (not_T h8) rfl <| PF rfl rfl (not_T h8) rfl <| AS rfl rfl <| ND <| CF rfl rfl <| SK <| IB <| SQ <| RG <| FA rfl tyF_impl_Stream_7 rfl <| LD (i := 0) rfl tyP_bool rfl rfl rfl <| MV rfl rfl <| ?_
                              refine rw_case (j := 124) rfl (fun h66 => ?_) (fun h66 => ?_)
                              · refine OF rfl rfl h66 rfl <| OF rfl rfl h66 rfl <| OF rfl rfl h66 rfl <| OF rfl rfl h66 rfl <| OF rfl rfl h66 rfl <| OU rfl rfl rfl <| OU rfl rfl rfl <| OU rfl rfl rfl <| OU rfl rfl rfl <| OF rfl rfl h66 rfl <| OF rfl rfl h66 rfl <| OU rfl rfl rfl <| OU rfl rfl rfl <| OU rfl rfl rfl <| OF rfl rfl h66 rfl <| PT rfl rfl h66 rfl <| AS rfl rfl <| ND <| ret_cv Try.func58 (res1 Try.func58 rfl (rv_tmp rfl)) <| ?_
                                simp [isStream, isStreamW, h1, h2, h3, h4, h5, h6, h7, h8, h48, h49, h50, h51, h52, h61, h66]
                              · refine ON rfl rfl h66 <| FA rfl tyF_impl_Stream_3 rfl <| ON rfl rfl h66 <| FA rfl tyF_impl_Receiver_0 rfl <| ON rfl rfl h66 <| LD (i := 0) rfl tyP_int rfl rfl rfl <| ON rfl rfl h66 <| EQ1 rfl rfl rfl <| ON rfl rfl h66 <| MV rfl rfl <| ?_
                                refine rw_case (j := 129) rfl (fun h67 => ?_) (fun h67 => ?_)
                                · refine ON rfl rfl h67 <| FA rfl tyF_impl_Stream_3 rfl <| ON rfl rfl h67 <| FA rfl tyF_impl_Receiver_3 rfl <| ON rfl rfl h67 <| LD (i := 0) rfl tyP_int rfl rfl rfl <| ON rfl rfl h67 <| EQ1 rfl rfl rfl <| ON rfl rfl h66 <| PT rfl rfl h67 rfl <| ON rfl rfl h66 <| MV rfl rfl <| ?_
                                  refine rw_case (j := 135) rfl (fun h68 => ?_) (fun h68 => ?_)
                                  · refine ON rfl rfl h68 <| FA rfl tyF_impl_Stream_11 rfl <| ON rfl rfl h68 <| LD (i := 0) rfl tyP_bool rfl rfl rfl <| ON rfl rfl h68 <| NT rfl rfl <| ON rfl rfl h66 <| PT rfl rfl h68 rfl <| PF rfl rfl h66 rfl <| AS rfl rfl <| ND <| ret_cv Try.func58 (res1 Try.func58 rfl (rv_tmp rfl)) <| ?_
                                    simp [isStream, isStreamW, h1, h2, h3, h4, h5, h6, h7, h8, h48, h49, h50, h51, h52, h61, h66, h67, h68]
                                  · refine OF rfl rfl h68 rfl <| OF rfl rfl h68 rfl <| OF rfl rfl h68 rfl <| ON rfl rfl h66 <| PF rfl rfl h68 rfl <| PF rfl rfl h66 rfl <| AS rfl rfl <| ND <| ret_cv Try.func58 (res1 Try.func58 rfl (rv_tmp rfl)) <| ?_
                                    simp [isStream, isStreamW, h1, h2, h3, h4, h5, h6, h7, h8, h48, h49, h50, h51, h52, h61, h66, h67, h68]
                                · refine OF rfl rfl h67 rfl <| OF rfl rfl h67 rfl <| OF rfl rfl h67 rfl <| OF rfl rfl h67 rfl <| ON rfl rfl h66 <| PF rfl rfl h67 rfl <| ON rfl rfl h66 <| MV rfl rfl <| OF rfl rfl rfl rfl <| OF rfl rfl rfl rfl <| OF rfl rfl rfl rfl <| ON rfl rfl h66 <| PF rfl rfl rfl rfl <| PF rfl rfl h66 rfl <| AS rfl rfl <| ND <| ret_cv Try.func58 (res1 Try.func58 rfl (rv_tmp rfl)) <| ?_
                                  simp [isStream, isStreamW, h1, h2, h3, h4, h5, h6, h7, h8, h48, h49, h50, h51, h52, h61, h66, h67]
                      · refine OF rfl rfl h50 rfl <| OF rfl rfl h50 rfl <| OF rfl rfl h50 rfl <| OF rfl rfl h50 rfl <| PF rfl rfl h50 rfl <| MV rfl rfl <| ON rfl rfl rfl <| FA rfl tyF_impl_Stream_9 rfl <| ON rfl rfl rfl <| LD (i := 0) rfl tyP_bool rfl rfl rfl <| ON rfl rfl rfl <| MV rfl rfl <| ?_
                        refine rw_case (j := 83) rfl (fun h69 => ?_) (fun h69 => ?_)
                        · refine ON rfl rfl h69 <| FA rfl tyF_impl_Stream_11 rfl <| ON rfl rfl h69 <| LD (i := 0) rfl tyP_bool rfl rfl rfl <| ON rfl rfl h69 <| NT rfl rfl <| ON rfl rfl rfl <| PT rfl rfl h69 rfl <| PF rfl rfl rfl rfl <| MV rfl rfl <| ?_
                          refine rw_case (j := 89) rfl (fun h70 => ?_) (fun h70 => ?_)
                          · replace h70 := of_not_T h70
                            refine OF rfl rfl (not_F h70) rfl <| OF rfl rfl (not_F h70) rfl <| OF rfl rfl (not_F h70) rfl <| OF rfl rfl (not_F h70) rfl <| OU rfl rfl rfl <| OU rfl rfl rfl <| OU rfl rfl rfl <| OF rfl rfl (not_F h70) rfl <| PT rfl rfl (not_F h70) rfl <| AS rfl rfl <| ND <| CT rfl rfl <| SQ <| RG <| AS rfl rfl <| ND <| ret_cv Try.func58 (res1 Try.func58 rfl (rv_tmp rfl)) <| ?_
                            simp [isStream, isStreamW, h1, h2, h3, h4, h5, h6, h7, h8, h48, h49, h50, h69, h70]
                          · replace h70 := of_not_F h70
                            refine ON rfl rfl (not_T h70) <| FA rfl tyF_impl_Stream_12 rfl <| ON rfl rfl (not_T h70) <| LD (i := 0) rfl tyP_int rfl rfl rfl <| ON rfl rfl (not_T h70) <| rw_neq rfl rfl rfl <| ON rfl rfl (not_T h70) <| MV rfl rfl <| ?_
                            refine rw_case (j := 93) rfl (fun h71 => ?_) (fun h71 => ?_)
                            · replace h71 := of_not_T h71
                              refine ON rfl rfl (not_F h71) <| FA rfl tyF_impl_Stream_11 rfl <| ON rfl rfl (not_F h71) <| LD (i := 0) rfl tyP_bool rfl rfl rfl <| ON rfl rfl (not_F h71) <| NT rfl rfl <| ON rfl rfl (not_T h70) <| PT rfl rfl (not_F h71) rfl <| PF rfl rfl (not_T h70) rfl <| AS rfl rfl <| ND <| CF rfl (not_T h70) <| SQ <| RG <| FA rfl tyF_impl_Stream_6 rfl <| LD (i := 0) rfl tyP_bool rfl rfl rfl <| NT rfl rfl <| MV rfl rfl <| OF rfl rfl (not_T h8) rfl <| OF rfl rfl (not_T h8) rfl <| ?_
                              refine OF rfl rfl (not_T h8) rfl <| OF rfl rfl (not_T h8) rfl <| OF rfl rfl (not_T h8) rfl <| OU rfl rfl rfl <| OU rfl rfl rfl <| OU rfl rfl rfl <| OU rfl rfl rfl <| OU rfl rfl rfl <| OF rfl rfl (not_T h8) rfl <| OF rfl rfl (not_T h8) rfl <| OU rfl rfl rfl <| OU rfl rfl rfl <| OU rfl rfl rfl <| OU rfl rfl rfl <| OF rfl rfl (not_T h8) rfl <| PF rfl rfl (not_T h8) rfl <| AS rfl rfl <| ND <| CF rfl rfl <| SK <| IB <| SQ <| RG <| FA rfl tyF_impl_Stream_7 rfl <| ?_
                              refine LD (i := 0) rfl tyP_bool rfl rfl rfl <| MV rfl rfl <| ?_
                              refine rw_case (j := 124) rfl (fun h72 => ?_) (fun h72 => ?_)
                              · refine OF rfl rfl h72 rfl <| OF rfl rfl h72 rfl <| OF rfl rfl h72 rfl <| OF rfl rfl h72 rfl <| OF rfl rfl h72 rfl <| OU rfl rfl rfl <| OU rfl rfl rfl <| OU rfl rfl rfl <| OU rfl rfl rfl <| OF rfl rfl h72 rfl <| OF rfl rfl h72 rfl <| OU rfl rfl rfl <| OU rfl rfl rfl <| OU rfl rfl rfl <| OF rfl rfl h72 rfl <| PT rfl rfl h72 rfl <| AS rfl rfl <| ND <| ret_cv Try.func58 (res1 Try.func58 rfl (rv_tmp rfl)) <| ?_
                                simp [isStream, isStreamW, h1, h2, h3, h4, h5, h6, h7, h8, h48, h49, h50, h69, h70, h71, h72]
                              · refine ON rfl rfl h72 <| FA rfl tyF_impl_Stream_3 rfl <| ON rfl rfl h72 <| FA rfl tyF_impl_Receiver_0 rfl <| ON rfl rfl h72 <| LD (i := 0) rfl tyP_int rfl rfl rfl <| ON rfl rfl h72 <| EQ1 rfl rfl rfl <| ON rfl rfl h72 <| MV rfl rfl <| ?_
                                refine rw_case (j := 129) rfl (fun h73 => ?_) (fun h73 => ?_)
                                · refine ON rfl rfl h73 <| FA rfl tyF_impl_Stream_3 rfl <| ON rfl rfl h73 <| FA rfl tyF_impl_Receiver_3 rfl <| ON rfl rfl h73 <| LD (i := 0) rfl tyP_int rfl rfl rfl <| ON rfl rfl h73 <| EQ1 rfl rfl rfl <| ON rfl rfl h72 <| PT rfl rfl h73 rfl <| ON rfl rfl h72 <| MV rfl rfl <| ?_
                                  refine rw_case (j := 135) rfl (fun h74 => ?_) (fun h74 => ?_)
                                  · refine ON rfl rfl h74 <| FA rfl tyF_impl_Stream_11 rfl <| ON rfl rfl h74 <| LD (i := 0) rfl tyP_bool rfl rfl rfl <| ON rfl rfl h74 <| NT rfl rfl <| ON rfl rfl h72 <| PT rfl rfl h74 rfl <| PF rfl rfl h72 rfl <| AS rfl rfl <| ND <| ret_cv Try.func58 (res1 Try.func58 rfl (rv_tmp rfl)) <| ?_
                                    simp [isStream, isStreamW, h1, h2, h3, h4, h5, h6, h7, h8, h48, h49, h50, h69, h70, h71, h72, h73, h74]
                                  · refine OF rfl rfl h74 rfl <| OF rfl rfl h74 rfl <| OF rfl rfl h74 rfl <| ON rfl rfl h72 <| PF rfl rfl h74 rfl <| PF rfl rfl h72 rfl <| AS rfl rfl <| ND <| ret_cv Try.func58 (res1 Try.func58 rfl (rv_tmp rfl)) <| ?_
                                    simp [isStream, isStreamW, h1, h2, h3, h4, h5, h6, h7, h8, h48, h49, h50, h69, h70, h71, h72, h73, h74]
                                · refine OF rfl rfl h73 rfl <| OF rfl rfl h73 rfl <| OF rfl rfl h73 rfl <| OF rfl rfl h73 rfl <| ON rfl rfl h72 <| PF rfl rfl h73 rfl <| ON rfl rfl h72 <| MV rfl rfl <| OF rfl rfl rfl rfl <| OF rfl rfl rfl rfl <| OF rfl rfl rfl rfl <| ON rfl rfl h72 <| PF rfl rfl rfl rfl <| PF rfl rfl h72 rfl <| AS rfl rfl <| ND <| ret_cv Try.func58 (res1 Try.func58 rfl (rv_tmp rfl)) <| ?_
                                  simp [isStream, isStreamW, h1, h2, h3, h4, h5, h6, h7, h8, h48, h49, h50, h69, h70, h71, h72, h73]
                            · replace h71 := of_not_F h71
                              refine OF rfl rfl (not_T h71) rfl <| OF rfl rfl (not_T h71) rfl <| OF rfl rfl (not_T h71) rfl <| ON rfl rfl (not_T h70) <| PF rfl rfl (not_T h71) rfl <| PF rfl rfl (not_T h70) rfl <| AS rfl rfl <| ND <| CF rfl rfl <| SQ <| RG <| FA rfl tyF_impl_Stream_6 rfl <| LD (i := 0) rfl tyP_bool rfl rfl rfl <| NT rfl rfl <| MV rfl rfl <| OF rfl rfl (not_T h8) rfl <| OF rfl rfl (not_T h8) rfl <| OF rfl rfl (not_T h8) rfl <| OF rfl rfl (not_T h8) rfl <| OF rfl rfl (not_T h8) rfl <| ?_
                              refine OU rfl rfl rfl <| OU rfl rfl rfl <| OU rfl rfl rfl <| OU rfl rfl rfl <| OU rfl rfl rfl <| OF rfl rfl (not_T h8) rfl <| OF rfl rfl (not_T h8) rfl <| OU rfl rfl rfl <| OU rfl rfl rfl <| OU rfl rfl rfl <| OU rfl rfl rfl <| OF rfl rfl (not_T h8) rfl <| PF rfl rfl (not_T h8) rfl <| AS rfl rfl <| ND <| CF rfl rfl <| SK <| IB <| SQ <| RG <| FA rfl tyF_impl_Stream_7 rfl <| LD (i := 0) rfl tyP_bool rfl rfl rfl <| MV rfl rfl <| ?_
                              refine rw_case (j := 124) rfl (fun h75 => ?_) (fun h75 => ?_)
                              · refine OF rfl rfl h75 rfl <| OF rfl rfl h75 rfl <| OF rfl rfl h75 rfl <| OF rfl rfl h75 rfl <| OF rfl rfl h75 rfl <| OU rfl rfl rfl <| OU rfl rfl rfl <| OU rfl rfl rfl <| OU rfl rfl rfl <| OF rfl rfl h75 rfl <| OF rfl rfl h75 rfl <| OU rfl rfl rfl <| OU rfl rfl rfl <| OU rfl rfl rfl <| OF rfl rfl h75 rfl <| PT rfl rfl h75 rfl <| AS rfl rfl <| ND <| ret_cv Try.func58 (res1 Try.func58 rfl (rv_tmp rfl)) <| ?_
                                simp [isStream, isStreamW, h1, h2, h3, h4, h5, h6, h7, h8, h48, h49, h50, h69, h70, h71, h75]
                              · refine ON rfl rfl h75 <| FA rfl tyF_impl_Stream_3 rfl <| ON rfl rfl h75 <| FA rfl tyF_impl_Receiver_0 rfl <| ON rfl rfl h75 <| LD (i := 0) rfl tyP_int rfl rfl rfl <| ON rfl rfl h75 <| EQ1 rfl rfl rfl <| ON rfl rfl h75 <| MV rfl rfl <| ?_
                                refine rw_case (j := 129) rfl (fun h76 => ?_) (fun h76 => ?_)
                                · refine ON rfl rfl h76 <| FA rfl tyF_impl_Stream_3 rfl <| ON rfl rfl h76 <| FA rfl tyF_impl_Receiver_3 rfl <| ON rfl rfl h76 <| LD (i := 0) rfl tyP_int rfl rfl rfl <| ON rfl rfl h76 <| EQ1 rfl rfl rfl <| ON rfl rfl h75 <| PT rfl rfl h76 rfl <| ON rfl rfl h75 <| MV rfl rfl <| ?_
                                  refine rw_case (j := 135) rfl (fun h77 => ?_) (fun h77 => ?_)
                                  · refine ON rfl rfl h77 <| FA rfl tyF_impl_Stream_11 rfl <| ON rfl rfl h77 <| LD (i := 0) rfl tyP_bool rfl rfl rfl <| ON rfl rfl h77 <| NT rfl rfl <| ON rfl rfl h75 <| PT rfl rfl h77 rfl <| PF rfl rfl h75 rfl <| AS rfl rfl <| ND <| ret_cv Try.func58 (res1 Try.func58 rfl (rv_tmp rfl)) <| ?_
                                    simp [isStream, isStreamW, h1, h2, h3, h4, h5, h6, h7, h8, h48, h49, h50, h69, h70, h71, h75, h76, h77]
                                  · refine OF rfl rfl h77 rfl <| OF rfl rfl h77 rfl <| OF rfl rfl h77 rfl <| ON rfl rfl h75 <| PF rfl rfl h77 rfl <| PF rfl rfl h75 rfl <| AS rfl rfl <| ND <| ret_cv Try.func58 (res1 Try.func58 rfl (rv_tmp rfl)) <| ?_
                                    simp [isStream, isStreamW, h1, h2, h3, h4, h5, h6, h7, h8, h48, h49, h50, h69, h70, h71, h75, h76, h77]
                                · refine OF rfl rfl h76 rfl <| OF rfl rfl h76 rfl <| OF rfl rfl h76 rfl <| OF rfl rfl h76 rfl <| ON rfl rfl h75 <| PF rfl rfl h76 rfl <| ON rfl rfl h75 <| MV rfl rfl <| OF rfl rfl rfl rfl <| OF rfl rfl rfl rfl <| OF rfl rfl rfl rfl <| ON rfl rfl h75 <| PF rfl rfl rfl rfl <| PF rfl rfl h75 rfl <| AS rfl rfl <| ND <| ret_cv Try.func58 (res1 Try.func58 rfl (rv_tmp rfl)) <| ?_
                                  simp [isStream, isStreamW, h1, h2, h3, h4, h5, h6, h7, h8, h48, h49, h50, h69, h70, h71, h75, h76]
                        · refine OF rfl rfl h69 rfl <| OF rfl rfl h69 rfl <| OF rfl rfl h69 rfl <| ON rfl rfl rfl <| PF rfl rfl h69 rfl <| PF rfl rfl rfl rfl <| MV rfl rfl <| ON rfl rfl rfl <| FA rfl tyF_impl_Stream_12 rfl <| ON rfl rfl rfl <| LD (i := 0) rfl tyP_int rfl rfl rfl <| ON rfl rfl rfl <| rw_neq rfl rfl rfl <| ON rfl rfl rfl <| MV rfl rfl <| ?_
                          refine rw_case (j := 93) rfl (fun h78 => ?_) (fun h78 => ?_)
                          · replace h78 := of_not_T h78
                            refine ON rfl rfl (not_F h78) <| FA rfl tyF_impl_Stream_11 rfl <| ON rfl rfl (not_F h78) <| LD (i := 0) rfl tyP_bool rfl rfl rfl <| ON rfl rfl (not_F h78) <| NT rfl rfl <| ON rfl rfl rfl <| PT rfl rfl (not_F h78) rfl <| PF rfl rfl rfl rfl <| AS rfl rfl <| ND <| ?_
                            refine gw_cond rfl (fun h79 => ?_) (fun h79 => ?_)
                            · replace h79 := of_not_T h79
                              refine SQ <| RG <| AS rfl rfl <| ND <| ret_cv Try.func58 (res1 Try.func58 rfl (rv_tmp rfl)) <| ?_
                              simp [isStream, isStreamW, h1, h2, h3, h4, h5, h6, h7, h8, h48, h49, h50, h69, h78, h79]
                            · replace h79 := of_not_F h79
                              refine SQ <| RG <| FA rfl tyF_impl_Stream_6 rfl <| LD (i := 0) rfl tyP_bool rfl rfl rfl <| NT rfl rfl <| MV rfl rfl <| OF rfl rfl (not_T h8) rfl <| OF rfl rfl (not_T h8) rfl <| OF rfl rfl (not_T h8) rfl <| OF rfl rfl (not_T h8) rfl <| OF rfl rfl (not_T h8) rfl <| OU rfl rfl rfl <| OU rfl rfl rfl <| OU rfl rfl rfl <| OU rfl rfl rfl <| OU rfl rfl rfl <| OF rfl rfl (not_T h8) rfl <| OF rfl rfl (not_T h8) rfl <| OU rfl rfl rfl <| OU rfl rfl rfl <| ?_
                              refine OU rfl rfl rfl <| OU rfl rfl rfl <| OF rfl rfl (not_T h8) rfl <| PF rfl rfl (not_T h8) rfl <| AS rfl rfl <| ND <| CF rfl rfl <| SK <| IB <| SQ <| RG <| FA rfl tyF_impl_Stream_7 rfl <| LD (i := 0) rfl tyP_bool rfl rfl rfl <| MV rfl rfl <| ?_
                              refine rw_case (j := 124) rfl (fun h80 => ?_) (fun h80 => ?_)
                              · refine OF rfl rfl h80 rfl <| OF rfl rfl h80 rfl <| OF rfl rfl h80 rfl <| OF rfl rfl h80 rfl <| OF rfl rfl h80 rfl <| OU rfl rfl rfl <| OU rfl rfl rfl <| OU rfl rfl rfl <| OU rfl rfl rfl <| OF rfl rfl h80 rfl <| OF rfl rfl h80 rfl <| OU rfl rfl rfl <| OU rfl rfl rfl <| OU rfl rfl rfl <| OF rfl rfl h80 rfl <| PT rfl rfl h80 rfl <| AS rfl rfl <| ND <| ret_cv Try.func58 (res1 Try.func58 rfl (rv_tmp rfl)) <| ?_
                                simp [isStream, isStreamW, h1, h2, h3, h4, h5, h6, h7, h8, h48, h49, h50, h69, h78, h79, h80]
                              · refine ON rfl rfl h80 <| FA rfl tyF_impl_Stream_3 rfl <| ON rfl rfl h80 <| FA rfl tyF_impl_Receiver_0 rfl <| ON rfl rfl h80 <| LD (i := 0) rfl tyP_int rfl rfl rfl <| ON rfl rfl h80 <| EQ1 rfl rfl rfl <| ON rfl rfl h80 <| MV rfl rfl <| ?_
                                refine rw_case (j := 129) rfl (fun h81 => ?_) (fun h81 => ?_)
                                · refine ON rfl rfl h81 <| FA rfl tyF_impl_Stream_3 rfl <| ON rfl rfl h81 <| FA rfl tyF_impl_Receiver_3 rfl <| ON rfl rfl h81 <| LD (i := 0) rfl tyP_int rfl rfl rfl <| ON rfl rfl h81 <| EQ1 rfl rfl rfl <| ON rfl rfl h80 <| PT rfl rfl h81 rfl <| ON rfl rfl h80 <| MV rfl rfl <| ?_
                                  refine rw_case (j := 135) rfl (fun h82 => ?_) (fun h82 => ?_)
                                  · refine ON rfl rfl h82 <| FA rfl tyF_impl_Stream_11 rfl <| ON rfl rfl h82 <| LD (i := 0) rfl tyP_bool rfl rfl rfl <| ON rfl rfl h82 <| NT rfl rfl <| ON rfl rfl h80 <| PT rfl rfl h82 rfl <| PF rfl rfl h80 rfl <| AS rfl rfl <| ND <| ret_cv Try.func58 (res1 Try.func58 rfl (rv_tmp rfl)) <| ?_
                                    simp [isStream, isStreamW, h1, h2, h3, h4, h5, h6, h7, h8, h48, h49, h50, h69, h78, h79, h80, h81, h82]
                                  · refine OF rfl rfl h82 rfl <| OF rfl rfl h82 rfl <| OF rfl rfl h82 rfl <| ON rfl rfl h80 <| PF rfl rfl h82 rfl <| PF rfl rfl h80 rfl <| AS rfl rfl <| ND <| ret_cv Try.func58 (res1 Try.func58 rfl (rv_tmp rfl)) <| ?_
                                    simp [isStream, isStreamW, h1, h2, h3, h4, h5, h6, h7, h8, h48, h49, h50, h69, h78, h79, h80, h81, h82]
                                · refine OF rfl rfl h81 rfl <| OF rfl rfl h81 rfl <| OF rfl rfl h81 rfl <| OF rfl rfl h81 rfl <| ON rfl rfl h80 <| PF rfl rfl h81 rfl <| ON rfl rfl h80 <| MV rfl rfl <| OF rfl rfl rfl rfl <| OF rfl rfl rfl rfl <| OF rfl rfl rfl rfl <| ON rfl rfl h80 <| PF rfl rfl rfl rfl <| PF rfl rfl h80 rfl <| AS rfl rfl <| ND <| ret_cv Try.func58 (res1 Try.func58 rfl (rv_tmp rfl)) <| ?_
                                  simp [isStream, isStreamW, h1, h2, h3, h4, h5, h6, h7, h8, h48, h49, h50, h69, h78, h79, h80, h81]
                          · replace h78 := of_not_F h78
                            refine OF rfl rfl (not_T h78) rfl <| OF rfl rfl (not_T h78) rfl <| OF rfl rfl (not_T h78) rfl <| ON rfl rfl rfl <| PF rfl rfl (not_T h78) rfl <| PF rfl rfl rfl rfl <| AS rfl rfl <| ND <| CF rfl rfl <| SQ <| RG <| FA rfl tyF_impl_Stream_6 rfl <| LD (i := 0) rfl tyP_bool rfl rfl rfl <| NT rfl rfl <| MV rfl rfl <| OF rfl rfl (not_T h8) rfl <| OF rfl rfl (not_T h8) rfl <| OF rfl rfl (not_T h8) rfl <| OF rfl rfl (not_T h8) rfl <| OF rfl rfl (not_T h8) rfl <| ?_
                            refine OU rfl rfl rfl <| OU rfl rfl rfl <| OU rfl rfl rfl <| OU rfl rfl rfl <| OU rfl rfl rfl <| OF rfl rfl (not_T h8) rfl <| OF rfl rfl (not_T h8) rfl <| OU rfl rfl rfl <| OU rfl rfl rfl <| OU rfl rfl rfl <| OU rfl rfl rfl <| OF rfl rfl (not_T h8) rfl <| PF rfl rfl (not_T h8) rfl <| AS rfl rfl <| ND <| CF rfl rfl <| SK <| IB <| SQ <| RG <| FA rfl tyF_impl_Stream_7 rfl <| LD (i := 0) rfl tyP_bool rfl rfl rfl <| MV rfl rfl <| ?_
                            refine rw_case (j := 124) rfl (fun h83 => ?_) (fun h83 => ?_)
                            · refine OF rfl rfl h83 rfl <| OF rfl rfl h83 rfl <| OF rfl rfl h83 rfl <| OF rfl rfl h83 rfl <| OF rfl rfl h83 rfl <| OU rfl rfl rfl <| OU rfl rfl rfl <| OU rfl rfl rfl <| OU rfl rfl rfl <| OF rfl rfl h83 rfl <| OF rfl rfl h83 rfl <| OU rfl rfl rfl <| OU rfl rfl rfl <| OU rfl rfl rfl <| OF rfl rfl h83 rfl <| PT rfl rfl h83 rfl <| AS rfl rfl <| ND <| ret_cv Try.func58 (res1 Try.func58 rfl (rv_tmp rfl)) <| ?_
                              simp [isStream, isStreamW, h1, h2, h3, h4, h5, h6, h7, h8, h48, h49, h50, h69, h78, h83]
                            · refine ON rfl rfl h83 <| FA rfl tyF_impl_Stream_3 rfl <| ON rfl rfl h83 <| FA rfl tyF_impl_Receiver_0 rfl <| ON rfl rfl h83 <| LD (i := 0) rfl tyP_int rfl rfl rfl <| ON rfl rfl h83 <| EQ1 rfl rfl rfl <| ON rfl rfl h83 <| MV rfl rfl <| ?_
                              refine rw_case (j := 129) rfl (fun h84 => ?_) (fun h84 => ?_)
                              · refine ON rfl rfl h84 <| FA rfl tyF_impl_Stream_3 rfl <| ON rfl rfl h84 <| FA rfl tyF_impl_Receiver_3 rfl <| ON rfl rfl h84 <| LD (i := 0) rfl tyP_int rfl rfl rfl <| ON rfl rfl h84 <| EQ1 rfl rfl rfl <| ON rfl rfl h83 <| PT rfl rfl h84 rfl <| ON rfl rfl h83 <| MV rfl rfl <| ?_
                                refine rw_case (j := 135) rfl (fun h85 => ?_) (fun h85 => ?_)
                                · refine ON rfl rfl h85 <| FA rfl tyF_impl_Stream_11 rfl <| ON rfl rfl h85 <| LD (i := 0) rfl tyP_bool rfl rfl rfl <| ON rfl rfl h85 <| NT rfl rfl <| ON rfl rfl h83 <| PT rfl rfl h85 rfl <| PF rfl rfl h83 rfl <| AS rfl rfl <| ND <| ret_cv Try.func58 (res1 Try.func58 rfl (rv_tmp rfl)) <| ?_
                                  simp [isStream, isStreamW, h1, h2, h3, h4, h5, h6, h7, h8, h48, h49, h50, h69, h78, h83, h84, h85]
                                · refine OF rfl rfl h85 rfl <| OF rfl rfl h85 rfl <| OF rfl rfl h85 rfl <| ON rfl rfl h83 <| PF rfl rfl h85 rfl <| PF rfl rfl h83 rfl <| AS rfl rfl <| ND <| ret_cv Try.func58 (res1 Try.func58 rfl (rv_tmp rfl)) <| ?_
                                  simp [isStream, isStreamW, h1, h2, h3, h4, h5, h6, h7, h8, h48, h49, h50, h69, h78, h83, h84, h85]
                              · refine OF rfl rfl h84 rfl <| OF rfl rfl h84 rfl <| OF rfl rfl h84 rfl <| OF rfl rfl h84 rfl <| ON rfl rfl h83 <| PF rfl rfl h84 rfl <| ON rfl rfl h83 <| MV rfl rfl <| OF rfl rfl rfl rfl <| OF rfl rfl rfl rfl <| OF rfl rfl rfl rfl <| ON rfl rfl h83 <| PF rfl rfl rfl rfl <| PF rfl rfl h83 rfl <| AS rfl rfl <| ND <| ret_cv Try.func58 (res1 Try.func58 rfl (rv_tmp rfl)) <| ?_
                                simp [isStream, isStreamW, h1, h2, h3, h4, h5, h6, h7, h8, h48, h49, h50, h69, h78, h83, h84]

theorem impl_IsSendOver {w : World} {cs : List Value} {x : Stream} (hv : RdStream w cs x)  : CV Try.prog 59 [.agg cs.toArray] w (.bool (isSendOver x)) := by
  obtain ⟨v0, v1, v2, v3, v4, rfl, k0, k1, k2, k3, k4⟩ := hv
  obtain ⟨A0, c0, rfl, hA0⟩ := k0
  obtain ⟨A1, c1, rfl, hA1⟩ := k1
  obtain ⟨A2, c2, rfl, hA2⟩ := k2
  obtain ⟨A3, c3, rfl, hA3⟩ := k3
  obtain ⟨A4, c4, rfl, hA4⟩ := k4
  refine cv_of Try.func59 rfl rfl rfl <| SQ <| RG <| BX [_, _, _, _, _, _, _, _, _, _, _, _, _, _, _, _, _, _, _, _, _, _, _, _, _, _, _, _, _, _, _, _, _, _, _, _, _, _, _] rfl rfl rfl <| fun b1 => AS rfl rfl <| ND <| SQ <| RG <| FA rfl tyF_impl_Stream_6 rfl <| LD (i := 0) rfl tyP_bool rfl rfl rfl <| NT rfl rfl <| MV rfl rfl <| ?_
  refine rw_case (j := 6) rfl (fun h1 => ?_) (fun h1 => ?_)
  · replace h1 := of_not_T h1
    refine OF rfl rfl (not_F h1) rfl <| OF rfl rfl (not_F h1) rfl <| OF rfl rfl (not_F h1) rfl <| OF rfl rfl (not_F h1) rfl <| PT rfl rfl (not_F h1) rfl <| MV rfl rfl <| OF rfl rfl rfl rfl <| OF rfl rfl rfl rfl <| OF rfl rfl rfl rfl <| OF rfl rfl rfl rfl <| PT rfl rfl rfl rfl <| AS rfl rfl <| ND <| ret_cv Try.func59 (res1 Try.func59 rfl (rv_tmp rfl)) <| ?_
    simp [isSendOver, h1]
  · replace h1 := of_not_F h1
    refine ON rfl rfl (not_T h1) <| FA rfl tyF_impl_Stream_1 rfl <| ON rfl rfl (not_T h1) <| FA rfl tyF_impl_Sender_0 rfl <| ON rfl rfl (not_T h1) <| LD (i := 0) rfl tyP_int rfl rfl rfl <| ON rfl rfl (not_T h1) <| EQ1 rfl rfl rfl <| PF rfl rfl (not_T h1) rfl <| MV rfl rfl <| ?_
    refine rw_case (j := 12) rfl (fun h2 => ?_) (fun h2 => ?_)
    · refine OF rfl rfl h2 rfl <| OF rfl rfl h2 rfl <| OF rfl rfl h2 rfl <| OF rfl rfl h2 rfl <| PT rfl rfl h2 rfl <| AS rfl rfl <| ND <| ret_cv Try.func59 (res1 Try.func59 rfl (rv_tmp rfl)) <| ?_
      simp [isSendOver, h1, h2]
    · refine ON rfl rfl h2 <| FA rfl tyF_impl_Stream_1 rfl <| ON rfl rfl h2 <| FA rfl tyF_impl_Sender_0 rfl <| ON rfl rfl h2 <| LD (i := 0) rfl tyP_int rfl rfl rfl <| ON rfl rfl h2 <| EQ1 rfl rfl rfl <| PF rfl rfl h2 rfl <| AS rfl rfl <| ND <| ret_cv Try.func59 (res1 Try.func59 rfl (rv_tmp rfl)) <| ?_
      simp [isSendOver, h1, h2]

theorem impl_IsReceived {w : World} {cs : List Value} {x : Receiver} (hv : RdReceiver w cs x) (hb : x.le 1048576) : CV Try.prog 142 [.agg cs.toArray] w (.bool (isReceived x)) := by
  obtain ⟨v0, rfl, k0⟩ := hv
  obtain ⟨A0, c0, rfl, hA0⟩ := k0
  obtain ⟨hb0, hb1⟩ := hb
  refine cv_of Try.func142 rfl rfl rfl <| SQ <| RG <| BX [_, _, _, _, _, _] rfl rfl rfl <| fun b1 => AS rfl rfl <| ND <| SQ <| RG <| LS (i := 0) [_, _, _, _, _, _] rfl tyS_impl_Receiver rfl rfl rfl rfl <| CV1 rfl fun_impl_IsReceiver rfl (fun w hs => impl_IsReceiver ⟨_, rfl, (hA0.s Pl.keeps hs)⟩ ⟨hb0, hb1⟩) <| MV rfl rfl <| ?_
  refine rw_case (j := 5) rfl (fun h1 => ?_) (fun h1 => ?_)
  · refine ON rfl rfl h1 <| FA rfl tyF_impl_Receiver_0 rfl <| ON rfl rfl h1 <| LD (i := 0) rfl tyP_int rfl rfl rfl <| ON rfl rfl h1 <| EQ1 rfl rfl rfl <| ON rfl rfl h1 <| MV rfl rfl <| ?_
    refine rw_case (j := 9) rfl (fun h2 => ?_) (fun h2 => ?_)
    · refine OF rfl rfl h2 rfl <| OF rfl rfl h2 rfl <| OF rfl rfl h2 rfl <| ON rfl rfl h1 <| PT rfl rfl h2 rfl <| PT rfl rfl h1 rfl <| AS rfl rfl <| ND <| ret_cv Try.func142 (res1 Try.func142 rfl (rv_tmp rfl)) <| ?_
      simp [isReceived, h1, h2]
    · refine ON rfl rfl h2 <| FA rfl tyF_impl_Receiver_0 rfl <| ON rfl rfl h2 <| LD (i := 0) rfl tyP_int rfl rfl rfl <| ON rfl rfl h2 <| EQ1 rfl rfl rfl <| ON rfl rfl h1 <| PF rfl rfl h2 rfl <| PT rfl rfl h1 rfl <| AS rfl rfl <| ND <| ret_cv Try.func142 (res1 Try.func142 rfl (rv_tmp rfl)) <| ?_
      simp [isReceived, h1, h2]
  · refine OF rfl rfl h1 rfl <| OF rfl rfl h1 rfl <| OF rfl rfl h1 rfl <| OF rfl rfl h1 rfl <| OU rfl rfl rfl <| OU rfl rfl rfl <| OU rfl rfl rfl <| OF rfl rfl h1 rfl <| PF rfl rfl h1 rfl <| AS rfl rfl <| ND <| ret_cv Try.func142 (res1 Try.func142 rfl (rv_tmp rfl)) <| ?_
    simp [isReceived, h1]

theorem impl_IsRecvOver {w : World} {cs : List Value} {x : Stream} (hv : RdStream w cs x) (hb : x.le 1048576) : CV Try.prog 60 [.agg cs.toArray] w (.bool (isRecvOver x)) := by
  obtain ⟨v0, v1, v2, v3, v4, rfl, k0, k1, k2, k3, k4⟩ := hv
  obtain ⟨A0, c0, rfl, hA0⟩ := k0
  obtain ⟨A1, c1, rfl, hA1⟩ := k1
  obtain ⟨A2, c2, rfl, hA2⟩ := k2
  obtain ⟨A3, c3, rfl, hA3⟩ := k3
  obtain ⟨A4, c4, rfl, hA4⟩ := k4
  obtain ⟨hb0, hb1, hb2, hb3, hb4, hb5⟩ := hb
  refine cv_of Try.func60 rfl rfl rfl <| SQ <| RG <| BX [_, _, _, _, _, _, _, _, _, _, _, _, _, _, _, _, _, _, _, _, _, _, _, _, _, _, _, _, _, _, _, _, _, _, _, _, _, _, _] rfl rfl rfl <| fun b1 => AS rfl rfl <| ND <| SQ <| RG <| FA rfl tyF_impl_Stream_7 rfl <| LD (i := 0) rfl tyP_bool rfl rfl rfl <| NT rfl rfl <| MV rfl rfl <| ?_
  refine rw_case (j := 6) rfl (fun h1 => ?_) (fun h1 => ?_)
  · replace h1 := of_not_T h1
    refine OF rfl rfl (not_F h1) rfl <| OF rfl rfl (not_F h1) rfl <| OF rfl rfl (not_F h1) rfl <| PT rfl rfl (not_F h1) rfl <| AS rfl rfl <| ND <| ret_cv Try.func60 (res1 Try.func60 rfl (rv_tmp rfl)) <| ?_
    simp [isRecvOver, h1]
  · replace h1 := of_not_F h1
    refine ON rfl rfl (not_T h1) <| FA rfl tyF_impl_Stream_3 rfl <| ON rfl rfl (not_T h1) <| LS (i := 0) [_, _, _, _, _, _] rfl tyS_impl_Receiver rfl rfl rfl rfl <| ON rfl rfl (not_T h1) <| CV1 rfl fun_impl_IsReceived rfl (fun w hs => impl_IsReceived ⟨_, rfl, (hA4.s Pl.keeps hs)⟩ ⟨hb4, hb5⟩) <| PF rfl rfl (not_T h1) rfl <| AS rfl rfl <| ND <| ret_cv Try.func60 (res1 Try.func60 rfl (rv_tmp rfl)) <| ?_
    simp [isRecvOver, h1]

theorem impl_IsOver {w : World} {cs : List Value} {x : Stream} (hv : RdStream w cs x) (hb : x.le 1048576) : CV Try.prog 12 [.agg cs.toArray] w (.bool (isOver x)) := by
  obtain ⟨v0, v1, v2, v3, v4, rfl, k0, k1, k2, k3, k4⟩ := hv
  obtain ⟨A0, c0, rfl, hA0⟩ := k0
  obtain ⟨A1, c1, rfl, hA1⟩ := k1
  obtain ⟨A2, c2, rfl, hA2⟩ := k2
  obtain ⟨A3, c3, rfl, hA3⟩ := k3
  obtain ⟨A4, c4, rfl, hA4⟩ := k4
  obtain ⟨hb0, hb1, hb2, hb3, hb4, hb5⟩ := hb
  refine cv_of Try.func12 rfl rfl rfl <| SQ <| RG <| BX [_, _, _, _, _, _, _, _, _, _, _, _, _, _, _, _, _, _, _, _, _, _, _, _, _, _, _, _, _, _, _, _, _, _, _, _, _, _, _] rfl rfl rfl <| fun b1 => AS rfl rfl <| ND <| SQ <| RG <| LS (i := 0) [_, _, _, _, _, _, _, _, _, _, _, _, _, _, _, _, _, _, _, _, _, _, _, _, _, _, _, _, _, _, _, _, _, _, _, _, _, _, _] rfl tyS_impl_Stream rfl rfl rfl rfl <| CV1 rfl fun_impl_IsStream rfl (fun w hs => impl_IsStream ⟨_, _, _, _, _, rfl, (hA0.s Pl.keeps hs), (hA1.s Pl.keeps hs), (hA2.s Pl.keeps hs), (hA3.s Pl.keeps hs), (hA4.s Pl.keeps hs)⟩ ⟨hb0, hb1, hb2, hb3, hb4, hb5⟩) <| ?_
  refine MV rfl rfl <| ?_
  refine rw_case (j := 5) rfl (fun h1 => ?_) (fun h1 => ?_)
  · refine ON rfl rfl h1 <| LS (i := 0) [_, _, _, _, _, _, _, _, _, _, _, _, _, _, _, _, _, _, _, _, _, _, _, _, _, _, _, _, _, _, _, _, _, _, _, _, _, _, _] rfl tyS_impl_Stream rfl rfl rfl rfl <| ON rfl rfl h1 <| CV1 rfl fun_impl_IsSendOver rfl (fun w hs => impl_IsSendOver ⟨_, _, _, _, _, rfl, (hA0.s Pl.keeps hs), (hA1.s Pl.keeps hs), (hA2.s Pl.keeps hs), (hA3.s Pl.keeps hs), (hA4.s Pl.keeps hs)⟩) <| PT rfl rfl h1 rfl <| MV rfl rfl <| ?_
    refine rw_case (j := 9) rfl (fun h2 => ?_) (fun h2 => ?_)
    · refine ON rfl rfl h2 <| LS (i := 0) [_, _, _, _, _, _, _, _, _, _, _, _, _, _, _, _, _, _, _, _, _, _, _, _, _, _, _, _, _, _, _, _, _, _, _, _, _, _, _] rfl tyS_impl_Stream rfl rfl rfl rfl <| ON rfl rfl h2 <| CV1 rfl fun_impl_IsRecvOver rfl (fun w hs => impl_IsRecvOver ⟨_, _, _, _, _, rfl, (hA0.s Pl.keeps hs), (hA1.s Pl.keeps hs), (hA2.s Pl.keeps hs), (hA3.s Pl.keeps hs), (hA4.s Pl.keeps hs)⟩ ⟨hb0, hb1, hb2, hb3, hb4, hb5⟩) <| PT rfl rfl h2 rfl <| AS rfl rfl <| ND <| ret_cv Try.func12 (res1 Try.func12 rfl (rv_tmp rfl)) <| ?_
      simp [isOver, h1, h2]
    · refine OF rfl rfl h2 rfl <| OF rfl rfl h2 rfl <| PF rfl rfl h2 rfl <| AS rfl rfl <| ND <| ret_cv Try.func12 (res1 Try.func12 rfl (rv_tmp rfl)) <| ?_
      simp [isOver, h1, h2]
  · refine OF rfl rfl h1 rfl <| OF rfl rfl h1 rfl <| PF rfl rfl h1 rfl <| MV rfl rfl <| OF rfl rfl rfl rfl <| OF rfl rfl rfl rfl <| PF rfl rfl rfl rfl <| AS rfl rfl <| ND <| ret_cv Try.func12 (res1 Try.func12 rfl (rv_tmp rfl)) <| ?_
    simp [isOver, h1]

theorem laws_eqIntS {w : World} {v : Value} {l : List Int} (hv : RdS w 1 (Pl intC) v l) (hb : l.length ≤ 1048576) {v1 : Value} (hv1 : RdS w 1 (Pl intC) v1 l) : CV Try.prog 201 [v, v1] w (.bool true) := by
  obtain ⟨A, c, rfl, hA⟩ := hv
  obtain ⟨A1, c1, rfl, hA1⟩ := hv1
  refine cv_of Try.func201 rfl rfl rfl <| SQ <| RG <| AS rfl rfl <| ND <| SQ <| SQ <| RG <| MV rfl rfl <| rw_len rfl tyE_S_int rfl <| MV rfl rfl <| rw_len rfl tyE_S_int rfl <| NS rfl rfl rfl <| ND <| CF rfl rfl <| SK <| SQ <| SQ <| RG <| AS rfl rfl <| ND <| BK <| ?_
  refine gw_loopC (α := Nat) (fun z_ => z_ ≤ l.length) (fun z_ => l.length - z_) (fun e z_ => (5, .int .i64 (z_ : Int)) :: e) 0 [(0, _), (1, _)] (Sub.consE rfl rfl (Sub.cons (i := 0) rfl (Sub.cons (i := 1) rfl (Sub.nil _)))) ?_ ?_
  · exact Nat.zero_le _
  · rintro i hI1 ih1
    try dsimp only
    have hle := hI1
    refine SQ <| SQ <| RG <| MV rfl rfl <| MV rfl rfl <| rw_len rfl tyE_S_int rfl <| rw_lss rfl rfl rfl <| ND <| ?_
    refine gw_cond rfl (fun h1 => ?_) (fun h1 => ?_)
    · have hi2 := lt_of_dec h1
      obtain ⟨x3, hx3⟩ := get_of_lt hi2
      have hd3 := drop_cons hx3
      refine SK <| SQ <| BK <| SQ <| gw_draw' [(0, .det), (1, .det), (2, .det), (3, .det), (4, .det), (5, .det), (6, .det), (7, .det)] [8] mixed rfl (free_det (free_det (free_det (free_det (free_det (free_det (free_det (free_det free_nil)))))))) (ts := [_]) rfl <| DT rfl rfl (fun K hk => MV rfl rfl hk) <| DT rfl rfl (fun K hk => MV rfl rfl hk) <| ?_
      have hq4 := hA.plain hx3
      refine DT rfl rfl (fun K hk => rw_indexAddr (i) rfl tyE_S_int rfl rfl rfl (hA.some hi2) hi2 hk) <| DT rfl rfl (fun K hk => rw_loadX _ rfl tyP_int rfl (fun w hs => hq4.ld0 hs rfl) hk) <| DT rfl rfl (fun K hk => MV rfl rfl hk) <| DT rfl rfl (fun K hk => MV rfl rfl hk) <| ?_
      have hq5 := hA1.plain hx3
      refine DT rfl rfl (fun K hk => rw_indexAddr (i) rfl tyE_S_int rfl rfl rfl (hA1.some hi2) hi2 hk) <| DT rfl rfl (fun K hk => rw_loadX _ rfl tyP_int rfl (fun w hs => hq5.ld0 hs rfl) hk) <| dw_nil <| NS rfl rfl rfl <| ND <| CF rfl rfl <| SK <| IB <| RG <| MV rfl rfl <| rw_add rfl rfl rfl <| AS rfl rfl <| ND <| ?_
      refine gw_sub (Sub.consE (i := 5) rfl (int_succ (by omega)) (Sub.cons (i := 0) rfl (Sub.cons (i := 1) rfl (Sub.nil _)))) (ih1 (i + 1) ?_ ?_)
      · omega
      · show l.length - (i + 1) < l.length - i; omega
    · have hn6 := nil_of_dec h1
      refine EX rfl <| SQ <| RG <| AS rfl rfl <| ND <| ret_cv Try.func201 (res1 Try.func201 rfl (rv_tmp rfl)) <| ?_
      rfl

theorem laws_eqRing {w : World} {cs : List Value} {x : Ring} (hv : RdRing w cs x) (hb : x.le 1048576) {cs1 : List Value} (hv1 : RdRing w cs1 x) : CV Try.prog 143 [.agg cs.toArray, .agg cs1.toArray] w (.bool true) := by
  obtain ⟨v0, rfl, k0⟩ := hv
  obtain ⟨A0, c0, rfl, hA0⟩ := k0
  have hb0 : x.cells.length ≤ 1048576 := hb
  obtain ⟨v1_0, rfl, k1_0⟩ := hv1
  obtain ⟨A1_0, c1_0, rfl, hA1_0⟩ := k1_0
  refine cv_of Try.func143 rfl rfl rfl <| SQ <| RG <| BX [_, _, _, _] rfl rfl rfl <| fun b1 => BX [_, _, _, _] rfl rfl rfl <| fun b2 => AS rfl rfl <| ND <| SQ <| SQ <| RG <| FA rfl tyF_impl_Ring_0 rfl <| LD (i := 1) rfl tyP_int rfl rfl rfl <| FA rfl tyF_impl_Ring_0 rfl <| LD (i := 0) rfl tyP_int rfl rfl rfl <| NS rfl rfl rfl <| ND <| CF rfl rfl <| SK <| SQ <| SQ <| RG <| FA rfl tyF_impl_Ring_1 rfl <| LD (i := 1) rfl tyP_int rfl rfl rfl <| FA rfl tyF_impl_Ring_1 rfl <| ?_
  refine LD (i := 0) rfl tyP_int rfl rfl rfl <| NS rfl rfl rfl <| ND <| CF rfl rfl <| SK <| SQ <| SQ <| RG <| FA rfl tyF_impl_Ring_2 rfl <| LD (i := 1) rfl tyP_int rfl rfl rfl <| FA rfl tyF_impl_Ring_2 rfl <| LD (i := 0) rfl tyP_int rfl rfl rfl <| NS rfl rfl rfl <| ND <| CF rfl rfl <| SK <| SQ <| SQ <| RG <| FA rfl tyF_impl_Ring_3 rfl <| LD (i := 1) rfl tyP_S_int rfl rfl rfl <| FA rfl tyF_impl_Ring_3 rfl <| LD (i := 0) rfl tyP_S_int rfl rfl rfl <| CV1 rfl fun_laws_eqIntS rfl (fun w hs => laws_eqIntS (hA0.s Pl.keeps hs) (by omega) (hA1_0.s Pl.keeps hs)) <| ?_
  refine NT rfl rfl <| ND <| CF rfl rfl <| SK <| SQ <| RG <| AS rfl rfl <| ND <| ret_cv Try.func143 (res1 Try.func143 rfl (rv_tmp rfl)) <| ?_
  rfl

theorem laws_eqRange (a : Range) (w : World) : CV Try.prog 202 [.agg a.cells.toArray, .agg a.cells.toArray] w (.bool true) := by
  refine cv_of Try.func202 rfl rfl rfl <| SQ <| RG <| BX [_, _] rfl rfl rfl <| fun b1 => BX [_, _] rfl rfl rfl <| fun b2 => AS rfl rfl <| ND <| SQ <| SQ <| RG <| FA rfl tyF_impl_Range_0 rfl <| LD (i := 1) rfl tyP_int rfl rfl rfl <| FA rfl tyF_impl_Range_0 rfl <| LD (i := 0) rfl tyP_int rfl rfl rfl <| NS rfl rfl rfl <| ND <| CF rfl rfl <| SK <| SQ <| SQ <| RG <| FA rfl tyF_impl_Range_1 rfl <| LD (i := 1) rfl tyP_int rfl rfl rfl <| FA rfl tyF_impl_Range_1 rfl <| ?_
  refine LD (i := 0) rfl tyP_int rfl rfl rfl <| NS rfl rfl rfl <| ND <| CF rfl rfl <| SK <| SQ <| RG <| AS rfl rfl <| ND <| ret_cv Try.func202 (res1 Try.func202 rfl (rv_tmp rfl)) <| ?_
  rfl

theorem laws_eqRangeS {w : World} {v : Value} {l : List Range} (hv : RdS w 2 (Pl Range.cells) v l) (hb : l.length ≤ 1048576) {v1 : Value} (hv1 : RdS w 2 (Pl Range.cells) v1 l) : CV Try.prog 144 [v, v1] w (.bool true) := by
  obtain ⟨A, c, rfl, hA⟩ := hv
  obtain ⟨A1, c1, rfl, hA1⟩ := hv1
  refine cv_of Try.func144 rfl rfl rfl <| SQ <| RG <| AS rfl rfl <| ND <| SQ <| SQ <| RG <| MV rfl rfl <| rw_len rfl tyE_S_impl_Range rfl <| MV rfl rfl <| rw_len rfl tyE_S_impl_Range rfl <| NS rfl rfl rfl <| ND <| CF rfl rfl <| SK <| SQ <| SQ <| RG <| AS rfl rfl <| ND <| BK <| ?_
  refine gw_loopC (α := Nat) (fun z_ => z_ ≤ l.length) (fun z_ => l.length - z_) (fun e z_ => (5, .int .i64 (z_ : Int)) :: e) 0 [(0, _), (1, _)] (Sub.consE rfl rfl (Sub.cons (i := 0) rfl (Sub.cons (i := 1) rfl (Sub.nil _)))) ?_ ?_
  · exact Nat.zero_le _
  · rintro i hI1 ih1
    try dsimp only
    have hle := hI1
    refine SQ <| SQ <| RG <| MV rfl rfl <| MV rfl rfl <| rw_len rfl tyE_S_impl_Range rfl <| rw_lss rfl rfl rfl <| ND <| ?_
    refine gw_cond rfl (fun h1 => ?_) (fun h1 => ?_)
    · have hi2 := lt_of_dec h1
      obtain ⟨x3, hx3⟩ := get_of_lt hi2
      have hd3 := drop_cons hx3
      refine SK <| SQ <| BK <| SQ <| gw_draw' [(0, .det), (1, .det), (2, .det), (3, .det), (4, .det), (5, .det), (6, .det), (7, .det)] [8, 9] mixed rfl (free_det (free_det (free_det (free_det (free_det (free_det (free_det (free_det free_nil)))))))) (ts := [_, _]) rfl <| DT rfl rfl (fun K hk => MV rfl rfl hk) <| DT rfl rfl (fun K hk => MV rfl rfl hk) <| ?_
      have hq4 := hA.plain hx3
      refine DT rfl rfl (fun K hk => rw_indexAddr (i) rfl tyE_S_impl_Range rfl rfl rfl (hA.some hi2) hi2 hk) <| DT rfl rfl (fun K hk => rw_loadX_s [_, _] rfl tyS_impl_Range rfl rfl (fun w hs => hq4.lds0 (n := 2) hs rfl) hk) <| DT rfl rfl (fun K hk => MV rfl rfl hk) <| DT rfl rfl (fun K hk => MV rfl rfl hk) <| ?_
      have hq5 := hA1.plain hx3
      refine DT rfl rfl (fun K hk => rw_indexAddr (i) rfl tyE_S_impl_Range rfl rfl rfl (hA1.some hi2) hi2 hk) <| DT rfl rfl (fun K hk => rw_loadX_s [_, _] rfl tyS_impl_Range rfl rfl (fun w hs => hq5.lds0 (n := 2) hs rfl) hk) <| dw_nil <| CV1 rfl fun_laws_eqRange rfl (fun w hs => laws_eqRange _ w) <| NT rfl rfl <| ND <| CF rfl rfl <| SK <| IB <| RG <| MV rfl rfl <| rw_add rfl rfl rfl <| AS rfl rfl <| ND <| ?_
      refine gw_sub (Sub.consE (i := 5) rfl (int_succ (by omega)) (Sub.cons (i := 0) rfl (Sub.cons (i := 1) rfl (Sub.nil _)))) (ih1 (i + 1) ?_ ?_)
      · omega
      · show l.length - (i + 1) < l.length - i; omega
    · have hn6 := nil_of_dec h1
      refine EX rfl <| SQ <| RG <| AS rfl rfl <| ND <| ret_cv Try.func144 (res1 Try.func144 rfl (rv_tmp rfl)) <| ?_
      rfl

theorem laws_eqSender {w : World} {cs : List Value} {x : Sender} (hv : RdSender w cs x) (hb : x.le 1048576) {cs1 : List Value} (hv1 : RdSender w cs1 x) : CV Try.prog 61 [.agg cs.toArray, .agg cs1.toArray] w (.bool true) := by
  obtain ⟨v0, v1, v2, v3, rfl, k0, k1, k2, k3⟩ := hv
  obtain ⟨A0, c0, rfl, hA0⟩ := k0
  obtain ⟨A1, c1, rfl, hA1⟩ := k1
  obtain ⟨A2, c2, rfl, hA2⟩ := k2
  obtain ⟨A3, c3, rfl, hA3⟩ := k3
  obtain ⟨hb0, hb1, hb2, hb3⟩ := hb
  obtain ⟨v1_0, v1_1, v1_2, v1_3, rfl, k1_0, k1_1, k1_2, k1_3⟩ := hv1
  obtain ⟨A1_0, c1_0, rfl, hA1_0⟩ := k1_0
  obtain ⟨A1_1, c1_1, rfl, hA1_1⟩ := k1_1
  obtain ⟨A1_2, c1_2, rfl, hA1_2⟩ := k1_2
  obtain ⟨A1_3, c1_3, rfl, hA1_3⟩ := k1_3
  refine cv_of Try.func61 rfl rfl rfl <| SQ <| RG <| BX [_, _, _, _, _, _, _, _, _, _, _, _] rfl rfl rfl <| fun b1 => BX [_, _, _, _, _, _, _, _, _, _, _, _] rfl rfl rfl <| fun b2 => AS rfl rfl <| ND <| SQ <| SQ <| RG <| FA rfl tyF_impl_Sender_0 rfl <| LD (i := 1) rfl tyP_int rfl rfl rfl <| FA rfl tyF_impl_Sender_0 rfl <| LD (i := 0) rfl tyP_int rfl rfl rfl <| NS rfl rfl rfl <| ND <| CF rfl rfl <| SK <| SQ <| SQ <| RG <| FA rfl tyF_impl_Sender_1 rfl <| LS (i := 1) [_, _, _, _] rfl tyS_impl_Ring rfl rfl rfl rfl <| ?_
  refine FA rfl tyF_impl_Sender_1 rfl <| LS (i := 0) [_, _, _, _] rfl tyS_impl_Ring rfl rfl rfl rfl <| CV1 rfl fun_laws_eqRing rfl (fun w hs => laws_eqRing ⟨_, rfl, (hA0.s Pl.keeps hs)⟩ (show _ ≤ _ from hb0) ⟨_, rfl, (hA1_0.s Pl.keeps hs)⟩) <| NT rfl rfl <| ND <| CF rfl rfl <| SK <| SQ <| SQ <| RG <| FA rfl tyF_impl_Sender_2 rfl <| LD (i := 1) rfl tyP_S_impl_Range rfl rfl rfl <| FA rfl tyF_impl_Sender_2 rfl <| LD (i := 0) rfl tyP_S_impl_Range rfl rfl rfl <| CV1 rfl fun_laws_eqRangeS rfl (fun w hs => laws_eqRangeS (hA1.s Pl.keeps hs) (by omega) (hA1_1.s Pl.keeps hs)) <| ?_
  refine NT rfl rfl <| ND <| CF rfl rfl <| SK <| SQ <| SQ <| RG <| FA rfl tyF_impl_Sender_3 rfl <| LD (i := 1) rfl tyP_S_impl_Range rfl rfl rfl <| FA rfl tyF_impl_Sender_3 rfl <| LD (i := 0) rfl tyP_S_impl_Range rfl rfl rfl <| CV1 rfl fun_laws_eqRangeS rfl (fun w hs => laws_eqRangeS (hA2.s Pl.keeps hs) (by omega) (hA1_2.s Pl.keeps hs)) <| NT rfl rfl <| ND <| CF rfl rfl <| SK <| SQ <| SQ <| RG <| FA rfl tyF_impl_Sender_4 rfl <| LD (i := 1) rfl tyP_S_impl_Range rfl rfl rfl <| FA rfl tyF_impl_Sender_4 rfl <| ?_
  refine LD (i := 0) rfl tyP_S_impl_Range rfl rfl rfl <| CV1 rfl fun_laws_eqRangeS rfl (fun w hs => laws_eqRangeS (hA3.s Pl.keeps hs) (by omega) (hA1_3.s Pl.keeps hs)) <| NT rfl rfl <| ND <| CF rfl rfl <| SK <| SQ <| SQ <| RG <| FA rfl tyF_impl_Sender_5 rfl <| LD (i := 1) rfl tyP_int rfl rfl rfl <| FA rfl tyF_impl_Sender_5 rfl <| LD (i := 0) rfl tyP_int rfl rfl rfl <| NS rfl rfl rfl <| ND <| CF rfl rfl <| SK <| SQ <| SQ <| RG <| FA rfl tyF_impl_Sender_6 rfl <| LD (i := 1) rfl tyP_int rfl rfl rfl <| ?_
  refine FA rfl tyF_impl_Sender_6 rfl <| LD (i := 0) rfl tyP_int rfl rfl rfl <| NS rfl rfl rfl <| ND <| CF rfl rfl <| SK <| SQ <| SQ <| RG <| FA rfl tyF_impl_Sender_7 rfl <| LD (i := 1) rfl tyP_int rfl rfl rfl <| FA rfl tyF_impl_Sender_7 rfl <| LD (i := 0) rfl tyP_int rfl rfl rfl <| NS rfl rfl rfl <| ND <| CF rfl rfl <| SK <| SQ <| SQ <| RG <| FA rfl tyF_impl_Sender_8 rfl <| LD (i := 1) rfl tyP_int rfl rfl rfl <| FA rfl tyF_impl_Sender_8 rfl <| LD (i := 0) rfl tyP_int rfl rfl rfl <| ?_
  refine NS rfl rfl rfl <| ND <| CF rfl rfl <| SK <| SQ <| RG <| AS rfl rfl <| ND <| ret_cv Try.func61 (res1 Try.func61 rfl (rv_tmp rfl)) <| ?_
  rfl

theorem laws_eqCredit (a : Credit) (w : World) : CV Try.prog 62 [.agg a.cells.toArray, .agg a.cells.toArray] w (.bool true) := by
  refine cv_of Try.func62 rfl rfl rfl <| SQ <| RG <| BX [_, _, _, _] rfl rfl rfl <| fun b1 => BX [_, _, _, _] rfl rfl rfl <| fun b2 => AS rfl rfl <| ND <| SQ <| SQ <| RG <| FA rfl tyF_impl_Credit_0 rfl <| LD (i := 1) rfl tyP_int rfl rfl rfl <| FA rfl tyF_impl_Credit_0 rfl <| LD (i := 0) rfl tyP_int rfl rfl rfl <| NS rfl rfl rfl <| ND <| CF rfl rfl <| SK <| SQ <| SQ <| RG <| FA rfl tyF_impl_Credit_1 rfl <| LD (i := 1) rfl tyP_int rfl rfl rfl <| FA rfl tyF_impl_Credit_1 rfl <| ?_
  refine LD (i := 0) rfl tyP_int rfl rfl rfl <| NS rfl rfl rfl <| ND <| CF rfl rfl <| SK <| SQ <| SQ <| RG <| FA rfl tyF_impl_Credit_2 rfl <| LD (i := 1) rfl tyP_int rfl rfl rfl <| FA rfl tyF_impl_Credit_2 rfl <| LD (i := 0) rfl tyP_int rfl rfl rfl <| NS rfl rfl rfl <| ND <| CF rfl rfl <| SK <| SQ <| SQ <| RG <| FA rfl tyF_impl_Credit_3 rfl <| LD (i := 1) rfl tyP_int rfl rfl rfl <| FA rfl tyF_impl_Credit_3 rfl <| LD (i := 0) rfl tyP_int rfl rfl rfl <| NS rfl rfl rfl <| ?_
  refine ND <| CF rfl rfl <| SK <| SQ <| RG <| AS rfl rfl <| ND <| ret_cv Try.func62 (res1 Try.func62 rfl (rv_tmp rfl)) <| ?_
  rfl

theorem laws_eqChunk (a : Chunk) (w : World) : CV Try.prog 216 [.agg a.cells.toArray, .agg a.cells.toArray] w (.bool true) := by
  refine cv_of Try.func216 rfl rfl rfl <| SQ <| RG <| BX [_, _] rfl rfl rfl <| fun b1 => BX [_, _] rfl rfl rfl <| fun b2 => AS rfl rfl <| ND <| SQ <| SQ <| RG <| FA rfl tyF_impl_Chunk_0 rfl <| LD (i := 1) rfl tyP_int rfl rfl rfl <| FA rfl tyF_impl_Chunk_0 rfl <| LD (i := 0) rfl tyP_int rfl rfl rfl <| NS rfl rfl rfl <| ND <| CF rfl rfl <| SK <| SQ <| SQ <| RG <| FA rfl tyF_impl_Chunk_1 rfl <| LD (i := 1) rfl tyP_string rfl rfl rfl <| FA rfl tyF_impl_Chunk_1 rfl <| ?_
  refine LD (i := 0) rfl tyP_string rfl rfl rfl <| rw_neqSelfS rfl rfl rfl <| ND <| CF rfl rfl <| SK <| SQ <| RG <| AS rfl rfl <| ND <| ret_cv Try.func216 (res1 Try.func216 rfl (rv_tmp rfl)) <| ?_
  rfl

theorem laws_eqChunkS {w : World} {v : Value} {l : List Chunk} (hv : RdS w 2 (Pl Chunk.cells) v l) (hb : l.length ≤ 1048576) {v1 : Value} (hv1 : RdS w 2 (Pl Chunk.cells) v1 l) : CV Try.prog 203 [v, v1] w (.bool true) := by
  obtain ⟨A, c, rfl, hA⟩ := hv
  obtain ⟨A1, c1, rfl, hA1⟩ := hv1
  refine cv_of Try.func203 rfl rfl rfl <| SQ <| RG <| AS rfl rfl <| ND <| SQ <| SQ <| RG <| MV rfl rfl <| rw_len rfl tyE_S_impl_Chunk rfl <| MV rfl rfl <| rw_len rfl tyE_S_impl_Chunk rfl <| NS rfl rfl rfl <| ND <| CF rfl rfl <| SK <| SQ <| SQ <| RG <| AS rfl rfl <| ND <| BK <| ?_
  refine gw_loopC (α := Nat) (fun z_ => z_ ≤ l.length) (fun z_ => l.length - z_) (fun e z_ => (5, .int .i64 (z_ : Int)) :: e) 0 [(0, _), (1, _)] (Sub.consE rfl rfl (Sub.cons (i := 0) rfl (Sub.cons (i := 1) rfl (Sub.nil _)))) ?_ ?_
  · exact Nat.zero_le _
  · rintro i hI1 ih1
    try dsimp only
    have hle := hI1
    refine SQ <| SQ <| RG <| MV rfl rfl <| MV rfl rfl <| rw_len rfl tyE_S_impl_Chunk rfl <| rw_lss rfl rfl rfl <| ND <| ?_
    refine gw_cond rfl (fun h1 => ?_) (fun h1 => ?_)
    · have hi2 := lt_of_dec h1
      obtain ⟨x3, hx3⟩ := get_of_lt hi2
      have hd3 := drop_cons hx3
      refine SK <| SQ <| BK <| SQ <| gw_draw' [(0, .det), (1, .det), (2, .det), (3, .det), (4, .det), (5, .det), (6, .det), (7, .det)] [8, 9] mixed rfl (free_det (free_det (free_det (free_det (free_det (free_det (free_det (free_det free_nil)))))))) (ts := [_, _]) rfl <| DT rfl rfl (fun K hk => MV rfl rfl hk) <| DT rfl rfl (fun K hk => MV rfl rfl hk) <| ?_
      have hq4 := hA.plain hx3
      refine DT rfl rfl (fun K hk => rw_indexAddr (i) rfl tyE_S_impl_Chunk rfl rfl rfl (hA.some hi2) hi2 hk) <| DT rfl rfl (fun K hk => rw_loadX_s [_, _] rfl tyS_impl_Chunk rfl rfl (fun w hs => hq4.lds0 (n := 2) hs rfl) hk) <| DT rfl rfl (fun K hk => MV rfl rfl hk) <| DT rfl rfl (fun K hk => MV rfl rfl hk) <| ?_
      have hq5 := hA1.plain hx3
      refine DT rfl rfl (fun K hk => rw_indexAddr (i) rfl tyE_S_impl_Chunk rfl rfl rfl (hA1.some hi2) hi2 hk) <| DT rfl rfl (fun K hk => rw_loadX_s [_, _] rfl tyS_impl_Chunk rfl rfl (fun w hs => hq5.lds0 (n := 2) hs rfl) hk) <| dw_nil <| CV1 rfl fun_laws_eqChunk rfl (fun w hs => laws_eqChunk _ w) <| NT rfl rfl <| ND <| CF rfl rfl <| SK <| IB <| RG <| MV rfl rfl <| rw_add rfl rfl rfl <| AS rfl rfl <| ND <| ?_
      refine gw_sub (Sub.consE (i := 5) rfl (int_succ (by omega)) (Sub.cons (i := 0) rfl (Sub.cons (i := 1) rfl (Sub.nil _)))) (ih1 (i + 1) ?_ ?_)
      · omega
      · show l.length - (i + 1) < l.length - i; omega
    · have hn6 := nil_of_dec h1
      refine EX rfl <| SQ <| RG <| AS rfl rfl <| ND <| ret_cv Try.func203 (res1 Try.func203 rfl (rv_tmp rfl)) <| ?_
      rfl

theorem laws_eqBuffer {w : World} {cs : List Value} {x : Buffer} (hv : RdBuffer w cs x) (hb : x.le 1048576) {cs1 : List Value} (hv1 : RdBuffer w cs1 x) : CV Try.prog 145 [.agg cs.toArray, .agg cs1.toArray] w (.bool true) := by
  obtain ⟨v0, rfl, k0⟩ := hv
  obtain ⟨A0, c0, rfl, hA0⟩ := k0
  obtain ⟨hb0, hb1⟩ := hb
  obtain ⟨v1_0, rfl, k1_0⟩ := hv1
  obtain ⟨A1_0, c1_0, rfl, hA1_0⟩ := k1_0
  refine cv_of Try.func145 rfl rfl rfl <| SQ <| RG <| BX [_, _] rfl rfl rfl <| fun b1 => BX [_, _] rfl rfl rfl <| fun b2 => AS rfl rfl <| ND <| SQ <| SQ <| RG <| FA rfl tyF_impl_Buffer_0 rfl <| LD (i := 1) rfl tyP_int rfl rfl rfl <| FA rfl tyF_impl_Buffer_0 rfl <| LD (i := 0) rfl tyP_int rfl rfl rfl <| NS rfl rfl rfl <| ND <| CF rfl rfl <| SK <| SQ <| SQ <| RG <| FA rfl tyF_impl_Buffer_1 rfl <| LD (i := 1) rfl tyP_S_impl_Chunk rfl rfl rfl <| FA rfl tyF_impl_Buffer_1 rfl <| ?_
  refine LD (i := 0) rfl tyP_S_impl_Chunk rfl rfl rfl <| CV1 rfl fun_laws_eqChunkS rfl (fun w hs => laws_eqChunkS (hA0.s Pl.keeps hs) (by omega) (hA1_0.s Pl.keeps hs)) <| NT rfl rfl <| ND <| CF rfl rfl <| SK <| SQ <| RG <| AS rfl rfl <| ND <| ret_cv Try.func145 (res1 Try.func145 rfl (rv_tmp rfl)) <| ?_
  rfl

theorem laws_eqReceiver {w : World} {cs : List Value} {x : Receiver} (hv : RdReceiver w cs x) (hb : x.le 1048576) {cs1 : List Value} (hv1 : RdReceiver w cs1 x) : CV Try.prog 63 [.agg cs.toArray, .agg cs1.toArray] w (.bool true) := by
  obtain ⟨v0, rfl, k0⟩ := hv
  obtain ⟨A0, c0, rfl, hA0⟩ := k0
  obtain ⟨hb0, hb1⟩ := hb
  obtain ⟨v1_0, rfl, k1_0⟩ := hv1
  obtain ⟨A1_0, c1_0, rfl, hA1_0⟩ := k1_0
  refine cv_of Try.func63 rfl rfl rfl <| SQ <| RG <| BX [_, _, _, _, _, _] rfl rfl rfl <| fun b1 => BX [_, _, _, _, _, _] rfl rfl rfl <| fun b2 => AS rfl rfl <| ND <| SQ <| SQ <| RG <| FA rfl tyF_impl_Receiver_0 rfl <| LD (i := 1) rfl tyP_int rfl rfl rfl <| FA rfl tyF_impl_Receiver_0 rfl <| LD (i := 0) rfl tyP_int rfl rfl rfl <| NS rfl rfl rfl <| ND <| CF rfl rfl <| SK <| SQ <| SQ <| RG <| FA rfl tyF_impl_Receiver_1 rfl <| LS (i := 1) [_, _] rfl tyS_impl_Buffer rfl rfl rfl rfl <| ?_
  refine FA rfl tyF_impl_Receiver_1 rfl <| LS (i := 0) [_, _] rfl tyS_impl_Buffer rfl rfl rfl rfl <| CV1 rfl fun_laws_eqBuffer rfl (fun w hs => laws_eqBuffer ⟨_, rfl, (hA0.s Pl.keeps hs)⟩ ⟨hb0, hb1⟩ ⟨_, rfl, (hA1_0.s Pl.keeps hs)⟩) <| NT rfl rfl <| ND <| CF rfl rfl <| SK <| SQ <| SQ <| RG <| FA rfl tyF_impl_Receiver_2 rfl <| LD (i := 1) rfl tyP_int rfl rfl rfl <| FA rfl tyF_impl_Receiver_2 rfl <| LD (i := 0) rfl tyP_int rfl rfl rfl <| NS rfl rfl rfl <| ND <| CF rfl rfl <| SK <| SQ <| SQ <| RG <| ?_
  refine FA rfl tyF_impl_Receiver_3 rfl <| LD (i := 1) rfl tyP_int rfl rfl rfl <| FA rfl tyF_impl_Receiver_3 rfl <| LD (i := 0) rfl tyP_int rfl rfl rfl <| NS rfl rfl rfl <| ND <| CF rfl rfl <| SK <| SQ <| SQ <| RG <| FA rfl tyF_impl_Receiver_4 rfl <| LD (i := 1) rfl tyP_int rfl rfl rfl <| FA rfl tyF_impl_Receiver_4 rfl <| LD (i := 0) rfl tyP_int rfl rfl rfl <| NS rfl rfl rfl <| ND <| CF rfl rfl <| SK <| SQ <| RG <| AS rfl rfl <| ND <| ret_cv Try.func63 (res1 Try.func63 rfl (rv_tmp rfl)) <| ?_
  rfl

theorem laws_eqWindow (a : Window) (w : World) : CV Try.prog 64 [.agg a.cells.toArray, .agg a.cells.toArray] w (.bool true) := by
  refine cv_of Try.func64 rfl rfl rfl <| SQ <| RG <| BX [_, _, _, _, _, _] rfl rfl rfl <| fun b1 => BX [_, _, _, _, _, _] rfl rfl rfl <| fun b2 => AS rfl rfl <| ND <| SQ <| SQ <| RG <| FA rfl tyF_impl_Window_0 rfl <| LD (i := 1) rfl tyP_int rfl rfl rfl <| FA rfl tyF_impl_Window_0 rfl <| LD (i := 0) rfl tyP_int rfl rfl rfl <| NS rfl rfl rfl <| ND <| CF rfl rfl <| SK <| SQ <| SQ <| RG <| FA rfl tyF_impl_Window_1 rfl <| LD (i := 1) rfl tyP_int rfl rfl rfl <| FA rfl tyF_impl_Window_1 rfl <| ?_
  refine LD (i := 0) rfl tyP_int rfl rfl rfl <| NS rfl rfl rfl <| ND <| CF rfl rfl <| SK <| SQ <| SQ <| RG <| FA rfl tyF_impl_Window_2 rfl <| LD (i := 1) rfl tyP_int rfl rfl rfl <| FA rfl tyF_impl_Window_2 rfl <| LD (i := 0) rfl tyP_int rfl rfl rfl <| NS rfl rfl rfl <| ND <| CF rfl rfl <| SK <| SQ <| SQ <| RG <| FA rfl tyF_impl_Window_3 rfl <| LD (i := 1) rfl tyP_int rfl rfl rfl <| FA rfl tyF_impl_Window_3 rfl <| LD (i := 0) rfl tyP_int rfl rfl rfl <| NS rfl rfl rfl <| ?_
  refine ND <| CF rfl rfl <| SK <| SQ <| SQ <| RG <| FA rfl tyF_impl_Window_4 rfl <| LD (i := 1) rfl tyP_int rfl rfl rfl <| FA rfl tyF_impl_Window_4 rfl <| LD (i := 0) rfl tyP_int rfl rfl rfl <| NS rfl rfl rfl <| ND <| CF rfl rfl <| SK <| SQ <| SQ <| RG <| FA rfl tyF_impl_Window_5 rfl <| LD (i := 1) rfl tyP_int rfl rfl rfl <| FA rfl tyF_impl_Window_5 rfl <| LD (i := 0) rfl tyP_int rfl rfl rfl <| NS rfl rfl rfl <| ND <| CF rfl rfl <| SK <| SQ <| RG <| AS rfl rfl <| ?_
  refine ND <| ret_cv Try.func64 (res1 Try.func64 rfl (rv_tmp rfl)) <| ?_
  rfl

theorem laws_eqPriority (a : Priority) (w : World) : CV Try.prog 65 [.agg a.cells.toArray, .agg a.cells.toArray] w (.bool true) := by
  refine cv_of Try.func65 rfl rfl rfl <| SQ <| RG <| BX [_, _] rfl rfl rfl <| fun b1 => BX [_, _] rfl rfl rfl <| fun b2 => AS rfl rfl <| ND <| SQ <| SQ <| RG <| FA rfl tyF_impl_Priority_0 rfl <| LD (i := 1) rfl tyP_int rfl rfl rfl <| FA rfl tyF_impl_Priority_0 rfl <| LD (i := 0) rfl tyP_int rfl rfl rfl <| NS rfl rfl rfl <| ND <| CF rfl rfl <| SK <| SQ <| SQ <| RG <| FA rfl tyF_impl_Priority_1 rfl <| LD (i := 1) rfl tyP_bool rfl rfl rfl <| FA rfl tyF_impl_Priority_1 rfl <| ?_
  refine LD (i := 0) rfl tyP_bool rfl rfl rfl <| rw_neqSelfB (by kernel_rfl) rfl rfl rfl <| ND <| CF rfl rfl <| SK <| SQ <| RG <| AS rfl rfl <| ND <| ret_cv Try.func65 (res1 Try.func65 rfl (rv_tmp rfl)) <| ?_
  rfl

theorem laws_eqStream {w : World} {cs : List Value} {x : Stream} (hv : RdStream w cs x) (hb : x.le 1048576) {cs1 : List Value} (hv1 : RdStream w cs1 x) : CV Try.prog 13 [.agg cs.toArray, .agg cs1.toArray] w (.bool true) := by
  obtain ⟨v0, v1, v2, v3, v4, rfl, k0, k1, k2, k3, k4⟩ := hv
  obtain ⟨A0, c0, rfl, hA0⟩ := k0
  obtain ⟨A1, c1, rfl, hA1⟩ := k1
  obtain ⟨A2, c2, rfl, hA2⟩ := k2
  obtain ⟨A3, c3, rfl, hA3⟩ := k3
  obtain ⟨A4, c4, rfl, hA4⟩ := k4
  obtain ⟨hb0, hb1, hb2, hb3, hb4, hb5⟩ := hb
  obtain ⟨v1_0, v1_1, v1_2, v1_3, v1_4, rfl, k1_0, k1_1, k1_2, k1_3, k1_4⟩ := hv1
  obtain ⟨A1_0, c1_0, rfl, hA1_0⟩ := k1_0
  obtain ⟨A1_1, c1_1, rfl, hA1_1⟩ := k1_1
  obtain ⟨A1_2, c1_2, rfl, hA1_2⟩ := k1_2
  obtain ⟨A1_3, c1_3, rfl, hA1_3⟩ := k1_3
  obtain ⟨A1_4, c1_4, rfl, hA1_4⟩ := k1_4
  refine cv_of Try.func13 rfl rfl rfl <| SQ <| RG <| BX [_, _, _, _, _, _, _, _, _, _, _, _, _, _, _, _, _, _, _, _, _, _, _, _, _, _, _, _, _, _, _, _, _, _, _, _, _, _, _] rfl rfl rfl <| fun b1 => BX [_, _, _, _, _, _, _, _, _, _, _, _, _, _, _, _, _, _, _, _, _, _, _, _, _, _, _, _, _, _, _, _, _, _, _, _, _, _, _] rfl rfl rfl <| fun b2 => AS rfl rfl <| ND <| SQ <| SQ <| RG <| FA rfl tyF_impl_Stream_0 rfl <| LD (i := 1) rfl tyP_int rfl rfl rfl <| FA rfl tyF_impl_Stream_0 rfl <| LD (i := 0) rfl tyP_int rfl rfl rfl <| ?_
  refine NS rfl rfl rfl <| ND <| CF rfl rfl <| SK <| SQ <| SQ <| RG <| FA rfl tyF_impl_Stream_1 rfl <| LS (i := 1) [_, _, _, _, _, _, _, _, _, _, _, _] rfl tyS_impl_Sender rfl rfl rfl rfl <| FA rfl tyF_impl_Stream_1 rfl <| LS (i := 0) [_, _, _, _, _, _, _, _, _, _, _, _] rfl tyS_impl_Sender rfl rfl rfl rfl <| CV1 rfl fun_laws_eqSender rfl (fun w hs => laws_eqSender ⟨_, _, _, _, rfl, (hA0.s Pl.keeps hs), (hA1.s Pl.keeps hs), (hA2.s Pl.keeps hs), (hA3.s Pl.keeps hs)⟩ ⟨hb0, hb1, hb2, hb3⟩ ⟨_, _, _, _, rfl, (hA1_0.s Pl.keeps hs), (hA1_1.s Pl.keeps hs), (hA1_2.s Pl.keeps hs), (hA1_3.s Pl.keeps hs)⟩) <| ?_
  refine NT rfl rfl <| ND <| CF rfl rfl <| SK <| SQ <| SQ <| RG <| FA rfl tyF_impl_Stream_2 rfl <| LS (i := 1) [_, _, _, _] rfl tyS_impl_Credit rfl rfl rfl rfl <| FA rfl tyF_impl_Stream_2 rfl <| LS (i := 0) [_, _, _, _] rfl tyS_impl_Credit rfl rfl rfl rfl <| CV1 rfl fun_laws_eqCredit rfl (fun w hs => laws_eqCredit _ w) <| NT rfl rfl <| ND <| CF rfl rfl <| SK <| SQ <| SQ <| RG <| FA rfl tyF_impl_Stream_3 rfl <| LS (i := 1) [_, _, _, _, _, _] rfl tyS_impl_Receiver rfl rfl rfl rfl <| FA rfl tyF_impl_Stream_3 rfl <| ?_
  refine LS (i := 0) [_, _, _, _, _, _] rfl tyS_impl_Receiver rfl rfl rfl rfl <| CV1 rfl fun_laws_eqReceiver rfl (fun w hs => laws_eqReceiver ⟨_, rfl, (hA4.s Pl.keeps hs)⟩ ⟨hb4, hb5⟩ ⟨_, rfl, (hA1_4.s Pl.keeps hs)⟩) <| NT rfl rfl <| ND <| CF rfl rfl <| SK <| SQ <| SQ <| RG <| FA rfl tyF_impl_Stream_4 rfl <| LS (i := 1) [_, _, _, _, _, _] rfl tyS_impl_Window rfl rfl rfl rfl <| FA rfl tyF_impl_Stream_4 rfl <| LS (i := 0) [_, _, _, _, _, _] rfl tyS_impl_Window rfl rfl rfl rfl <| CV1 rfl fun_laws_eqWindow rfl (fun w hs => laws_eqWindow _ w) <| ?_
  refine NT rfl rfl <| ND <| CF rfl rfl <| SK <| SQ <| SQ <| RG <| FA rfl tyF_impl_Stream_5 rfl <| LS (i := 1) [_, _] rfl tyS_impl_Priority rfl rfl rfl rfl <| FA rfl tyF_impl_Stream_5 rfl <| LS (i := 0) [_, _] rfl tyS_impl_Priority rfl rfl rfl rfl <| CV1 rfl fun_laws_eqPriority rfl (fun w hs => laws_eqPriority _ w) <| NT rfl rfl <| ND <| CF rfl rfl <| SK <| SQ <| SQ <| RG <| FA rfl tyF_impl_Stream_6 rfl <| LD (i := 1) rfl tyP_bool rfl rfl rfl <| FA rfl tyF_impl_Stream_6 rfl <| ?_
  refine LD (i := 0) rfl tyP_bool rfl rfl rfl <| rw_neqSelfB (by kernel_rfl) rfl rfl rfl <| ND <| CF rfl rfl <| SK <| SQ <| SQ <| RG <| FA rfl tyF_impl_Stream_7 rfl <| LD (i := 1) rfl tyP_bool rfl rfl rfl <| FA rfl tyF_impl_Stream_7 rfl <| LD (i := 0) rfl tyP_bool rfl rfl rfl <| rw_neqSelfB (by kernel_rfl) rfl rfl rfl <| ND <| CF rfl rfl <| SK <| SQ <| SQ <| RG <| FA rfl tyF_impl_Stream_8 rfl <| LD (i := 1) rfl tyP_bool rfl rfl rfl <| FA rfl tyF_impl_Stream_8 rfl <| LD (i := 0) rfl tyP_bool rfl rfl rfl <| ?_
  refine rw_neqSelfB (by kernel_rfl) rfl rfl rfl <| ND <| CF rfl rfl <| SK <| SQ <| SQ <| RG <| FA rfl tyF_impl_Stream_9 rfl <| LD (i := 1) rfl tyP_bool rfl rfl rfl <| FA rfl tyF_impl_Stream_9 rfl <| LD (i := 0) rfl tyP_bool rfl rfl rfl <| rw_neqSelfB (by kernel_rfl) rfl rfl rfl <| ND <| CF rfl rfl <| SK <| SQ <| SQ <| RG <| FA rfl tyF_impl_Stream_10 rfl <| LD (i := 1) rfl tyP_bool rfl rfl rfl <| FA rfl tyF_impl_Stream_10 rfl <| LD (i := 0) rfl tyP_bool rfl rfl rfl <| rw_neqSelfB (by kernel_rfl) rfl rfl rfl <| ?_
  refine ND <| CF rfl rfl <| SK <| SQ <| SQ <| RG <| FA rfl tyF_impl_Stream_11 rfl <| LD (i := 1) rfl tyP_bool rfl rfl rfl <| FA rfl tyF_impl_Stream_11 rfl <| LD (i := 0) rfl tyP_bool rfl rfl rfl <| rw_neqSelfB (by kernel_rfl) rfl rfl rfl <| ND <| CF rfl rfl <| SK <| SQ <| SQ <| RG <| FA rfl tyF_impl_Stream_12 rfl <| LD (i := 1) rfl tyP_int rfl rfl rfl <| FA rfl tyF_impl_Stream_12 rfl <| LD (i := 0) rfl tyP_int rfl rfl rfl <| NS rfl rfl rfl <| ND <| CF rfl rfl <| SK <| SQ <| ?_
  refine SQ <| RG <| FA rfl tyF_impl_Stream_13 rfl <| LD (i := 1) rfl tyP_bool rfl rfl rfl <| FA rfl tyF_impl_Stream_13 rfl <| LD (i := 0) rfl tyP_bool rfl rfl rfl <| rw_neqSelfB (by kernel_rfl) rfl rfl rfl <| ND <| CF rfl rfl <| SK <| SQ <| RG <| AS rfl rfl <| ND <| ret_cv Try.func13 (res1 Try.func13 rfl (rv_tmp rfl)) <| ?_
  rfl

theorem law_FnExactIsOver {w : World} {cs : List Value} {x : Stream} (hv : RdStream w cs x) (hb : x.le 9223372036854775807) : CV Try.prog 3 [.agg cs.toArray] w (.bool true) := by
  obtain ⟨v0, v1, v2, v3, v4, rfl, k0, k1, k2, k3, k4⟩ := hv
  obtain ⟨A0, c0, rfl, hA0⟩ := k0
  obtain ⟨A1, c1, rfl, hA1⟩ := k1
  obtain ⟨A2, c2, rfl, hA2⟩ := k2
  obtain ⟨A3, c3, rfl, hA3⟩ := k3
  obtain ⟨A4, c4, rfl, hA4⟩ := k4
  obtain ⟨hb0, hb1, hb2, hb3, hb4, hb5⟩ := hb
  refine cv_of Try.func3 rfl rfl rfl <| SQ <| RG <| BX [_, _, _, _, _, _, _, _, _, _, _, _, _, _, _, _, _, _, _, _, _, _, _, _, _, _, _, _, _, _, _, _, _, _, _, _, _, _, _] rfl rfl rfl <| fun b1 => AS rfl rfl <| ND <| SQ <| RG <| AS rfl rfl <| ND <| SQ <| RG <| LS (i := 0) [_, _, _, _, _, _, _, _, _, _, _, _, _, _, _, _, _, _, _, _, _, _, _, _, _, _, _, _, _, _, _, _, _, _, _, _, _, _, _] rfl tyS_laws_Stream rfl rfl rfl rfl <| MV rfl rfl <| CV1 rfl fun_laws_szStream rfl (fun w hs => laws_szStream ⟨_, _, _, _, _, rfl, (hA0.s Pl.keeps hs), (hA1.s Pl.keeps hs), (hA2.s Pl.keeps hs), (hA3.s Pl.keeps hs), (hA4.s Pl.keeps hs)⟩ _ ⟨by first | omega | assumption, by first | omega | assumption, by first | omega | assumption, by first | omega | assumption, by first | omega | assumption, by first | omega | assumption⟩ (by omega) (by omega)) <| ?_
  refine AS rfl rfl <| ND <| SQ <| SQ <| RG <| MV rfl rfl <| rw_lss rfl rfl rfl <| ND <| ?_
  refine gw_cond rfl (fun h1 => ?_) (fun h1 => ?_)
  · refine SQ <| RG <| AS rfl rfl <| ND <| ret_cv Try.func3 (res1 Try.func3 rfl (rv_tmp rfl)) <| ?_
    rfl
  · have hnn1 := nn_of h1
    obtain ⟨hle1, hz1_0, hz1_1, hz1_2, hz1_3, hz1_4, hz1_5⟩ := szStream_ok ⟨by first | omega | assumption, by first | omega | assumption, by first | omega | assumption, by first | omega | assumption, by first | omega | assumption, by first | omega | assumption⟩ (by omega) (by omega) hnn1
    refine SK <| SQ <| RG <| LS (i := 0) [_, _, _, _, _, _, _, _, _, _, _, _, _, _, _, _, _, _, _, _, _, _, _, _, _, _, _, _, _, _, _, _, _, _, _, _, _, _, _] rfl tyS_laws_Stream rfl rfl rfl rfl <| CN1 rfl fun_laws_toStream rfl (fun w hs => laws_toStream ⟨_, _, _, _, _, rfl, (hA0.s Pl.keeps hs), (hA1.s Pl.keeps hs), (hA2.s Pl.keeps hs), (hA3.s Pl.keeps hs), (hA4.s Pl.keeps hs)⟩ ⟨hz1_0, hz1_1, hz1_2, hz1_3, hz1_4, hz1_5⟩) <| fun vv2 ch2 how2 => ?_
    obtain ⟨cs2, rfl, v2_0, v2_1, v2_2, v2_3, v2_4, c2_0, c2_1, c2_2, c2_3, c2_4, rfl, h2_0, h2_1, h2_2, h2_3, h2_4, rfl⟩ := how2
    refine rw_F (F' := c2_0 ++ (c2_1 ++ (c2_2 ++ (c2_3 ++ (c2_4 ++ ([])))))) (by simp only [List.append_assoc]) <| ?_
    obtain ⟨R2_0, b2_0, rfl, hR2_0, hrd2_0⟩ := h2_0.shape eInt
    obtain ⟨R2_1, b2_1, rfl, hR2_1, hrd2_1⟩ := h2_1.shape eRange
    obtain ⟨R2_2, b2_2, rfl, hR2_2, hrd2_2⟩ := h2_2.shape eRange
    obtain ⟨R2_3, b2_3, rfl, hR2_3, hrd2_3⟩ := h2_3.shape eRange
    obtain ⟨R2_4, b2_4, rfl, hR2_4, hrd2_4⟩ := h2_4.shape eChunk
    refine CV1 rfl fun_spec_IsOver rfl (fun w hs => spec_IsOver ⟨_, _, _, _, _, rfl, ⟨_, _, rfl, hrd2_0 _ (fun c hc => hs.at_ c (List.mem_append_right _ (List.mem_append_left _ hc)))⟩, ⟨_, _, rfl, hrd2_1 _ (fun c hc => hs.at_ c (List.mem_append_right _ (List.mem_append_right _ (List.mem_append_left _ hc))))⟩, ⟨_, _, rfl, hrd2_2 _ (fun c hc => hs.at_ c (List.mem_append_right _ (List.mem_append_right _ (List.mem_append_right _ (List.mem_append_left _ hc)))))⟩, ⟨_, _, rfl, hrd2_3 _ (fun c hc => hs.at_ c (List.mem_append_right _ (List.mem_append_right _ (List.mem_append_right _ (List.mem_append_right _ (List.mem_append_left _ hc))))))⟩, ⟨_, _, rfl, hrd2_4 _ (fun c hc => hs.at_ c (List.mem_append_right _ (List.mem_append_right _ (List.mem_append_right _ (List.mem_append_right _ (List.mem_append_right _ (List.mem_append_left _ hc)))))))⟩⟩ ⟨hz1_0, hz1_1, hz1_2, hz1_3, hz1_4, hz1_5⟩) <| ?_
    refine AS rfl rfl <| ND <| SQ <| RG <| LS (i := 0) [_, _, _, _, _, _, _, _, _, _, _, _, _, _, _, _, _, _, _, _, _, _, _, _, _, _, _, _, _, _, _, _, _, _, _, _, _, _, _] rfl tyS_laws_Stream rfl rfl rfl rfl <| CN1 rfl fun_laws_toStream rfl (fun w hs => laws_toStream ⟨_, _, _, _, _, rfl, (hA0.s Pl.keeps hs), (hA1.s Pl.keeps hs), (hA2.s Pl.keeps hs), (hA3.s Pl.keeps hs), (hA4.s Pl.keeps hs)⟩ ⟨hz1_0, hz1_1, hz1_2, hz1_3, hz1_4, hz1_5⟩) <| fun vv3 ch3 how3 => ?_
    obtain ⟨cs3, rfl, v3_0, v3_1, v3_2, v3_3, v3_4, c3_0, c3_1, c3_2, c3_3, c3_4, rfl, h3_0, h3_1, h3_2, h3_3, h3_4, rfl⟩ := how3
    refine rw_F (F' := c3_0 ++ (c3_1 ++ (c3_2 ++ (c3_3 ++ (c3_4 ++ (c2_0 ++ (c2_1 ++ (c2_2 ++ (c2_3 ++ (c2_4 ++ ([]))))))))))) (by simp only [List.append_assoc]) <| ?_
    obtain ⟨R3_0, b3_0, rfl, hR3_0, hrd3_0⟩ := h3_0.shape eInt
    obtain ⟨R3_1, b3_1, rfl, hR3_1, hrd3_1⟩ := h3_1.shape eRange
    obtain ⟨R3_2, b3_2, rfl, hR3_2, hrd3_2⟩ := h3_2.shape eRange
    obtain ⟨R3_3, b3_3, rfl, hR3_3, hrd3_3⟩ := h3_3.shape eRange
    obtain ⟨R3_4, b3_4, rfl, hR3_4, hrd3_4⟩ := h3_4.shape eChunk
    refine AL rfl tyZ_impl_Stream <| fun b2 => rw_storeN (i := 0) [_, _, _, _, _, _, _, _, _, _, _, _, _, _, _, _, _, _, _, _, _, _, _, _, _, _, _, _, _, _, _, _, _, _, _, _, _, _, _] [_, _, _, _, _, _, _, _, _, _, _, _, _, _, _, _, _, _, _, _, _, _, _, _, _, _, _, _, _, _, _, _, _, _, _, _, _, _, _] [_, _] tyS_impl_Stream.sz rfl rfl rfl rfl rfl rfl rfl rfl rfl <| ND <| SQ <| RG <| LS (i := 0) [_, _, _, _, _, _, _, _, _, _, _, _, _, _, _, _, _, _, _, _, _, _, _, _, _, _, _, _, _, _, _, _, _, _, _, _, _, _, _] rfl tyS_impl_Stream rfl rfl rfl rfl <| CV1 rfl fun_impl_IsOver rfl (fun w hs => impl_IsOver ⟨_, _, _, _, _, rfl, ⟨_, _, rfl, hrd3_0 _ (fun c hc => hs.at_ c (List.mem_append_right _ (List.mem_append_left _ hc)))⟩, ⟨_, _, rfl, hrd3_1 _ (fun c hc => hs.at_ c (List.mem_append_right _ (List.mem_append_right _ (List.mem_append_left _ hc))))⟩, ⟨_, _, rfl, hrd3_2 _ (fun c hc => hs.at_ c (List.mem_append_right _ (List.mem_append_right _ (List.mem_append_right _ (List.mem_append_left _ hc)))))⟩, ⟨_, _, rfl, hrd3_3 _ (fun c hc => hs.at_ c (List.mem_append_right _ (List.mem_append_right _ (List.mem_append_right _ (List.mem_append_right _ (List.mem_append_left _ hc))))))⟩, ⟨_, _, rfl, hrd3_4 _ (fun c hc => hs.at_ c (List.mem_append_right _ (List.mem_append_right _ (List.mem_append_right _ (List.mem_append_right _ (List.mem_append_right _ (List.mem_append_left _ hc)))))))⟩⟩ ⟨hz1_0, hz1_1, hz1_2, hz1_3, hz1_4, hz1_5⟩) <| ?_
    refine AS rfl rfl <| ND <| SQ <| SQ <| RG <| MV rfl rfl <| MV rfl rfl <| rw_neqSelfB (by kernel_rfl) rfl rfl rfl <| ND <| CF rfl rfl <| SK <| SQ <| SQ <| gw_draw' [(0, .det), (1, .det), (2, .add)] [3, 4] mixed rfl (free_det (free_det (free_add free_nil))) (ts := [_, _]) rfl <| DT rfl rfl (fun K hk => LS (i := 0) [_, _, _, _, _, _, _, _, _, _, _, _, _, _, _, _, _, _, _, _, _, _, _, _, _, _, _, _, _, _, _, _, _, _, _, _, _, _, _] rfl tyS_impl_Stream rfl rfl rfl rfl hk) <| DT rfl rfl (fun K hk => LS (i := 1) [_, _, _, _, _, _, _, _, _, _, _, _, _, _, _, _, _, _, _, _, _, _, _, _, _, _, _, _, _, _, _, _, _, _, _, _, _, _, _] rfl tyS_laws_Stream rfl rfl rfl rfl hk) <| ?_
    refine DA rfl rfl (fun K hk => CN1 rfl fun_laws_toStream rfl (fun w hs => laws_toStream ⟨_, _, _, _, _, rfl, (hA0.s Pl.keeps hs), (hA1.s Pl.keeps hs), (hA2.s Pl.keeps hs), (hA3.s Pl.keeps hs), (hA4.s Pl.keeps hs)⟩ ⟨hz1_0, hz1_1, hz1_2, hz1_3, hz1_4, hz1_5⟩) hk) <| fun vv4 ch4 how4 => ?_
    obtain ⟨cs4, rfl, v4_0, v4_1, v4_2, v4_3, v4_4, c4_0, c4_1, c4_2, c4_3, c4_4, rfl, h4_0, h4_1, h4_2, h4_3, h4_4, rfl⟩ := how4
    refine dw_F (F' := c4_0 ++ (c4_1 ++ (c4_2 ++ (c4_3 ++ (c4_4 ++ (c3_0 ++ (c3_1 ++ (c3_2 ++ (c3_3 ++ (c3_4 ++ (c2_0 ++ (c2_1 ++ (c2_2 ++ (c2_3 ++ (c2_4 ++ ([])))))))))))))))) (by simp only [List.append_assoc]) <| ?_
    obtain ⟨R4_0, b4_0, rfl, hR4_0, hrd4_0⟩ := h4_0.shape eInt
    obtain ⟨R4_1, b4_1, rfl, hR4_1, hrd4_1⟩ := h4_1.shape eRange
    obtain ⟨R4_2, b4_2, rfl, hR4_2, hrd4_2⟩ := h4_2.shape eRange
    obtain ⟨R4_3, b4_3, rfl, hR4_3, hrd4_3⟩ := h4_3.shape eRange
    obtain ⟨R4_4, b4_4, rfl, hR4_4, hrd4_4⟩ := h4_4.shape eChunk
    refine dw_nil <| CV1 rfl fun_laws_eqStream rfl (fun w hs => laws_eqStream ⟨_, _, _, _, _, rfl, ⟨_, _, rfl, hrd3_0 _ (fun c hc => hs.at_ c (List.mem_append_right _ (List.mem_append_right _ (List.mem_append_right _ (List.mem_append_right _ (List.mem_append_right _ (List.mem_append_right _ (List.mem_append_left _ hc))))))))⟩, ⟨_, _, rfl, hrd3_1 _ (fun c hc => hs.at_ c (List.mem_append_right _ (List.mem_append_right _ (List.mem_append_right _ (List.mem_append_right _ (List.mem_append_right _ (List.mem_append_right _ (List.mem_append_right _ (List.mem_append_left _ hc)))))))))⟩, ⟨_, _, rfl, hrd3_2 _ (fun c hc => hs.at_ c (List.mem_append_right _ (List.mem_append_right _ (List.mem_append_right _ (List.mem_append_right _ (List.mem_append_right _ (List.mem_append_right _ (List.mem_append_right _ (List.mem_append_right _ (List.mem_append_left _ hc))))))))))⟩, ⟨_, _, rfl, hrd3_3 _ (fun c hc => hs.at_ c (List.mem_append_right _ (List.mem_append_right _ (List.mem_append_right _ (List.mem_append_right _ (List.mem_append_right _ (List.mem_append_right _ (List.mem_append_right _ (List.mem_append_right _ (List.mem_append_right _ (List.mem_append_left _ hc)))))))))))⟩, ⟨_, _, rfl, hrd3_4 _ (fun c hc => hs.at_ c (List.mem_append_right _ (List.mem_append_right _ (List.mem_append_right _ (List.mem_append_right _ (List.mem_append_right _ (List.mem_append_right _ (List.mem_append_right _ (List.mem_append_right _ (List.mem_append_right _ (List.mem_append_right _ (List.mem_append_left _ hc))))))))))))⟩⟩ ⟨hz1_0, hz1_1, hz1_2, hz1_3, hz1_4, hz1_5⟩ ⟨_, _, _, _, _, rfl, ⟨_, _, rfl, hrd4_0 _ (fun c hc => hs.at_ c (List.mem_append_right _ (List.mem_append_left _ hc)))⟩, ⟨_, _, rfl, hrd4_1 _ (fun c hc => hs.at_ c (List.mem_append_right _ (List.mem_append_right _ (List.mem_append_left _ hc))))⟩, ⟨_, _, rfl, hrd4_2 _ (fun c hc => hs.at_ c (List.mem_append_right _ (List.mem_append_right _ (List.mem_append_right _ (List.mem_append_left _ hc)))))⟩, ⟨_, _, rfl, hrd4_3 _ (fun c hc => hs.at_ c (List.mem_append_right _ (List.mem_append_right _ (List.mem_append_right _ (List.mem_append_right _ (List.mem_append_left _ hc))))))⟩, ⟨_, _, rfl, hrd4_4 _ (fun c hc => hs.at_ c (List.mem_append_right _ (List.mem_append_right _ (List.mem_append_right _ (List.mem_append_right _ (List.mem_append_right _ (List.mem_append_left _ hc)))))))⟩⟩) <| ?_
    refine NT rfl rfl <| ND <| CF rfl rfl <| SK <| SQ <| RG <| AS rfl rfl <| ND <| ret_cv Try.func3 (res1 Try.func3 rfl (rv_tmp rfl)) <| ?_
    rfl

theorem laws_szStreamS {w : World} {v : Value} {l : List Stream} (hv : RdS w 39 RdStream v l) (n : Int) (hb : l.length ≤ 9223372036854775807) (hp : ∀ y ∈ l, y.le 9223372036854775807) (h0 : 0 ≤ n) (hn : n ≤ 1048576) : CV Try.prog 14 [v, .int .i64 n] w (.int .i64 (szStreams l n)) := by
  obtain ⟨A, c, rfl, hA⟩ := hv
  refine cv_of Try.func14 rfl rfl rfl <| SQ <| RG <| AS rfl rfl <| ND <| SQ <| RG <| MV rfl rfl <| MV rfl rfl <| rw_len rfl tyE_S_laws_Stream rfl <| rw_sub rfl rfl rfl <| AS rfl rfl <| ND <| SQ <| SQ <| RG <| MV rfl rfl <| rw_lss rfl rfl rfl <| ND <| ?_
  refine gw_cond rfl (fun h1 => ?_) (fun h1 => ?_)
  · refine SQ <| RG <| AS rfl rfl <| ND <| ret_cv Try.func14 (res1 Try.func14 rfl (rv_tmp rfl)) <| ?_
    exact congrArg _ (sz_neg h1 _).symm
  · refine SK <| SQ <| SQ <| RG <| AS rfl rfl <| ND <| BK <| ?_
    refine gw_loopC (α := Nat × Int) (fun z_ => z_.1 ≤ l.length ∧ (0 ≤ z_.2 ∧ z_.2 ≤ 1048576) ∧ szStreams l n = szAll (szStream) (l.drop z_.1) z_.2) (fun z_ => l.length - z_.1) (fun e z_ => (5, .int .i64 (z_.1 : Int)) :: (1, .int .i64 z_.2) :: e) (0, w64 (n - l.length)) [(0, _)] (Sub.consE rfl rfl (Sub.consE rfl rfl (Sub.cons (i := 0) rfl (Sub.nil _)))) ?_ ?_
    · exact ⟨Nat.zero_le _, (sz_start hb h0 hn h1).1, (sz_start hb h0 hn h1).2 _⟩
    · rintro ⟨i, a⟩ hI1 ih1
      dsimp only at hI1
      dsimp only
      have hbn := (sz_start hb h0 hn h1).1
      obtain ⟨hle, ha, hI⟩ := hI1
      refine SQ <| SQ <| RG <| MV rfl rfl <| MV rfl rfl <| rw_len rfl tyE_S_laws_Stream rfl <| rw_lss rfl rfl rfl <| ND <| ?_
      refine gw_cond rfl (fun h2 => ?_) (fun h2 => ?_)
      · have hi2 := lt_of_dec h2
        obtain ⟨x3, hx3⟩ := get_of_lt hi2
        have hd3 := drop_cons hx3
        refine SK <| SQ <| BK <| SQ <| RG <| MV rfl rfl <| MV rfl rfl <| ?_
        obtain ⟨cse4_, hRe4_, hq4⟩ := hA.get hx3
        obtain ⟨ve4_0, ve4_1, ve4_2, ve4_3, ve4_4, rfl, ke4_0, ke4_1, ke4_2, ke4_3, ke4_4⟩ := hRe4_
        obtain ⟨Ae4_0, ce4_0, rfl, hAe4_0⟩ := ke4_0
        obtain ⟨Ae4_1, ce4_1, rfl, hAe4_1⟩ := ke4_1
        obtain ⟨Ae4_2, ce4_2, rfl, hAe4_2⟩ := ke4_2
        obtain ⟨Ae4_3, ce4_3, rfl, hAe4_3⟩ := ke4_3
        obtain ⟨Ae4_4, ce4_4, rfl, hAe4_4⟩ := ke4_4
        obtain ⟨hbe4_0, hbe4_1, hbe4_2, hbe4_3, hbe4_4, hbe4_5⟩ := hp x3 (List.mem_of_getElem? hx3)
        refine rw_indexAddr (i) rfl tyE_S_laws_Stream rfl rfl rfl (hA.some hi2) hi2 <| rw_loadX_s [_, _, _, _, _, _, _, _, _, _, _, _, _, _, _, _, _, _, _, _, _, _, _, _, _, _, _, _, _, _, _, _, _, _, _, _, _, _, _] rfl tyS_laws_Stream rfl rfl (fun w hs => hq4.lds0 (n := 39) hs rfl) <| MV rfl rfl <| CV1 rfl fun_laws_szStream rfl (fun w hs => laws_szStream ⟨_, _, _, _, _, rfl, (hAe4_0.s Pl.keeps hs), (hAe4_1.s Pl.keeps hs), (hAe4_2.s Pl.keeps hs), (hAe4_3.s Pl.keeps hs), (hAe4_4.s Pl.keeps hs)⟩ _ ⟨by first | omega | assumption, by first | omega | assumption, by first | omega | assumption, by first | omega | assumption, by first | omega | assumption, by first | omega | assumption⟩ (by omega) (by omega)) <| ?_
        refine AS rfl rfl <| ND <| SQ <| RG <| MV rfl rfl <| rw_lss rfl rfl rfl <| ND <| ?_
        refine gw_cond rfl (fun h3 => ?_) (fun h3 => ?_)
        · refine SQ <| RG <| AS rfl rfl <| ND <| ret_cv Try.func14 (res1 Try.func14 rfl (rv_tmp rfl)) <| ?_
          rw [hI, hd3]; simp [szAll, thenSz, h3]
        · have hnn5 := nn_of h3
          obtain ⟨hle5, hz5_0, hz5_1, hz5_2, hz5_3, hz5_4, hz5_5⟩ := szStream_ok ⟨by first | omega | assumption, by first | omega | assumption, by first | omega | assumption, by first | omega | assumption, by first | omega | assumption, by first | omega | assumption⟩ (by omega) (by omega) hnn5
          refine SK <| IB <| RG <| MV rfl rfl <| rw_add rfl rfl rfl <| AS rfl rfl <| ND <| ?_
          refine gw_sub (Sub.consE (i := 5) rfl (int_succ (by omega)) (Sub.consE (i := 1) rfl rfl (Sub.cons (i := 0) rfl (Sub.nil _)))) (ih1 (i + 1, szStream x3 a) ?_ ?_)
          · exact ⟨by omega, ⟨nn_of h3, by omega⟩, by rw [hI, hd3]; simp [szAll, thenSz, h3]⟩
          · show l.length - (i + 1) < l.length - i; omega
      · have hn6 := nil_of_dec h2
        refine EX rfl <| SQ <| RG <| MV rfl rfl <| AS rfl rfl <| ND <| ret_cv Try.func14 (res1 Try.func14 rfl (rv_tmp rfl)) <| ?_
        rw [hI, hn6]; rfl

theorem laws_toStreamS {w : World} {v : Value} {l : List Stream} (hv : RdS w 39 RdStream v l) (hb : l.length ≤ 1048576) (hall : ∀ x ∈ l, x.le 1048576) : CN Try.prog 16 [v] w (fun v ch => OwS 56 39 OwStream v l ch) := by
  obtain ⟨A, c, rfl, hA⟩ := hv
  refine cn_of Try.func16 rfl rfl rfl <| SQ <| RG <| AS rfl rfl <| ND <| SQ <| RG <| MV rfl rfl <| rw_len rfl tyE_S_laws_Stream rfl <| rw_make rfl tyM_S_impl_Stream rfl rfl (by omega) <| fun b1 => AS rfl rfl <| ND <| SQ <| SQ <| RG <| AS rfl rfl <| ND <| BK <| ?_
  refine gw_loopX (α := Nat × List Value × List Ck) (fun z_ => z_.1 ≤ l.length ∧ Ows OwStream (l.take z_.1) z_.2.1 z_.2.2) (fun z_ => l.length - z_.1) (fun e z_ => (4, .int .i64 (z_.1 : Int)) :: e) (fun B z_ => B.set 0 ⟨b1, 56, z_.2.1 ++ (List.replicate (l.length - z_.1) [.int .i64 0, .int .i64 0, .int .i64 0, .int .i64 0, .int .i64 0, .slice none 0 0, .slice none 0 0, .slice none 0 0, .slice none 0 0, .int .i64 0, .int .i64 0, .int .i64 0, .int .i64 0, .int .i64 0, .int .i64 0, .int .i64 0, .int .i64 0, .int .i64 0, .int .i64 0, .slice none 0 0, .int .i64 0, .int .i64 0, .int .i64 0, .int .i64 0, .int .i64 0, .int .i64 0, .int .i64 0, .int .i64 0, .int .i64 0, .int .i64 0, .bool false, .bool false, .bool false, .bool false, .bool false, .bool false, .bool false, .int .i64 0, .bool false]).flatten⟩) (fun F z_ => z_.2.2 ++ F) (0, [], []) [(0, _), (2, _), (3, _)] (Sub.consE rfl rfl (Sub.cons (i := 0) rfl (Sub.cons (i := 2) rfl (Sub.cons (i := 3) rfl (Sub.nil _))))) rfl rfl ?_ ?_
  · exact ⟨Nat.zero_le _, .nil⟩
  · rintro ⟨i, cs, chs⟩ hI1 ih1
    dsimp only at hI1
    dsimp only [List.set]
    obtain ⟨hle, hO⟩ := hI1
    refine SQ <| SQ <| RG <| MV rfl rfl <| MV rfl rfl <| rw_len rfl tyE_S_laws_Stream rfl <| rw_lss rfl rfl rfl <| ND <| ?_
    refine gw_cond rfl (fun h1 => ?_) (fun h1 => ?_)
    · have hi2 := lt_of_dec h1
      obtain ⟨x3, hx3⟩ := get_of_lt hi2
      have hd3 := drop_cons hx3
      refine SK <| SQ <| BK <| RG <| MV rfl rfl <| MV rfl rfl <| MV rfl rfl <| MV rfl rfl <| ?_
      obtain ⟨cse4_, hRe4_, hq4⟩ := hA.get hx3
      obtain ⟨ve4_0, ve4_1, ve4_2, ve4_3, ve4_4, rfl, ke4_0, ke4_1, ke4_2, ke4_3, ke4_4⟩ := hRe4_
      obtain ⟨Ae4_0, ce4_0, rfl, hAe4_0⟩ := ke4_0
      obtain ⟨Ae4_1, ce4_1, rfl, hAe4_1⟩ := ke4_1
      obtain ⟨Ae4_2, ce4_2, rfl, hAe4_2⟩ := ke4_2
      obtain ⟨Ae4_3, ce4_3, rfl, hAe4_3⟩ := ke4_3
      obtain ⟨Ae4_4, ce4_4, rfl, hAe4_4⟩ := ke4_4
      obtain ⟨hbe4_0, hbe4_1, hbe4_2, hbe4_3, hbe4_4, hbe4_5⟩ := hall x3 (List.mem_of_getElem? hx3)
      refine rw_indexAddr (i) rfl tyE_S_laws_Stream rfl rfl rfl (hA.some hi2) hi2 <| rw_loadX_s [_, _, _, _, _, _, _, _, _, _, _, _, _, _, _, _, _, _, _, _, _, _, _, _, _, _, _, _, _, _, _, _, _, _, _, _, _, _, _] rfl tyS_laws_Stream rfl rfl (fun w hs => hq4.lds0 (n := 39) hs rfl) <| CN1 rfl fun_laws_toStream rfl (fun w hs => laws_toStream ⟨_, _, _, _, _, rfl, (hAe4_0.s Pl.keeps hs), (hAe4_1.s Pl.keeps hs), (hAe4_2.s Pl.keeps hs), (hAe4_3.s Pl.keeps hs), (hAe4_4.s Pl.keeps hs)⟩ ⟨hbe4_0, hbe4_1, hbe4_2, hbe4_3, hbe4_4, hbe4_5⟩) <| fun vv5 ch5 how5 => ?_
      obtain ⟨cs5, rfl, v5_0, v5_1, v5_2, v5_3, v5_4, c5_0, c5_1, c5_2, c5_3, c5_4, rfl, h5_0, h5_1, h5_2, h5_3, h5_4, rfl⟩ := how5
      refine rw_F (F' := c5_0 ++ (c5_1 ++ (c5_2 ++ (c5_3 ++ (c5_4 ++ (chs ++ ([]))))))) (by simp only [List.append_assoc]) <| ?_
      obtain ⟨R5_0, b5_0, rfl, hR5_0, hrd5_0⟩ := h5_0.shape eInt
      obtain ⟨R5_1, b5_1, rfl, hR5_1, hrd5_1⟩ := h5_1.shape eRange
      obtain ⟨R5_2, b5_2, rfl, hR5_2, hrd5_2⟩ := h5_2.shape eRange
      obtain ⟨R5_3, b5_3, rfl, hR5_3, hrd5_3⟩ := h5_3.shape eRange
      obtain ⟨R5_4, b5_4, rfl, hR5_4, hrd5_4⟩ := h5_4.shape eChunk
      refine rw_indexAddrO (i) rfl tyE_S_impl_Stream rfl rfl rfl hi2 <| rw_storeMade (j := 0) [_, _, _, _, _, _, _, _, _, _, _, _, _, _, _, _, _, _, _, _, _, _, _, _, _, _, _, _, _, _, _, _, _, _, _, _, _, _, _] tyS_impl_Stream.sz rfl rfl rfl rfl rfl rfl (by rw [hO.length eStream, List.length_take]; congr 1; omega) hi2 (eStream.one ⟨_, _, _, _, _, _, _, _, _, _, rfl, by assumption, by assumption, by assumption, by assumption, by assumption, rfl⟩) <| ND <| IB <| RG <| MV rfl rfl <| rw_add rfl rfl rfl <| AS rfl rfl <| ND <| ?_
      refine gw_FP (((((((((((((((((List.Perm.refl _)).append_left _).trans (pullc _ _ _))).append_left _).trans (pullc _ _ _))).append_left _).trans (pullc _ _ _))).append_left _).trans (pullc _ _ _))).append_left _).trans (pullc _ _ _)).trans (((List.Perm.refl _).trans (((List.Perm.refl _).trans (((List.Perm.refl _).trans (((List.Perm.refl _).trans (((List.Perm.refl _).trans ((List.Perm.refl _).append_left _)).append_left _)).append_left _)).append_left _)).append_left _)).append_left _)) (gw_F (F' := (chs ++ (c5_0 ++ (c5_1 ++ (c5_2 ++ (c5_3 ++ (c5_4)))))) ++ ([])) (by simp only [List.append_assoc]) ?_)
      refine gw_sub (Sub.consE (i := 4) rfl (int_succ (by omega)) (Sub.cons (i := 0) rfl (Sub.cons (i := 2) rfl (Sub.cons (i := 3) rfl (Sub.nil _))))) (ih1 (i + 1, cs ++ Stream.row x3 (.slice R5_0 x3.send.ring.cells.length b5_0) (.slice R5_1 x3.send.pending.length b5_1) (.slice R5_2 x3.send.flight.length b5_2) (.slice R5_3 x3.send.acked.length b5_3) (.slice R5_4 x3.recv.buffer.chunks.length b5_4), chs ++ (c5_0 ++ (c5_1 ++ (c5_2 ++ (c5_3 ++ (c5_4)))))) ?_ ?_)
      · exact ⟨by omega, ows_step hO hx3 ⟨_, _, _, _, _, _, _, _, _, _, rfl, h5_0, h5_1, h5_2, h5_3, h5_4, rfl⟩⟩
      · show l.length - (i + 1) < l.length - i; omega
    · have hn6 := nil_of_dec h1
      refine EX rfl <| SQ <| RG <| MV rfl rfl <| AS rfl rfl <| ND <| ?_
      refine ret_cn (⟨b1, 56, cs ++ (List.replicate (l.length - i) [.int .i64 0, .int .i64 0, .int .i64 0, .int .i64 0, .int .i64 0, .slice none 0 0, .slice none 0 0, .slice none 0 0, .slice none 0 0, .int .i64 0, .int .i64 0, .int .i64 0, .int .i64 0, .int .i64 0, .int .i64 0, .int .i64 0, .int .i64 0, .int .i64 0, .int .i64 0, .slice none 0 0, .int .i64 0, .int .i64 0, .int .i64 0, .int .i64 0, .int .i64 0, .int .i64 0, .int .i64 0, .int .i64 0, .int .i64 0, .int .i64 0, .bool false, .bool false, .bool false, .bool false, .bool false, .bool false, .bool false, .int .i64 0, .bool false]).flatten⟩ :: chs) Try.func16 (res1 Try.func16 rfl (rv_tmp rfl)) ?_ ?_
      · exact ows_made eStream hO hle hn6 (by omega)
      · simp

theorem spec_CountOver {w : World} {v : Value} {l : List Stream} (hv : RdS w 39 RdStream v l) (hb : l.length ≤ 1048576) (hall : ∀ y ∈ l, y.le 1048576) : CV Try.prog 15 [v] w (.int .i64 (countOver 0 l)) := by
  obtain ⟨A, c, rfl, hA⟩ := hv
  refine cv_of Try.func15 rfl rfl rfl <| SQ <| RG <| AS rfl rfl <| ND <| SQ <| RG <| AS rfl rfl <| ND <| SQ <| SQ <| RG <| AS rfl rfl <| ND <| BK <| ?_
  refine gw_loopC (α := Nat × Int) (fun z_ => z_.1 ≤ l.length ∧ (0 ≤ z_.2 ∧ z_.2 ≤ (z_.1 : Int)) ∧ countOver 0 l = countOver z_.2 (l.drop z_.1)) (fun z_ => l.length - z_.1) (fun e z_ => (4, .int .i64 (z_.1 : Int)) :: (3, .int .i64 z_.2) :: e) (0, 0) [(0, _), (2, _)] (Sub.consE rfl rfl (Sub.consE rfl rfl (Sub.cons (i := 0) rfl (Sub.cons (i := 2) rfl (Sub.nil _))))) ?_ ?_
  · exact ⟨Nat.zero_le _, ⟨Int.le_refl _, Int.le_refl _⟩, rfl⟩
  · rintro ⟨i, n⟩ hI1 ih1
    dsimp only at hI1
    dsimp only
    obtain ⟨hle, hn0, hI⟩ := hI1
    refine SQ <| SQ <| RG <| MV rfl rfl <| MV rfl rfl <| rw_len rfl tyE_S_impl_Stream rfl <| rw_lss rfl rfl rfl <| ND <| ?_
    refine gw_cond rfl (fun h1 => ?_) (fun h1 => ?_)
    · have hi2 := lt_of_dec h1
      obtain ⟨x3, hx3⟩ := get_of_lt hi2
      have hd3 := drop_cons hx3
      refine SK <| SQ <| BK <| SQ <| RG <| MV rfl rfl <| MV rfl rfl <| ?_
      obtain ⟨cse4_, hRe4_, hq4⟩ := hA.get hx3
      obtain ⟨ve4_0, ve4_1, ve4_2, ve4_3, ve4_4, rfl, ke4_0, ke4_1, ke4_2, ke4_3, ke4_4⟩ := hRe4_
      obtain ⟨Ae4_0, ce4_0, rfl, hAe4_0⟩ := ke4_0
      obtain ⟨Ae4_1, ce4_1, rfl, hAe4_1⟩ := ke4_1
      obtain ⟨Ae4_2, ce4_2, rfl, hAe4_2⟩ := ke4_2
      obtain ⟨Ae4_3, ce4_3, rfl, hAe4_3⟩ := ke4_3
      obtain ⟨Ae4_4, ce4_4, rfl, hAe4_4⟩ := ke4_4
      obtain ⟨hbe4_0, hbe4_1, hbe4_2, hbe4_3, hbe4_4, hbe4_5⟩ := hall x3 (List.mem_of_getElem? hx3)
      refine rw_indexAddr (i) rfl tyE_S_impl_Stream rfl rfl rfl (hA.some hi2) hi2 <| rw_loadX_s [_, _, _, _, _, _, _, _, _, _, _, _, _, _, _, _, _, _, _, _, _, _, _, _, _, _, _, _, _, _, _, _, _, _, _, _, _, _, _] rfl tyS_impl_Stream rfl rfl (fun w hs => hq4.lds0 (n := 39) hs rfl) <| CV1 rfl fun_spec_IsOver rfl (fun w hs => spec_IsOver ⟨_, _, _, _, _, rfl, (hAe4_0.s Pl.keeps hs), (hAe4_1.s Pl.keeps hs), (hAe4_2.s Pl.keeps hs), (hAe4_3.s Pl.keeps hs), (hAe4_4.s Pl.keeps hs)⟩ ⟨hbe4_0, hbe4_1, hbe4_2, hbe4_3, hbe4_4, hbe4_5⟩) <| ND <| ?_
      refine gw_cond rfl (fun h2 => ?_) (fun h2 => ?_)
      · refine RG <| MV rfl rfl <| rw_add rfl rfl rfl <| AS rfl rfl <| ND <| IB <| RG <| MV rfl rfl <| rw_add rfl rfl rfl <| AS rfl rfl <| ND <| ?_
        refine gw_sub (Sub.consE (i := 4) rfl (int_succ (by omega)) (Sub.consE (i := 3) rfl rfl (Sub.cons (i := 0) rfl (Sub.cons (i := 2) rfl (Sub.nil _))))) (ih1 (i + 1, w64 (n + 1)) ?_ ?_)
        · refine ⟨by omega, ?_, by rw [hI, hd3]; simp [countOver, one, h2]⟩
          exact over_step1 hn0 (by omega)
        · show l.length - (i + 1) < l.length - i; omega
      · refine SK <| IB <| RG <| MV rfl rfl <| rw_add rfl rfl rfl <| AS rfl rfl <| ND <| ?_
        refine gw_sub (Sub.consE (i := 4) rfl (int_succ (by omega)) (Sub.consE (i := 3) rfl rfl (Sub.cons (i := 0) rfl (Sub.cons (i := 2) rfl (Sub.nil _))))) (ih1 (i + 1, n) ?_ ?_)
        · refine ⟨by omega, ?_, by rw [hI, hd3]; simp [countOver, one, h2, w64_id (n := n) (by omega) (by omega)]⟩
          omega
        · show l.length - (i + 1) < l.length - i; omega
    · have hn5 := nil_of_dec h1
      refine EX rfl <| SQ <| RG <| MV rfl rfl <| AS rfl rfl <| ND <| ret_cv Try.func15 (res1 Try.func15 rfl (rv_tmp rfl)) <| ?_
      rw [hI, hn5]; rfl

theorem impl_one (b : Bool) (w : World) : CV Try.prog 66 [.bool b] w (.int .i64 (one b)) := by
  refine cv_of Try.func66 rfl rfl rfl <| SQ <| RG <| AS rfl rfl <| ND <| SQ <| SQ <| RG <| MV rfl rfl <| ND <| ?_
  refine gw_cond rfl (fun h1 => ?_) (fun h1 => ?_)
  · refine SQ <| RG <| AS rfl rfl <| ND <| ret_cv Try.func66 (res1 Try.func66 rfl (rv_tmp rfl)) <| ?_
    simp only [one, h1] <;> rfl
  · refine SK <| SQ <| RG <| AS rfl rfl <| ND <| ret_cv Try.func66 (res1 Try.func66 rfl (rv_tmp rfl)) <| ?_
    simp only [one, h1] <;> rfl

theorem impl_CountOver {w : World} {v : Value} {l : List Stream} (hv : RdS w 39 RdStream v l) (hb : l.length ≤ 1048576) (hall : ∀ y ∈ l, y.le 1048576) : CV Try.prog 17 [v] w (.int .i64 (countOver 0 l)) := by
  obtain ⟨A, c, rfl, hA⟩ := hv
  refine cv_of Try.func17 rfl rfl rfl <| SQ <| RG <| AS rfl rfl <| ND <| SQ <| RG <| AS rfl rfl <| ND <| SQ <| SQ <| RG <| MV rfl rfl <| rw_len rfl tyE_S_impl_Stream rfl <| MV rfl rfl <| ND <| BK <| ?_
  refine gw_loopC (α := Nat × Int) (fun z_ => z_.1 ≤ l.length ∧ (0 ≤ z_.2 ∧ z_.2 ≤ (z_.1 : Int)) ∧ countOver 0 l = countOver z_.2 (l.drop z_.1)) (fun z_ => l.length - z_.1) (fun e z_ => (8, .int .i64 (z_.1 : Int)) :: (3, .int .i64 z_.2) :: e) (0, 0) [(2, _), (6, _), (7, _)] (Sub.consE rfl rfl (Sub.consE rfl rfl (Sub.cons (i := 2) rfl (Sub.cons (i := 6) rfl (Sub.cons (i := 7) rfl (Sub.nil _)))))) ?_ ?_
  · exact ⟨Nat.zero_le _, ⟨Int.le_refl _, Int.le_refl _⟩, rfl⟩
  · rintro ⟨i, n⟩ hI1 ih1
    dsimp only at hI1
    dsimp only
    obtain ⟨hle, hn0, hI⟩ := hI1
    refine SQ <| RG <| rw_lss rfl rfl rfl <| ND <| SQ <| ?_
    refine gw_cond rfl (fun h1 => ?_) (fun h1 => ?_)
    · have hi2 := lt_of_dec h1
      obtain ⟨x3, hx3⟩ := get_of_lt hi2
      have hd3 := drop_cons hx3
      refine SK <| SQ <| BK <| SQ <| RG <| ?_
      obtain ⟨cse4_, hRe4_, hq4⟩ := hA.get hx3
      obtain ⟨ve4_0, ve4_1, ve4_2, ve4_3, ve4_4, rfl, ke4_0, ke4_1, ke4_2, ke4_3, ke4_4⟩ := hRe4_
      obtain ⟨Ae4_0, ce4_0, rfl, hAe4_0⟩ := ke4_0
      obtain ⟨Ae4_1, ce4_1, rfl, hAe4_1⟩ := ke4_1
      obtain ⟨Ae4_2, ce4_2, rfl, hAe4_2⟩ := ke4_2
      obtain ⟨Ae4_3, ce4_3, rfl, hAe4_3⟩ := ke4_3
      obtain ⟨Ae4_4, ce4_4, rfl, hAe4_4⟩ := ke4_4
      obtain ⟨hbe4_0, hbe4_1, hbe4_2, hbe4_3, hbe4_4, hbe4_5⟩ := hall x3 (List.mem_of_getElem? hx3)
      refine rw_indexAddr (i) rfl tyE_S_impl_Stream rfl rfl rfl (hA.some hi2) hi2 <| rw_loadX_s [_, _, _, _, _, _, _, _, _, _, _, _, _, _, _, _, _, _, _, _, _, _, _, _, _, _, _, _, _, _, _, _, _, _, _, _, _, _, _] rfl tyS_impl_Stream rfl rfl (fun w hs => hq4.lds0 (n := 39) hs rfl) <| AL rfl tyZ_impl_Stream <| fun b1 => rw_storeN (i := 0) [_, _, _, _, _, _, _, _, _, _, _, _, _, _, _, _, _, _, _, _, _, _, _, _, _, _, _, _, _, _, _, _, _, _, _, _, _, _, _] [_, _, _, _, _, _, _, _, _, _, _, _, _, _, _, _, _, _, _, _, _, _, _, _, _, _, _, _, _, _, _, _, _, _, _, _, _, _, _] [_] tyS_impl_Stream.sz rfl rfl rfl rfl rfl rfl rfl rfl rfl <| ?_
      refine ND <| RG <| MV rfl rfl <| LS (i := 0) [_, _, _, _, _, _, _, _, _, _, _, _, _, _, _, _, _, _, _, _, _, _, _, _, _, _, _, _, _, _, _, _, _, _, _, _, _, _, _] rfl tyS_impl_Stream rfl rfl rfl rfl <| CV1 rfl fun_impl_IsOver rfl (fun w hs => impl_IsOver ⟨_, _, _, _, _, rfl, (hAe4_0.s Pl.keeps hs), (hAe4_1.s Pl.keeps hs), (hAe4_2.s Pl.keeps hs), (hAe4_3.s Pl.keeps hs), (hAe4_4.s Pl.keeps hs)⟩ ⟨hbe4_0, hbe4_1, hbe4_2, hbe4_3, hbe4_4, hbe4_5⟩) <| CV1 rfl fun_impl_one rfl (fun w hs => impl_one _ w) <| rw_add rfl rfl rfl <| AS rfl rfl <| ND <| IB <| ?_
      refine RG <| rw_add rfl rfl rfl <| MV rfl rfl <| ND <| gw_dropN 1 <| ?_
      refine gw_sub (Sub.consE (i := 8) rfl (int_succ (by omega)) (Sub.consE (i := 3) rfl rfl (Sub.cons (i := 2) rfl (Sub.cons (i := 6) rfl (Sub.cons (i := 7) rfl (Sub.nil _)))))) (ih1 (i + 1, w64 (n + one (isOver x3))) ?_ ?_)
      · refine ⟨by omega, ?_, by rw [hI, hd3]; simp [countOver]⟩
        exact over_step hn0 (by omega) _
      · show l.length - (i + 1) < l.length - i; omega
    · have hn5 := nil_of_dec h1
      refine EX rfl <| SQ <| RG <| MV rfl rfl <| AS rfl rfl <| ND <| ret_cv Try.func17 (res1 Try.func17 rfl (rv_tmp rfl)) <| ?_
      rw [hI, hn5]; rfl

theorem laws_eqStreamS {w : World} {v : Value} {l : List Stream} (hv : RdS w 39 RdStream v l) (hb : l.length ≤ 1048576) (hall : ∀ x ∈ l, x.le 1048576) {v1 : Value} (hv1 : RdS w 39 RdStream v1 l) : CV Try.prog 18 [v, v1] w (.bool true) := by
  obtain ⟨A, c, rfl, hA⟩ := hv
  obtain ⟨A1, c1, rfl, hA1⟩ := hv1
  refine cv_of Try.func18 rfl rfl rfl <| SQ <| RG <| AS rfl rfl <| ND <| SQ <| SQ <| RG <| MV rfl rfl <| rw_len rfl tyE_S_impl_Stream rfl <| MV rfl rfl <| rw_len rfl tyE_S_impl_Stream rfl <| NS rfl rfl rfl <| ND <| CF rfl rfl <| SK <| SQ <| SQ <| RG <| AS rfl rfl <| ND <| BK <| ?_
  refine gw_loopC (α := Nat) (fun z_ => z_ ≤ l.length) (fun z_ => l.length - z_) (fun e z_ => (5, .int .i64 (z_ : Int)) :: e) 0 [(0, _), (1, _)] (Sub.consE rfl rfl (Sub.cons (i := 0) rfl (Sub.cons (i := 1) rfl (Sub.nil _)))) ?_ ?_
  · exact Nat.zero_le _
  · rintro i hI1 ih1
    try dsimp only
    have hle := hI1
    refine SQ <| SQ <| RG <| MV rfl rfl <| MV rfl rfl <| rw_len rfl tyE_S_impl_Stream rfl <| rw_lss rfl rfl rfl <| ND <| ?_
    refine gw_cond rfl (fun h1 => ?_) (fun h1 => ?_)
    · have hi2 := lt_of_dec h1
      obtain ⟨x3, hx3⟩ := get_of_lt hi2
      have hd3 := drop_cons hx3
      refine SK <| SQ <| BK <| SQ <| gw_draw' [(0, .det), (1, .det), (2, .det), (3, .det), (4, .det), (5, .det), (6, .det), (7, .det)] [8, 9] mixed rfl (free_det (free_det (free_det (free_det (free_det (free_det (free_det (free_det free_nil)))))))) (ts := [_, _]) rfl <| DT rfl rfl (fun K hk => MV rfl rfl hk) <| DT rfl rfl (fun K hk => MV rfl rfl hk) <| ?_
      obtain ⟨cse4_, hRe4_, hq4⟩ := hA.get hx3
      obtain ⟨ve4_0, ve4_1, ve4_2, ve4_3, ve4_4, rfl, ke4_0, ke4_1, ke4_2, ke4_3, ke4_4⟩ := hRe4_
      obtain ⟨Ae4_0, ce4_0, rfl, hAe4_0⟩ := ke4_0
      obtain ⟨Ae4_1, ce4_1, rfl, hAe4_1⟩ := ke4_1
      obtain ⟨Ae4_2, ce4_2, rfl, hAe4_2⟩ := ke4_2
      obtain ⟨Ae4_3, ce4_3, rfl, hAe4_3⟩ := ke4_3
      obtain ⟨Ae4_4, ce4_4, rfl, hAe4_4⟩ := ke4_4
      obtain ⟨hbe4_0, hbe4_1, hbe4_2, hbe4_3, hbe4_4, hbe4_5⟩ := hall x3 (List.mem_of_getElem? hx3)
      refine DT rfl rfl (fun K hk => rw_indexAddr (i) rfl tyE_S_impl_Stream rfl rfl rfl (hA.some hi2) hi2 hk) <| DT rfl rfl (fun K hk => rw_loadX_s [_, _, _, _, _, _, _, _, _, _, _, _, _, _, _, _, _, _, _, _, _, _, _, _, _, _, _, _, _, _, _, _, _, _, _, _, _, _, _] rfl tyS_impl_Stream rfl rfl (fun w hs => hq4.lds0 (n := 39) hs rfl) hk) <| DT rfl rfl (fun K hk => MV rfl rfl hk) <| DT rfl rfl (fun K hk => MV rfl rfl hk) <| ?_
      obtain ⟨cse5_, hRe5_, hq5⟩ := hA1.get hx3
      obtain ⟨ve5_0, ve5_1, ve5_2, ve5_3, ve5_4, rfl, ke5_0, ke5_1, ke5_2, ke5_3, ke5_4⟩ := hRe5_
      obtain ⟨Ae5_0, ce5_0, rfl, hAe5_0⟩ := ke5_0
      obtain ⟨Ae5_1, ce5_1, rfl, hAe5_1⟩ := ke5_1
      obtain ⟨Ae5_2, ce5_2, rfl, hAe5_2⟩ := ke5_2
      obtain ⟨Ae5_3, ce5_3, rfl, hAe5_3⟩ := ke5_3
      obtain ⟨Ae5_4, ce5_4, rfl, hAe5_4⟩ := ke5_4
      obtain ⟨hbe5_0, hbe5_1, hbe5_2, hbe5_3, hbe5_4, hbe5_5⟩ := hall x3 (List.mem_of_getElem? hx3)
      refine DT rfl rfl (fun K hk => rw_indexAddr (i) rfl tyE_S_impl_Stream rfl rfl rfl (hA1.some hi2) hi2 hk) <| DT rfl rfl (fun K hk => rw_loadX_s [_, _, _, _, _, _, _, _, _, _, _, _, _, _, _, _, _, _, _, _, _, _, _, _, _, _, _, _, _, _, _, _, _, _, _, _, _, _, _] rfl tyS_impl_Stream rfl rfl (fun w hs => hq5.lds0 (n := 39) hs rfl) hk) <| dw_nil <| CV1 rfl fun_laws_eqStream rfl (fun w hs => laws_eqStream ⟨_, _, _, _, _, rfl, (hAe4_0.s Pl.keeps hs), (hAe4_1.s Pl.keeps hs), (hAe4_2.s Pl.keeps hs), (hAe4_3.s Pl.keeps hs), (hAe4_4.s Pl.keeps hs)⟩ ⟨hbe5_0, hbe5_1, hbe5_2, hbe5_3, hbe5_4, hbe5_5⟩ ⟨_, _, _, _, _, rfl, (hAe5_0.s Pl.keeps hs), (hAe5_1.s Pl.keeps hs), (hAe5_2.s Pl.keeps hs), (hAe5_3.s Pl.keeps hs), (hAe5_4.s Pl.keeps hs)⟩) <| ?_
      refine NT rfl rfl <| ND <| CF rfl rfl <| SK <| IB <| RG <| MV rfl rfl <| rw_add rfl rfl rfl <| AS rfl rfl <| ND <| ?_
      refine gw_sub (Sub.consE (i := 5) rfl (int_succ (by omega)) (Sub.cons (i := 0) rfl (Sub.cons (i := 1) rfl (Sub.nil _)))) (ih1 (i + 1) ?_ ?_)
      · omega
      · show l.length - (i + 1) < l.length - i; omega
    · have hn6 := nil_of_dec h1
      refine EX rfl <| SQ <| RG <| AS rfl rfl <| ND <| ret_cv Try.func18 (res1 Try.func18 rfl (rv_tmp rfl)) <| ?_
      rfl

theorem law_FnExactCountOver {w : World} {v : Value} {l : List Stream} (hv : RdS w 39 RdStream v l) (hb : l.length ≤ 9223372036854775807) (hall : ∀ y ∈ l, y.le 9223372036854775807) : CV Try.prog 4 [v] w (.bool true) := by
  obtain ⟨A, c, rfl, hA⟩ := hv
  refine cv_of Try.func4 rfl rfl rfl <| SQ <| RG <| AS rfl rfl <| ND <| SQ <| RG <| AS rfl rfl <| ND <| SQ <| RG <| MV rfl rfl <| MV rfl rfl <| CV1 rfl fun_laws_szStreamS rfl (fun w hs => laws_szStreamS (hA.s RdStream.keeps hs) _ (by first | omega | assumption) (by first | omega | assumption) (by omega) (by omega)) <| AS rfl rfl <| ND <| SQ <| SQ <| RG <| MV rfl rfl <| rw_lss rfl rfl rfl <| ND <| ?_
  refine gw_cond rfl (fun h1 => ?_) (fun h1 => ?_)
  · refine SQ <| RG <| AS rfl rfl <| ND <| ret_cv Try.func4 (res1 Try.func4 rfl (rv_tmp rfl)) <| ?_
    rfl
  · have hnn1 := nn_of h1
    obtain ⟨hle1, hz1_0, hz1_1⟩ := szStreams_ok (by first | omega | assumption) (by first | omega | assumption) (by omega) (by omega) hnn1
    refine SK <| SQ <| RG <| MV rfl rfl <| CN1 rfl fun_laws_toStreamS rfl (fun w hs => laws_toStreamS (hA.s RdStream.keeps hs) hz1_0 hz1_1) <| fun v2 ch2 how2 => ?_
    obtain ⟨R2, rc2, rfl, hR2, hrd2⟩ := how2.shape eStream
    refine CV1 rfl fun_spec_CountOver rfl (fun w hs => spec_CountOver ⟨_, _, rfl, hrd2 _ (fun c hc => hs.at_ c (List.mem_append_right _ (List.mem_append_left _ hc)))⟩ hz1_0 hz1_1) <| AS rfl rfl <| ND <| SQ <| RG <| MV rfl rfl <| CN1 rfl fun_laws_toStreamS rfl (fun w hs => laws_toStreamS (hA.s RdStream.keeps hs) hz1_0 hz1_1) <| fun v3 ch3 how3 => ?_
    obtain ⟨R3, rc3, rfl, hR3, hrd3⟩ := how3.shape eStream
    refine AS rfl rfl <| ND <| SQ <| RG <| MV rfl rfl <| CV1 rfl fun_impl_CountOver rfl (fun w hs => impl_CountOver ⟨_, _, rfl, hrd3 _ (fun c hc => hs.at_ c (List.mem_append_right _ (List.mem_append_left _ hc)))⟩ hz1_0 hz1_1) <| AS rfl rfl <| ND <| SQ <| SQ <| RG <| MV rfl rfl <| MV rfl rfl <| NS rfl rfl rfl <| ND <| CF rfl rfl <| SK <| SQ <| SQ <| RG <| MV rfl rfl <| MV rfl rfl <| CN1 rfl fun_laws_toStreamS rfl (fun w hs => laws_toStreamS (hA.s RdStream.keeps hs) hz1_0 hz1_1) <| fun v4 ch4 how4 => ?_
    obtain ⟨R4, rc4, rfl, hR4, hrd4⟩ := how4.shape eStream
    refine CV1 rfl fun_laws_eqStreamS rfl (fun w hs => laws_eqStreamS ⟨_, _, rfl, hrd3 _ (fun c hc => hs.at_ c (List.mem_append_right _ (List.mem_append_right _ (List.mem_append_left _ hc))))⟩ hz1_0 hz1_1 ⟨_, _, rfl, hrd4 _ (fun c hc => hs.at_ c (List.mem_append_right _ (List.mem_append_left _ hc)))⟩) <| NT rfl rfl <| ND <| CF rfl rfl <| SK <| SQ <| RG <| AS rfl rfl <| ND <| ret_cv Try.func4 (res1 Try.func4 rfl (rv_tmp rfl)) <| ?_
    rfl
end Go.Proofs.Ytildklpahfbnpaa
