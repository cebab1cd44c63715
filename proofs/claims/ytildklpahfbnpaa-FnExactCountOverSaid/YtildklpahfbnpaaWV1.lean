/- Walks: senders, streams, what is over. -/
import Derived.Test.YtildklpahfbnpaaWV0
namespace Go.Proofs.Ytildklpahfbnpaa
open SL Go.RowKit
set_option maxRecDepth 20000 in
theorem spec_IsWindow (p : Window) (w : World) : CV Try.prog 131 [.agg p.cells.toArray] w (.bool (isWindow p)) := by
  refine cv_of Try.func131 rfl rfl rfl <| SQ <| RG <| BX [_, _, _, _, _, _] rfl rfl rfl <| fun b1 => AS rfl rfl <| ND <| SQ <| RG <| FA rfl tyF_impl_Window_1 rfl <| LD (i := 0) rfl tyP_int rfl rfl rfl <| CV1 rfl fun_spec_l1In rfl (fun w hs => spec_l1In _ _ _ w) <| MV rfl rfl <| ?_
  refine rw_case (j := 6) rfl (fun h1 => ?_) (fun h1 => ?_)
  · refine ON rfl rfl h1 <| FA rfl tyF_impl_Window_0 rfl <| ON rfl rfl h1 <| LD (i := 0) rfl tyP_int rfl rfl rfl <| ON rfl rfl h1 <| FA rfl tyF_impl_Window_1 rfl <| ON rfl rfl h1 <| LD (i := 0) rfl tyP_int rfl rfl rfl <| ON rfl rfl h1 <| CV1 rfl fun_spec_l1In rfl (fun w hs => spec_l1In _ _ _ w) <| PT rfl rfl h1 rfl <| MV rfl rfl <| ?_
    refine rw_case (j := 13) rfl (fun h2 => ?_) (fun h2 => ?_)
    · refine ON rfl rfl h2 <| FA rfl tyF_impl_Window_2 rfl <| ON rfl rfl h2 <| LD (i := 0) rfl tyP_int rfl rfl rfl <| ON rfl rfl h2 <| CV1 rfl fun_spec_l1In rfl (fun w hs => spec_l1In _ _ _ w) <| PT rfl rfl h2 rfl <| MV rfl rfl <| ?_
      refine rw_case (j := 18) rfl (fun h3 => ?_) (fun h3 => ?_)
      · refine ON rfl rfl h3 <| FA rfl tyF_impl_Window_3 rfl <| ON rfl rfl h3 <| LD (i := 0) rfl tyP_int rfl rfl rfl <| ON rfl rfl h3 <| FA rfl tyF_impl_Window_2 rfl <| ON rfl rfl h3 <| LD (i := 0) rfl tyP_int rfl rfl rfl <| ON rfl rfl h3 <| CV1 rfl fun_spec_l1In rfl (fun w hs => spec_l1In _ _ _ w) <| PT rfl rfl h3 rfl <| MV rfl rfl <| ?_
        refine rw_case (j := 25) rfl (fun h4 => ?_) (fun h4 => ?_)
        · refine ON rfl rfl h4 <| FA rfl tyF_impl_Window_4 rfl <| ON rfl rfl h4 <| LD (i := 0) rfl tyP_int rfl rfl rfl <| ON rfl rfl h4 <| FA rfl tyF_impl_Window_3 rfl <| ON rfl rfl h4 <| LD (i := 0) rfl tyP_int rfl rfl rfl <| ON rfl rfl h4 <| CV1 rfl fun_spec_l1In rfl (fun w hs => spec_l1In _ _ _ w) <| PT rfl rfl h4 rfl <| MV rfl rfl <| ?_
          refine rw_case (j := 32) rfl (fun h5 => ?_) (fun h5 => ?_)
          · refine ON rfl rfl h5 <| FA rfl tyF_impl_Window_2 rfl <| ON rfl rfl h5 <| LD (i := 0) rfl tyP_int rfl rfl rfl <| ON rfl rfl h5 <| FA rfl tyF_impl_Window_4 rfl <| ON rfl rfl h5 <| LD (i := 0) rfl tyP_int rfl rfl rfl <| ON rfl rfl h5 <| FA rfl tyF_impl_Window_0 rfl <| ON rfl rfl h5 <| LD (i := 0) rfl tyP_int rfl rfl rfl <| ON rfl rfl h5 <| rw_add rfl rfl rfl <| ON rfl rfl h5 <| rw_leq rfl rfl rfl <| PT rfl rfl h5 rfl <| MV rfl rfl <| ?_
            refine rw_case (j := 42) rfl (fun h6 => ?_) (fun h6 => ?_)
            · refine ON rfl rfl h6 <| FA rfl tyF_impl_Window_5 rfl <| ON rfl rfl h6 <| LD (i := 0) rfl tyP_int rfl rfl rfl <| ON rfl rfl h6 <| CV1 rfl fun_spec_l1In rfl (fun w hs => spec_l1In _ _ _ w) <| PT rfl rfl h6 rfl <| AS rfl rfl <| ND <| ret_cv Try.func131 (res1 Try.func131 rfl (rv_tmp rfl)) <| ?_
              simp [isWindow, maxQuic, h1, h2, h3, h4, h5, h6]
            · refine OF rfl rfl h6 rfl <| OF rfl rfl h6 rfl <| OF rfl rfl h6 rfl <| PF rfl rfl h6 rfl <| AS rfl rfl <| ND <| ret_cv Try.func131 (res1 Try.func131 rfl (rv_tmp rfl)) <| ?_
              simp [isWindow, maxQuic, h1, h2, h3, h4, h5, h6]
          · refine OF rfl rfl h5 rfl <| OF rfl rfl h5 rfl <| OF rfl rfl h5 rfl <| OF rfl rfl h5 rfl <| OF rfl rfl h5 rfl <| OF rfl rfl h5 rfl <| OF rfl rfl h5 rfl <| OF rfl rfl h5 rfl <| PF rfl rfl h5 rfl <| MV rfl rfl <| OF rfl rfl rfl rfl <| OF rfl rfl rfl rfl <| OF rfl rfl rfl rfl <| PF rfl rfl rfl rfl <| AS rfl rfl <| ND <| ret_cv Try.func131 (res1 Try.func131 rfl (rv_tmp rfl)) <| ?_
            simp [isWindow, maxQuic, h1, h2, h3, h4, h5]
        · refine OF rfl rfl h4 rfl <| OF rfl rfl h4 rfl <| OF rfl rfl h4 rfl <| OF rfl rfl h4 rfl <| OF rfl rfl h4 rfl <| PF rfl rfl h4 rfl <| MV rfl rfl <| OF rfl rfl rfl rfl <| OF rfl rfl rfl rfl <| OF rfl rfl rfl rfl <| OF rfl rfl rfl rfl <| OF rfl rfl rfl rfl <| OF rfl rfl rfl rfl <| OF rfl rfl rfl rfl <| OF rfl rfl rfl rfl <| PF rfl rfl rfl rfl <| MV rfl rfl <| OF rfl rfl rfl rfl <| OF rfl rfl rfl rfl <| OF rfl rfl rfl rfl <| PF rfl rfl rfl rfl <| ?_
          refine AS rfl rfl <| ND <| ret_cv Try.func131 (res1 Try.func131 rfl (rv_tmp rfl)) <| ?_
          simp [isWindow, maxQuic, h1, h2, h3, h4]
      · refine OF rfl rfl h3 rfl <| OF rfl rfl h3 rfl <| OF rfl rfl h3 rfl <| OF rfl rfl h3 rfl <| OF rfl rfl h3 rfl <| PF rfl rfl h3 rfl <| MV rfl rfl <| OF rfl rfl rfl rfl <| OF rfl rfl rfl rfl <| OF rfl rfl rfl rfl <| OF rfl rfl rfl rfl <| OF rfl rfl rfl rfl <| PF rfl rfl rfl rfl <| MV rfl rfl <| OF rfl rfl rfl rfl <| OF rfl rfl rfl rfl <| OF rfl rfl rfl rfl <| OF rfl rfl rfl rfl <| OF rfl rfl rfl rfl <| OF rfl rfl rfl rfl <| OF rfl rfl rfl rfl <| ?_
        refine OF rfl rfl rfl rfl <| PF rfl rfl rfl rfl <| MV rfl rfl <| OF rfl rfl rfl rfl <| OF rfl rfl rfl rfl <| OF rfl rfl rfl rfl <| PF rfl rfl rfl rfl <| AS rfl rfl <| ND <| ret_cv Try.func131 (res1 Try.func131 rfl (rv_tmp rfl)) <| ?_
        simp [isWindow, maxQuic, h1, h2, h3]
    · refine OF rfl rfl h2 rfl <| OF rfl rfl h2 rfl <| OF rfl rfl h2 rfl <| PF rfl rfl h2 rfl <| MV rfl rfl <| OF rfl rfl rfl rfl <| OF rfl rfl rfl rfl <| OF rfl rfl rfl rfl <| OF rfl rfl rfl rfl <| OF rfl rfl rfl rfl <| PF rfl rfl rfl rfl <| MV rfl rfl <| OF rfl rfl rfl rfl <| OF rfl rfl rfl rfl <| OF rfl rfl rfl rfl <| OF rfl rfl rfl rfl <| OF rfl rfl rfl rfl <| PF rfl rfl rfl rfl <| MV rfl rfl <| OF rfl rfl rfl rfl <| OF rfl rfl rfl rfl <| ?_
      refine OF rfl rfl rfl rfl <| OF rfl rfl rfl rfl <| OF rfl rfl rfl rfl <| OF rfl rfl rfl rfl <| OF rfl rfl rfl rfl <| OF rfl rfl rfl rfl <| PF rfl rfl rfl rfl <| MV rfl rfl <| OF rfl rfl rfl rfl <| OF rfl rfl rfl rfl <| OF rfl rfl rfl rfl <| PF rfl rfl rfl rfl <| AS rfl rfl <| ND <| ret_cv Try.func131 (res1 Try.func131 rfl (rv_tmp rfl)) <| ?_
      simp [isWindow, maxQuic, h1, h2]
  · refine OF rfl rfl h1 rfl <| OF rfl rfl h1 rfl <| OF rfl rfl h1 rfl <| OF rfl rfl h1 rfl <| OF rfl rfl h1 rfl <| PF rfl rfl h1 rfl <| MV rfl rfl <| OF rfl rfl rfl rfl <| OF rfl rfl rfl rfl <| OF rfl rfl rfl rfl <| PF rfl rfl rfl rfl <| MV rfl rfl <| OF rfl rfl rfl rfl <| OF rfl rfl rfl rfl <| OF rfl rfl rfl rfl <| OF rfl rfl rfl rfl <| OF rfl rfl rfl rfl <| PF rfl rfl rfl rfl <| MV rfl rfl <| OF rfl rfl rfl rfl <| OF rfl rfl rfl rfl <| ?_
    refine OF rfl rfl rfl rfl <| OF rfl rfl rfl rfl <| OF rfl rfl rfl rfl <| PF rfl rfl rfl rfl <| MV rfl rfl <| OF rfl rfl rfl rfl <| OF rfl rfl rfl rfl <| OF rfl rfl rfl rfl <| OF rfl rfl rfl rfl <| OF rfl rfl rfl rfl <| OF rfl rfl rfl rfl <| OF rfl rfl rfl rfl <| OF rfl rfl rfl rfl <| PF rfl rfl rfl rfl <| MV rfl rfl <| OF rfl rfl rfl rfl <| OF rfl rfl rfl rfl <| OF rfl rfl rfl rfl <| PF rfl rfl rfl rfl <| AS rfl rfl <| ND <| ?_
    refine ret_cv Try.func131 (res1 Try.func131 rfl (rv_tmp rfl)) <| ?_
    simp [isWindow, maxQuic, h1]

theorem spec_IsPriority (p : Priority) (w : World) : CV Try.prog 132 [.agg p.cells.toArray] w (.bool (isPriority p)) := by
  refine cv_of Try.func132 rfl rfl rfl <| SQ <| RG <| BX [_, _] rfl rfl rfl <| fun b1 => AS rfl rfl <| ND <| SQ <| RG <| FA rfl tyF_impl_Priority_0 rfl <| LD (i := 0) rfl tyP_int rfl rfl rfl <| CV1 rfl fun_spec_l1In rfl (fun w hs => spec_l1In _ _ _ w) <| AS rfl rfl <| ND <| ret_cv Try.func132 (res1 Try.func132 rfl (rv_tmp rfl)) <| ?_
  simp only [isPriority] <;> rfl

set_option maxHeartbeats 2000000 in
set_option maxRecDepth 20000 in
theorem spec_IsStream {w : World} {cs : List Value} {x : Stream} (hv : RdStream w cs x) (hb : x.le 1048576) : CV Try.prog 50 [.agg cs.toArray] w (.bool (isStreamS x)) := by
  obtain ⟨v0, v1, v2, v3, v4, rfl, k0, k1, k2, k3, k4⟩ := hv
  obtain ⟨A0, c0, rfl, hA0⟩ := k0
  obtain ⟨A1, c1, rfl, hA1⟩ := k1
  obtain ⟨A2, c2, rfl, hA2⟩ := k2
  obtain ⟨A3, c3, rfl, hA3⟩ := k3
  obtain ⟨A4, c4, rfl, hA4⟩ := k4
  obtain ⟨hb0, hb1, hb2, hb3, hb4, hb5⟩ := hb
  refine cv_of Try.func50 rfl rfl rfl <| SQ <| RG <| BX [_, _, _, _, _, _, _, _, _, _, _, _, _, _, _, _, _, _, _, _, _, _, _, _, _, _, _, _, _, _, _, _, _, _, _, _, _, _, _] rfl rfl rfl <| fun b1 => AS rfl rfl <| ND <| SQ <| SQ <| RG <| FA rfl tyF_impl_Stream_0 rfl <| LD (i := 0) rfl tyP_int rfl rfl rfl <| CV1 rfl fun_spec_l4Quic rfl (fun w hs => spec_l4Quic _ w) <| NT rfl rfl <| MV rfl rfl <| ?_
  refine rw_case (j := 7) rfl (fun h1 => ?_) (fun h1 => ?_)
  · replace h1 := of_not_T h1
    refine OF rfl rfl (not_F h1) rfl <| OF rfl rfl (not_F h1) rfl <| OF rfl rfl (not_F h1) rfl <| OF rfl rfl (not_F h1) rfl <| PT rfl rfl (not_F h1) rfl <| MV rfl rfl <| OF rfl rfl rfl rfl <| OF rfl rfl rfl rfl <| OF rfl rfl rfl rfl <| OF rfl rfl rfl rfl <| PT rfl rfl rfl rfl <| MV rfl rfl <| OF rfl rfl rfl rfl <| OF rfl rfl rfl rfl <| OF rfl rfl rfl rfl <| OF rfl rfl rfl rfl <| PT rfl rfl rfl rfl <| MV rfl rfl <| OF rfl rfl rfl rfl <| OF rfl rfl rfl rfl <| ?_
    refine OF rfl rfl rfl rfl <| OF rfl rfl rfl rfl <| PT rfl rfl rfl rfl <| MV rfl rfl <| OF rfl rfl rfl rfl <| OF rfl rfl rfl rfl <| OF rfl rfl rfl rfl <| OF rfl rfl rfl rfl <| PT rfl rfl rfl rfl <| MV rfl rfl <| OF rfl rfl rfl rfl <| OF rfl rfl rfl rfl <| OF rfl rfl rfl rfl <| OF rfl rfl rfl rfl <| PT rfl rfl rfl rfl <| MV rfl rfl <| OF rfl rfl rfl rfl <| OF rfl rfl rfl rfl <| OF rfl rfl rfl rfl <| OF rfl rfl rfl rfl <| OU rfl rfl rfl <| ?_
    refine OU rfl rfl rfl <| OU rfl rfl rfl <| OF rfl rfl rfl rfl <| PT rfl rfl rfl rfl <| ND <| CT rfl rfl <| SQ <| RG <| AS rfl rfl <| ND <| ret_cv Try.func50 (res1 Try.func50 rfl (rv_tmp rfl)) <| ?_
    simp [isStreamS, isStreamW, h1]
  · replace h1 := of_not_F h1
    refine ON rfl rfl (not_T h1) <| FA rfl tyF_impl_Stream_1 rfl <| ON rfl rfl (not_T h1) <| LS (i := 0) [_, _, _, _, _, _, _, _, _, _, _, _] rfl tyS_impl_Sender rfl rfl rfl rfl <| ON rfl rfl (not_T h1) <| CV1 rfl fun_spec_IsSender rfl (fun w hs => spec_IsSender ⟨_, _, _, _, rfl, (hA0.s Pl.keeps hs), (hA1.s Pl.keeps hs), (hA2.s Pl.keeps hs), (hA3.s Pl.keeps hs)⟩ ⟨hb0, hb1, hb2, hb3⟩) <| ON rfl rfl (not_T h1) <| NT rfl rfl <| PF rfl rfl (not_T h1) rfl <| MV rfl rfl <| ?_
    refine rw_case (j := 13) rfl (fun h2 => ?_) (fun h2 => ?_)
    · replace h2 := of_not_T h2
      refine OF rfl rfl (not_F h2) rfl <| OF rfl rfl (not_F h2) rfl <| OF rfl rfl (not_F h2) rfl <| OF rfl rfl (not_F h2) rfl <| PT rfl rfl (not_F h2) rfl <| MV rfl rfl <| OF rfl rfl rfl rfl <| OF rfl rfl rfl rfl <| OF rfl rfl rfl rfl <| OF rfl rfl rfl rfl <| PT rfl rfl rfl rfl <| MV rfl rfl <| OF rfl rfl rfl rfl <| OF rfl rfl rfl rfl <| OF rfl rfl rfl rfl <| OF rfl rfl rfl rfl <| PT rfl rfl rfl rfl <| MV rfl rfl <| OF rfl rfl rfl rfl <| OF rfl rfl rfl rfl <| ?_
      refine OF rfl rfl rfl rfl <| OF rfl rfl rfl rfl <| PT rfl rfl rfl rfl <| MV rfl rfl <| OF rfl rfl rfl rfl <| OF rfl rfl rfl rfl <| OF rfl rfl rfl rfl <| OF rfl rfl rfl rfl <| PT rfl rfl rfl rfl <| MV rfl rfl <| OF rfl rfl rfl rfl <| OF rfl rfl rfl rfl <| OF rfl rfl rfl rfl <| OF rfl rfl rfl rfl <| OU rfl rfl rfl <| OU rfl rfl rfl <| OU rfl rfl rfl <| OF rfl rfl rfl rfl <| PT rfl rfl rfl rfl <| ND <| CT rfl rfl <| SQ <| RG <| AS rfl rfl <| ?_
      refine ND <| ret_cv Try.func50 (res1 Try.func50 rfl (rv_tmp rfl)) <| ?_
      simp [isStreamS, isStreamW, h1, h2]
    · replace h2 := of_not_F h2
      refine ON rfl rfl (not_T h2) <| FA rfl tyF_impl_Stream_2 rfl <| ON rfl rfl (not_T h2) <| LS (i := 0) [_, _, _, _] rfl tyS_impl_Credit rfl rfl rfl rfl <| ON rfl rfl (not_T h2) <| CV1 rfl fun_spec_IsCredit rfl (fun w hs => spec_IsCredit _ w) <| ON rfl rfl (not_T h2) <| NT rfl rfl <| PF rfl rfl (not_T h2) rfl <| MV rfl rfl <| ?_
      refine rw_case (j := 19) rfl (fun h3 => ?_) (fun h3 => ?_)
      · replace h3 := of_not_T h3
        refine OF rfl rfl (not_F h3) rfl <| OF rfl rfl (not_F h3) rfl <| OF rfl rfl (not_F h3) rfl <| OF rfl rfl (not_F h3) rfl <| PT rfl rfl (not_F h3) rfl <| MV rfl rfl <| OF rfl rfl rfl rfl <| OF rfl rfl rfl rfl <| OF rfl rfl rfl rfl <| OF rfl rfl rfl rfl <| PT rfl rfl rfl rfl <| MV rfl rfl <| OF rfl rfl rfl rfl <| OF rfl rfl rfl rfl <| OF rfl rfl rfl rfl <| OF rfl rfl rfl rfl <| PT rfl rfl rfl rfl <| MV rfl rfl <| OF rfl rfl rfl rfl <| OF rfl rfl rfl rfl <| ?_
        refine OF rfl rfl rfl rfl <| OF rfl rfl rfl rfl <| PT rfl rfl rfl rfl <| MV rfl rfl <| OF rfl rfl rfl rfl <| OF rfl rfl rfl rfl <| OF rfl rfl rfl rfl <| OF rfl rfl rfl rfl <| OU rfl rfl rfl <| OU rfl rfl rfl <| OU rfl rfl rfl <| OF rfl rfl rfl rfl <| PT rfl rfl rfl rfl <| ND <| CT rfl rfl <| SQ <| RG <| AS rfl rfl <| ND <| ret_cv Try.func50 (res1 Try.func50 rfl (rv_tmp rfl)) <| ?_
        simp [isStreamS, isStreamW, h1, h2, h3]
      · replace h3 := of_not_F h3
        refine ON rfl rfl (not_T h3) <| FA rfl tyF_impl_Stream_3 rfl <| ON rfl rfl (not_T h3) <| LS (i := 0) [_, _, _, _, _, _] rfl tyS_impl_Receiver rfl rfl rfl rfl <| ON rfl rfl (not_T h3) <| CV1 rfl fun_spec_IsReceiver rfl (fun w hs => spec_IsReceiver ⟨_, rfl, (hA4.s Pl.keeps hs)⟩ ⟨hb4, hb5⟩) <| ON rfl rfl (not_T h3) <| NT rfl rfl <| PF rfl rfl (not_T h3) rfl <| MV rfl rfl <| ?_
        refine rw_case (j := 25) rfl (fun h4 => ?_) (fun h4 => ?_)
        · replace h4 := of_not_T h4
          refine OF rfl rfl (not_F h4) rfl <| OF rfl rfl (not_F h4) rfl <| OF rfl rfl (not_F h4) rfl <| OF rfl rfl (not_F h4) rfl <| PT rfl rfl (not_F h4) rfl <| MV rfl rfl <| OF rfl rfl rfl rfl <| OF rfl rfl rfl rfl <| OF rfl rfl rfl rfl <| OF rfl rfl rfl rfl <| PT rfl rfl rfl rfl <| MV rfl rfl <| OF rfl rfl rfl rfl <| OF rfl rfl rfl rfl <| OF rfl rfl rfl rfl <| OF rfl rfl rfl rfl <| PT rfl rfl rfl rfl <| MV rfl rfl <| OF rfl rfl rfl rfl <| OF rfl rfl rfl rfl <| ?_
          refine OF rfl rfl rfl rfl <| OF rfl rfl rfl rfl <| OU rfl rfl rfl <| OU rfl rfl rfl <| OU rfl rfl rfl <| OF rfl rfl rfl rfl <| PT rfl rfl rfl rfl <| ND <| CT rfl rfl <| SQ <| RG <| AS rfl rfl <| ND <| ret_cv Try.func50 (res1 Try.func50 rfl (rv_tmp rfl)) <| ?_
          simp [isStreamS, isStreamW, h1, h2, h3, h4]
        · replace h4 := of_not_F h4
          refine ON rfl rfl (not_T h4) <| FA rfl tyF_impl_Stream_4 rfl <| ON rfl rfl (not_T h4) <| LS (i := 0) [_, _, _, _, _, _] rfl tyS_impl_Window rfl rfl rfl rfl <| ON rfl rfl (not_T h4) <| CV1 rfl fun_spec_IsWindow rfl (fun w hs => spec_IsWindow _ w) <| ON rfl rfl (not_T h4) <| NT rfl rfl <| PF rfl rfl (not_T h4) rfl <| MV rfl rfl <| ?_
          refine rw_case (j := 31) rfl (fun h5 => ?_) (fun h5 => ?_)
          · replace h5 := of_not_T h5
            refine OF rfl rfl (not_F h5) rfl <| OF rfl rfl (not_F h5) rfl <| OF rfl rfl (not_F h5) rfl <| OF rfl rfl (not_F h5) rfl <| PT rfl rfl (not_F h5) rfl <| MV rfl rfl <| OF rfl rfl rfl rfl <| OF rfl rfl rfl rfl <| OF rfl rfl rfl rfl <| OF rfl rfl rfl rfl <| PT rfl rfl rfl rfl <| MV rfl rfl <| OF rfl rfl rfl rfl <| OF rfl rfl rfl rfl <| OF rfl rfl rfl rfl <| OF rfl rfl rfl rfl <| OU rfl rfl rfl <| OU rfl rfl rfl <| OU rfl rfl rfl <| OF rfl rfl rfl rfl <| ?_
            refine PT rfl rfl rfl rfl <| ND <| CT rfl rfl <| SQ <| RG <| AS rfl rfl <| ND <| ret_cv Try.func50 (res1 Try.func50 rfl (rv_tmp rfl)) <| ?_
            simp [isStreamS, isStreamW, h1, h2, h3, h4, h5]
          · replace h5 := of_not_F h5
            refine ON rfl rfl (not_T h5) <| FA rfl tyF_impl_Stream_5 rfl <| ON rfl rfl (not_T h5) <| LS (i := 0) [_, _] rfl tyS_impl_Priority rfl rfl rfl rfl <| ON rfl rfl (not_T h5) <| CV1 rfl fun_spec_IsPriority rfl (fun w hs => spec_IsPriority _ w) <| ON rfl rfl (not_T h5) <| NT rfl rfl <| PF rfl rfl (not_T h5) rfl <| MV rfl rfl <| ?_
            refine rw_case (j := 37) rfl (fun h6 => ?_) (fun h6 => ?_)
            · replace h6 := of_not_T h6
              refine OF rfl rfl (not_F h6) rfl <| OF rfl rfl (not_F h6) rfl <| OF rfl rfl (not_F h6) rfl <| OF rfl rfl (not_F h6) rfl <| PT rfl rfl (not_F h6) rfl <| MV rfl rfl <| OF rfl rfl rfl rfl <| OF rfl rfl rfl rfl <| OF rfl rfl rfl rfl <| OF rfl rfl rfl rfl <| OU rfl rfl rfl <| OU rfl rfl rfl <| OU rfl rfl rfl <| OF rfl rfl rfl rfl <| PT rfl rfl rfl rfl <| ND <| CT rfl rfl <| SQ <| RG <| AS rfl rfl <| ND <| ret_cv Try.func50 (res1 Try.func50 rfl (rv_tmp rfl)) <| ?_
              simp [isStreamS, isStreamW, h1, h2, h3, h4, h5, h6]
            · replace h6 := of_not_F h6
              refine ON rfl rfl (not_T h6) <| FA rfl tyF_impl_Stream_12 rfl <| ON rfl rfl (not_T h6) <| LD (i := 0) rfl tyP_int rfl rfl rfl <| ON rfl rfl (not_T h6) <| CV1 rfl fun_spec_l4Quic rfl (fun w hs => spec_l4Quic _ w) <| ON rfl rfl (not_T h6) <| NT rfl rfl <| PF rfl rfl (not_T h6) rfl <| MV rfl rfl <| ?_
              refine rw_case (j := 43) rfl (fun h7 => ?_) (fun h7 => ?_)
              · replace h7 := of_not_T h7
                refine OF rfl rfl (not_F h7) rfl <| OF rfl rfl (not_F h7) rfl <| OF rfl rfl (not_F h7) rfl <| OF rfl rfl (not_F h7) rfl <| OU rfl rfl rfl <| OU rfl rfl rfl <| OU rfl rfl rfl <| OF rfl rfl (not_F h7) rfl <| PT rfl rfl (not_F h7) rfl <| ND <| CT rfl rfl <| SQ <| RG <| AS rfl rfl <| ND <| ret_cv Try.func50 (res1 Try.func50 rfl (rv_tmp rfl)) <| ?_
                simp [isStreamS, isStreamW, h1, h2, h3, h4, h5, h6, h7]
              · replace h7 := of_not_F h7
                refine ON rfl rfl (not_T h7) <| FA rfl tyF_impl_Stream_6 rfl <| ON rfl rfl (not_T h7) <| LD (i := 0) rfl tyP_bool rfl rfl rfl <| ON rfl rfl (not_T h7) <| NT rfl rfl <| ON rfl rfl (not_T h7) <| MV rfl rfl <| ?_
                refine rw_case (j := 47) rfl (fun h8 => ?_) (fun h8 => ?_)
                · replace h8 := of_not_T h8
                  refine ON rfl rfl (not_F h8) <| FA rfl tyF_impl_Stream_7 rfl <| ON rfl rfl (not_F h8) <| LD (i := 0) rfl tyP_bool rfl rfl rfl <| ON rfl rfl (not_F h8) <| NT rfl rfl <| ON rfl rfl (not_T h7) <| PT rfl rfl (not_F h8) rfl <| PF rfl rfl (not_T h7) rfl <| ND <| ?_
                  refine gw_cond rfl (fun h9 => ?_) (fun h9 => ?_)
                  · replace h9 := of_not_T h9
                    refine SQ <| RG <| AS rfl rfl <| ND <| ret_cv Try.func50 (res1 Try.func50 rfl (rv_tmp rfl)) <| ?_
                    simp [isStreamS, isStreamW, h1, h2, h3, h4, h5, h6, h7, h8, h9]
                  · replace h9 := of_not_F h9
                    refine SK <| SQ <| SQ <| RG <| FA rfl tyF_impl_Stream_1 rfl <| FA rfl tyF_impl_Sender_7 rfl <| LD (i := 0) rfl tyP_int rfl rfl rfl <| FA rfl tyF_impl_Stream_2 rfl <| FA rfl tyF_impl_Credit_1 rfl <| LD (i := 0) rfl tyP_int rfl rfl rfl <| rw_gtr rfl rfl rfl <| MV rfl rfl <| ?_
                    refine rw_case (j := 60) rfl (fun h10 => ?_) (fun h10 => ?_)
                    · refine OF rfl rfl h10 rfl <| OF rfl rfl h10 rfl <| OF rfl rfl h10 rfl <| OF rfl rfl h10 rfl <| OF rfl rfl h10 rfl <| OF rfl rfl h10 rfl <| OF rfl rfl h10 rfl <| PT rfl rfl h10 rfl <| MV rfl rfl <| OF rfl rfl rfl rfl <| OF rfl rfl rfl rfl <| OF rfl rfl rfl rfl <| OU rfl rfl rfl <| OU rfl rfl rfl <| OU rfl rfl rfl <| OU rfl rfl rfl <| OF rfl rfl rfl rfl <| PT rfl rfl rfl rfl <| MV rfl rfl <| OF rfl rfl rfl rfl <| OF rfl rfl rfl rfl <| ?_
                      refine OF rfl rfl rfl rfl <| OU rfl rfl rfl <| OU rfl rfl rfl <| OU rfl rfl rfl <| OF rfl rfl rfl rfl <| PT rfl rfl rfl rfl <| MV rfl rfl <| OF rfl rfl rfl rfl <| OF rfl rfl rfl rfl <| OF rfl rfl rfl rfl <| OF rfl rfl rfl rfl <| OU rfl rfl rfl <| OU rfl rfl rfl <| OU rfl rfl rfl <| OF rfl rfl rfl rfl <| PT rfl rfl rfl rfl <| ND <| CT rfl rfl <| SQ <| RG <| AS rfl rfl <| ND <| ret_cv Try.func50 (res1 Try.func50 rfl (rv_tmp rfl)) <| ?_
                      simp [isStreamS, isStreamW, h1, h2, h3, h4, h5, h6, h7, h8, h9, h10]
                    · refine ON rfl rfl h10 <| FA rfl tyF_impl_Stream_3 rfl <| ON rfl rfl h10 <| FA rfl tyF_impl_Receiver_3 rfl <| ON rfl rfl h10 <| LD (i := 0) rfl tyP_int rfl rfl rfl <| ON rfl rfl h10 <| FA rfl tyF_impl_Stream_4 rfl <| ON rfl rfl h10 <| FA rfl tyF_impl_Window_3 rfl <| ON rfl rfl h10 <| LD (i := 0) rfl tyP_int rfl rfl rfl <| ON rfl rfl h10 <| rw_gtr rfl rfl rfl <| PF rfl rfl h10 rfl <| MV rfl rfl <| ?_
                      refine rw_case (j := 69) rfl (fun h11 => ?_) (fun h11 => ?_)
                      · refine OF rfl rfl h11 rfl <| OF rfl rfl h11 rfl <| OF rfl rfl h11 rfl <| OU rfl rfl rfl <| OU rfl rfl rfl <| OU rfl rfl rfl <| OU rfl rfl rfl <| OF rfl rfl h11 rfl <| PT rfl rfl h11 rfl <| MV rfl rfl <| OF rfl rfl rfl rfl <| OF rfl rfl rfl rfl <| OF rfl rfl rfl rfl <| OU rfl rfl rfl <| OU rfl rfl rfl <| OU rfl rfl rfl <| OF rfl rfl rfl rfl <| PT rfl rfl rfl rfl <| MV rfl rfl <| OF rfl rfl rfl rfl <| OF rfl rfl rfl rfl <| ?_
                        refine OF rfl rfl rfl rfl <| OF rfl rfl rfl rfl <| OU rfl rfl rfl <| OU rfl rfl rfl <| OU rfl rfl rfl <| OF rfl rfl rfl rfl <| PT rfl rfl rfl rfl <| ND <| CT rfl rfl <| SQ <| RG <| AS rfl rfl <| ND <| ret_cv Try.func50 (res1 Try.func50 rfl (rv_tmp rfl)) <| ?_
                        simp [isStreamS, isStreamW, h1, h2, h3, h4, h5, h6, h7, h8, h9, h10, h11]
                      · refine ON rfl rfl h11 <| FA rfl tyF_impl_Stream_8 rfl <| ON rfl rfl h11 <| LD (i := 0) rfl tyP_bool rfl rfl rfl <| ON rfl rfl h11 <| MV rfl rfl <| ?_
                        refine rw_case (j := 72) rfl (fun h12 => ?_) (fun h12 => ?_)
                        · refine ON rfl rfl h12 <| FA rfl tyF_impl_Stream_1 rfl <| ON rfl rfl h12 <| FA rfl tyF_impl_Sender_0 rfl <| ON rfl rfl h12 <| LD (i := 0) rfl tyP_int rfl rfl rfl <| ON rfl rfl h12 <| rw_neq rfl rfl rfl <| ON rfl rfl h11 <| PT rfl rfl h12 rfl <| PF rfl rfl h11 rfl <| MV rfl rfl <| ?_
                          refine rw_case (j := 79) rfl (fun h13 => ?_) (fun h13 => ?_)
                          · replace h13 := of_not_T h13
                            refine OF rfl rfl (not_F h13) rfl <| OF rfl rfl (not_F h13) rfl <| OF rfl rfl (not_F h13) rfl <| OU rfl rfl rfl <| OU rfl rfl rfl <| OU rfl rfl rfl <| OF rfl rfl (not_F h13) rfl <| PT rfl rfl (not_F h13) rfl <| MV rfl rfl <| OF rfl rfl rfl rfl <| OF rfl rfl rfl rfl <| OF rfl rfl rfl rfl <| OF rfl rfl rfl rfl <| OU rfl rfl rfl <| OU rfl rfl rfl <| OU rfl rfl rfl <| OF rfl rfl rfl rfl <| PT rfl rfl rfl rfl <| ND <| CT rfl rfl <| SQ <| RG <| ?_
                            refine AS rfl rfl <| ND <| ret_cv Try.func50 (res1 Try.func50 rfl (rv_tmp rfl)) <| ?_
                            simp [isStreamS, isStreamW, h1, h2, h3, h4, h5, h6, h7, h8, h9, h10, h11, h12, h13]
                          · replace h13 := of_not_F h13
                            refine ON rfl rfl (not_T h13) <| FA rfl tyF_impl_Stream_9 rfl <| ON rfl rfl (not_T h13) <| LD (i := 0) rfl tyP_bool rfl rfl rfl <| ON rfl rfl (not_T h13) <| MV rfl rfl <| ?_
                            refine rw_case (j := 82) rfl (fun h14 => ?_) (fun h14 => ?_)
                            · refine ON rfl rfl h14 <| FA rfl tyF_impl_Stream_11 rfl <| ON rfl rfl h14 <| LD (i := 0) rfl tyP_bool rfl rfl rfl <| ON rfl rfl h14 <| NT rfl rfl <| ON rfl rfl (not_T h13) <| PT rfl rfl h14 rfl <| PF rfl rfl (not_T h13) rfl <| MV rfl rfl <| ?_
                              refine rw_case (j := 88) rfl (fun h15 => ?_) (fun h15 => ?_)
                              · replace h15 := of_not_T h15
                                refine OF rfl rfl (not_F h15) rfl <| OF rfl rfl (not_F h15) rfl <| OF rfl rfl (not_F h15) rfl <| OF rfl rfl (not_F h15) rfl <| OU rfl rfl rfl <| OU rfl rfl rfl <| OU rfl rfl rfl <| OF rfl rfl (not_F h15) rfl <| PT rfl rfl (not_F h15) rfl <| ND <| CT rfl rfl <| SQ <| RG <| AS rfl rfl <| ND <| ret_cv Try.func50 (res1 Try.func50 rfl (rv_tmp rfl)) <| ?_
                                simp [isStreamS, isStreamW, h1, h2, h3, h4, h5, h6, h7, h8, h9, h10, h11, h12, h13, h14, h15]
                              · replace h15 := of_not_F h15
                                refine ON rfl rfl (not_T h15) <| FA rfl tyF_impl_Stream_12 rfl <| ON rfl rfl (not_T h15) <| LD (i := 0) rfl tyP_int rfl rfl rfl <| ON rfl rfl (not_T h15) <| rw_neq rfl rfl rfl <| ON rfl rfl (not_T h15) <| MV rfl rfl <| ?_
                                refine rw_case (j := 92) rfl (fun h16 => ?_) (fun h16 => ?_)
                                · replace h16 := of_not_T h16
                                  refine ON rfl rfl (not_F h16) <| FA rfl tyF_impl_Stream_11 rfl <| ON rfl rfl (not_F h16) <| LD (i := 0) rfl tyP_bool rfl rfl rfl <| ON rfl rfl (not_F h16) <| NT rfl rfl <| ON rfl rfl (not_T h15) <| PT rfl rfl (not_F h16) rfl <| PF rfl rfl (not_T h15) rfl <| ND <| CF rfl (not_T h15) <| SK <| SQ <| RG <| FA rfl tyF_impl_Stream_6 rfl <| LD (i := 0) rfl tyP_bool rfl rfl rfl <| MV rfl rfl <| ON rfl rfl h8 <| FA rfl tyF_impl_Stream_1 rfl <| ON rfl rfl h8 <| ?_
                                  refine FA rfl tyF_impl_Sender_0 rfl <| ON rfl rfl h8 <| LD (i := 0) rfl tyP_int rfl rfl rfl <| ON rfl rfl h8 <| EQ1 rfl rfl rfl <| ON rfl rfl h8 <| MV rfl rfl <| ?_
                                  refine rw_case (j := 105) rfl (fun h17 => ?_) (fun h17 => ?_)
                                  · refine ON rfl rfl h17 <| FA rfl tyF_impl_Stream_1 rfl <| ON rfl rfl h17 <| FA rfl tyF_impl_Sender_1 rfl <| ON rfl rfl h17 <| FA rfl tyF_impl_Ring_2 rfl <| ON rfl rfl h17 <| LD (i := 0) rfl tyP_int rfl rfl rfl <| ON rfl rfl h17 <| EQ1 rfl rfl rfl <| ON rfl rfl h8 <| PT rfl rfl h17 rfl <| ON rfl rfl h8 <| MV rfl rfl <| ?_
                                    refine rw_case (j := 112) rfl (fun h18 => ?_) (fun h18 => ?_)
                                    · refine ON rfl rfl h18 <| FA rfl tyF_impl_Stream_1 rfl <| ON rfl rfl h18 <| FA rfl tyF_impl_Sender_5 rfl <| ON rfl rfl h18 <| LD (i := 0) rfl tyP_int rfl rfl rfl <| ON rfl rfl h18 <| EQ1 rfl rfl rfl <| ON rfl rfl h8 <| PT rfl rfl h18 rfl <| PF rfl rfl h8 rfl <| MV rfl rfl <| ?_
                                      refine rw_case (j := 119) rfl (fun h19 => ?_) (fun h19 => ?_)
                                      · refine ON rfl rfl h19 <| FA rfl tyF_impl_Stream_7 rfl <| ON rfl rfl h19 <| LD (i := 0) rfl tyP_bool rfl rfl rfl <| ON rfl rfl h19 <| MV rfl rfl <| OF rfl rfl h9 rfl <| OF rfl rfl h9 rfl <| OF rfl rfl h9 rfl <| OF rfl rfl h9 rfl <| OF rfl rfl h9 rfl <| OU rfl rfl rfl <| OU rfl rfl rfl <| OU rfl rfl rfl <| OU rfl rfl rfl <| OF rfl rfl h9 rfl <| OF rfl rfl h9 rfl <| OU rfl rfl rfl <| OU rfl rfl rfl <| OU rfl rfl rfl <| ?_
                                        refine OF rfl rfl h9 rfl <| ON rfl rfl h19 <| PT rfl rfl h9 rfl <| PT rfl rfl h19 rfl <| AS rfl rfl <| ND <| ret_cv Try.func50 (res1 Try.func50 rfl (rv_tmp rfl)) <| ?_
                                        simp [isStreamS, isStreamW, h1, h2, h3, h4, h5, h6, h7, h8, h9, h10, h11, h12, h13, h14, h15, h16, h17, h18, h19]
                                      · refine OF rfl rfl h19 rfl <| OF rfl rfl h19 rfl <| OF rfl rfl h19 rfl <| OU rfl rfl rfl <| OU rfl rfl rfl <| OU rfl rfl rfl <| OU rfl rfl rfl <| OU rfl rfl rfl <| OU rfl rfl rfl <| OU rfl rfl rfl <| OU rfl rfl rfl <| OU rfl rfl rfl <| OU rfl rfl rfl <| OU rfl rfl rfl <| OU rfl rfl rfl <| OU rfl rfl rfl <| OU rfl rfl rfl <| OU rfl rfl rfl <| OF rfl rfl h19 rfl <| PF rfl rfl h19 rfl <| AS rfl rfl <| ND <| ?_
                                        refine ret_cv Try.func50 (res1 Try.func50 rfl (rv_tmp rfl)) <| ?_
                                        simp [isStreamS, isStreamW, h1, h2, h3, h4, h5, h6, h7, h8, h9, h10, h11, h12, h13, h14, h15, h16, h17, h18, h19]
                                    · refine OF rfl rfl h18 rfl <| OF rfl rfl h18 rfl <| OF rfl rfl h18 rfl <| OF rfl rfl h18 rfl <| ON rfl rfl h8 <| PF rfl rfl h18 rfl <| PF rfl rfl h8 rfl <| MV rfl rfl <| OF rfl rfl rfl rfl <| OF rfl rfl rfl rfl <| OF rfl rfl rfl rfl <| OU rfl rfl rfl <| OU rfl rfl rfl <| OU rfl rfl rfl <| OU rfl rfl rfl <| OU rfl rfl rfl <| OU rfl rfl rfl <| OU rfl rfl rfl <| OU rfl rfl rfl <| OU rfl rfl rfl <| OU rfl rfl rfl <| ?_
                                      refine OU rfl rfl rfl <| OU rfl rfl rfl <| OU rfl rfl rfl <| OU rfl rfl rfl <| OU rfl rfl rfl <| OF rfl rfl rfl rfl <| PF rfl rfl rfl rfl <| AS rfl rfl <| ND <| ret_cv Try.func50 (res1 Try.func50 rfl (rv_tmp rfl)) <| ?_
                                      simp [isStreamS, isStreamW, h1, h2, h3, h4, h5, h6, h7, h8, h9, h10, h11, h12, h13, h14, h15, h16, h17, h18]
                                  · refine OF rfl rfl h17 rfl <| OF rfl rfl h17 rfl <| OF rfl rfl h17 rfl <| OF rfl rfl h17 rfl <| OF rfl rfl h17 rfl <| ON rfl rfl h8 <| PF rfl rfl h17 rfl <| ON rfl rfl h8 <| MV rfl rfl <| OF rfl rfl rfl rfl <| OF rfl rfl rfl rfl <| OF rfl rfl rfl rfl <| OF rfl rfl rfl rfl <| ON rfl rfl h8 <| PF rfl rfl rfl rfl <| PF rfl rfl h8 rfl <| MV rfl rfl <| OF rfl rfl rfl rfl <| OF rfl rfl rfl rfl <| OF rfl rfl rfl rfl <| OU rfl rfl rfl <| ?_
                                    refine OU rfl rfl rfl <| OU rfl rfl rfl <| OU rfl rfl rfl <| OU rfl rfl rfl <| OU rfl rfl rfl <| OU rfl rfl rfl <| OU rfl rfl rfl <| OU rfl rfl rfl <| OU rfl rfl rfl <| OU rfl rfl rfl <| OU rfl rfl rfl <| OU rfl rfl rfl <| OU rfl rfl rfl <| OU rfl rfl rfl <| OF rfl rfl rfl rfl <| PF rfl rfl rfl rfl <| AS rfl rfl <| ND <| ret_cv Try.func50 (res1 Try.func50 rfl (rv_tmp rfl)) <| ?_
                                    simp [isStreamS, isStreamW, h1, h2, h3, h4, h5, h6, h7, h8, h9, h10, h11, h12, h13, h14, h15, h16, h17]
                                · replace h16 := of_not_F h16
                                  refine OF rfl rfl (not_T h16) rfl <| OF rfl rfl (not_T h16) rfl <| OF rfl rfl (not_T h16) rfl <| ON rfl rfl (not_T h15) <| PF rfl rfl (not_T h16) rfl <| PF rfl rfl (not_T h15) rfl <| ND <| CF rfl rfl <| SK <| SQ <| RG <| FA rfl tyF_impl_Stream_6 rfl <| LD (i := 0) rfl tyP_bool rfl rfl rfl <| MV rfl rfl <| ON rfl rfl h8 <| FA rfl tyF_impl_Stream_1 rfl <| ON rfl rfl h8 <| FA rfl tyF_impl_Sender_0 rfl <| ON rfl rfl h8 <| LD (i := 0) rfl tyP_int rfl rfl rfl <| ?_
                                  refine ON rfl rfl h8 <| EQ1 rfl rfl rfl <| ON rfl rfl h8 <| MV rfl rfl <| ?_
                                  refine rw_case (j := 105) rfl (fun h20 => ?_) (fun h20 => ?_)
                                  · refine ON rfl rfl h20 <| FA rfl tyF_impl_Stream_1 rfl <| ON rfl rfl h20 <| FA rfl tyF_impl_Sender_1 rfl <| ON rfl rfl h20 <| FA rfl tyF_impl_Ring_2 rfl <| ON rfl rfl h20 <| LD (i := 0) rfl tyP_int rfl rfl rfl <| ON rfl rfl h20 <| EQ1 rfl rfl rfl <| ON rfl rfl h8 <| PT rfl rfl h20 rfl <| ON rfl rfl h8 <| MV rfl rfl <| ?_
                                    refine rw_case (j := 112) rfl (fun h21 => ?_) (fun h21 => ?_)
                                    · refine ON rfl rfl h21 <| FA rfl tyF_impl_Stream_1 rfl <| ON rfl rfl h21 <| FA rfl tyF_impl_Sender_5 rfl <| ON rfl rfl h21 <| LD (i := 0) rfl tyP_int rfl rfl rfl <| ON rfl rfl h21 <| EQ1 rfl rfl rfl <| ON rfl rfl h8 <| PT rfl rfl h21 rfl <| PF rfl rfl h8 rfl <| MV rfl rfl <| ?_
                                      refine rw_case (j := 119) rfl (fun h22 => ?_) (fun h22 => ?_)
                                      · refine ON rfl rfl h22 <| FA rfl tyF_impl_Stream_7 rfl <| ON rfl rfl h22 <| LD (i := 0) rfl tyP_bool rfl rfl rfl <| ON rfl rfl h22 <| MV rfl rfl <| OF rfl rfl h9 rfl <| OF rfl rfl h9 rfl <| OF rfl rfl h9 rfl <| OF rfl rfl h9 rfl <| OF rfl rfl h9 rfl <| OU rfl rfl rfl <| OU rfl rfl rfl <| OU rfl rfl rfl <| OU rfl rfl rfl <| OF rfl rfl h9 rfl <| OF rfl rfl h9 rfl <| OU rfl rfl rfl <| OU rfl rfl rfl <| OU rfl rfl rfl <| ?_
                                        refine OF rfl rfl h9 rfl <| ON rfl rfl h22 <| PT rfl rfl h9 rfl <| PT rfl rfl h22 rfl <| AS rfl rfl <| ND <| ret_cv Try.func50 (res1 Try.func50 rfl (rv_tmp rfl)) <| ?_
                                        simp [isStreamS, isStreamW, h1, h2, h3, h4, h5, h6, h7, h8, h9, h10, h11, h12, h13, h14, h15, h16, h20, h21, h22]
                                      · refine OF rfl rfl h22 rfl <| OF rfl rfl h22 rfl <| OF rfl rfl h22 rfl <| OU rfl rfl rfl <| OU rfl rfl rfl <| OU rfl rfl rfl <| OU rfl rfl rfl <| OU rfl rfl rfl <| OU rfl rfl rfl <| OU rfl rfl rfl <| OU rfl rfl rfl <| OU rfl rfl rfl <| OU rfl rfl rfl <| OU rfl rfl rfl <| OU rfl rfl rfl <| OU rfl rfl rfl <| OU rfl rfl rfl <| OU rfl rfl rfl <| OF rfl rfl h22 rfl <| PF rfl rfl h22 rfl <| AS rfl rfl <| ND <| ?_
                                        refine ret_cv Try.func50 (res1 Try.func50 rfl (rv_tmp rfl)) <| ?_
                                        simp [isStreamS, isStreamW, h1, h2, h3, h4, h5, h6, h7, h8, h9, h10, h11, h12, h13, h14, h15, h16, h20, h21, h22]
                                    · refine OF rfl rfl h21 rfl <| OF rfl rfl h21 rfl <| OF rfl rfl h21 rfl <| OF rfl rfl h21 rfl <| ON rfl rfl h8 <| PF rfl rfl h21 rfl <| PF rfl rfl h8 rfl <| MV rfl rfl <| OF rfl rfl rfl rfl <| OF rfl rfl rfl rfl <| OF rfl rfl rfl rfl <| OU rfl rfl rfl <| OU rfl rfl rfl <| OU rfl rfl rfl <| OU rfl rfl rfl <| OU rfl rfl rfl <| OU rfl rfl rfl <| OU rfl rfl rfl <| OU rfl rfl rfl <| OU rfl rfl rfl <| OU rfl rfl rfl <| ?_
                                      refine OU rfl rfl rfl <| OU rfl rfl rfl <| OU rfl rfl rfl <| OU rfl rfl rfl <| OU rfl rfl rfl <| OF rfl rfl rfl rfl <| PF rfl rfl rfl rfl <| AS rfl rfl <| ND <| ret_cv Try.func50 (res1 Try.func50 rfl (rv_tmp rfl)) <| ?_
                                      simp [isStreamS, isStreamW, h1, h2, h3, h4, h5, h6, h7, h8, h9, h10, h11, h12, h13, h14, h15, h16, h20, h21]
                                  · refine OF rfl rfl h20 rfl <| OF rfl rfl h20 rfl <| OF rfl rfl h20 rfl <| OF rfl rfl h20 rfl <| OF rfl rfl h20 rfl <| ON rfl rfl h8 <| PF rfl rfl h20 rfl <| ON rfl rfl h8 <| MV rfl rfl <| OF rfl rfl rfl rfl <| OF rfl rfl rfl rfl <| OF rfl rfl rfl rfl <| OF rfl rfl rfl rfl <| ON rfl rfl h8 <| PF rfl rfl rfl rfl <| PF rfl rfl h8 rfl <| MV rfl rfl <| OF rfl rfl rfl rfl <| OF rfl rfl rfl rfl <| OF rfl rfl rfl rfl <| OU rfl rfl rfl <| ?_
                                    refine OU rfl rfl rfl <| OU rfl rfl rfl <| OU rfl rfl rfl <| OU rfl rfl rfl <| OU rfl rfl rfl <| OU rfl rfl rfl <| OU rfl rfl rfl <| OU rfl rfl rfl <| OU rfl rfl rfl <| OU rfl rfl rfl <| OU rfl rfl rfl <| OU rfl rfl rfl <| OU rfl rfl rfl <| OU rfl rfl rfl <| OF rfl rfl rfl rfl <| PF rfl rfl rfl rfl <| AS rfl rfl <| ND <| ret_cv Try.func50 (res1 Try.func50 rfl (rv_tmp rfl)) <| ?_
                                    simp [isStreamS, isStreamW, h1, h2, h3, h4, h5, h6, h7, h8, h9, h10, h11, h12, h13, h14, h15, h16, h20]
                            · refine OF rfl rfl h14 rfl <| OF rfl rfl h14 rfl <| OF rfl rfl h14 rfl <| ON rfl rfl (not_T h13) <| PF rfl rfl h14 rfl <| PF rfl rfl (not_T h13) rfl <| MV rfl rfl <| ON rfl rfl rfl <| FA rfl tyF_impl_Stream_12 rfl <| ON rfl rfl rfl <| LD (i := 0) rfl tyP_int rfl rfl rfl <| ON rfl rfl rfl <| rw_neq rfl rfl rfl <| ON rfl rfl rfl <| MV rfl rfl <| ?_
                              refine rw_case (j := 92) rfl (fun h23 => ?_) (fun h23 => ?_)
                              · replace h23 := of_not_T h23
                                refine ON rfl rfl (not_F h23) <| FA rfl tyF_impl_Stream_11 rfl <| ON rfl rfl (not_F h23) <| LD (i := 0) rfl tyP_bool rfl rfl rfl <| ON rfl rfl (not_F h23) <| NT rfl rfl <| ON rfl rfl rfl <| PT rfl rfl (not_F h23) rfl <| PF rfl rfl rfl rfl <| ND <| ?_
                                refine gw_cond rfl (fun h24 => ?_) (fun h24 => ?_)
                                · replace h24 := of_not_T h24
                                  refine SQ <| RG <| AS rfl rfl <| ND <| ret_cv Try.func50 (res1 Try.func50 rfl (rv_tmp rfl)) <| ?_
                                  simp [isStreamS, isStreamW, h1, h2, h3, h4, h5, h6, h7, h8, h9, h10, h11, h12, h13, h14, h23, h24]
                                · replace h24 := of_not_F h24
                                  refine SK <| SQ <| RG <| FA rfl tyF_impl_Stream_6 rfl <| LD (i := 0) rfl tyP_bool rfl rfl rfl <| MV rfl rfl <| ON rfl rfl h8 <| FA rfl tyF_impl_Stream_1 rfl <| ON rfl rfl h8 <| FA rfl tyF_impl_Sender_0 rfl <| ON rfl rfl h8 <| LD (i := 0) rfl tyP_int rfl rfl rfl <| ON rfl rfl h8 <| EQ1 rfl rfl rfl <| ON rfl rfl h8 <| MV rfl rfl <| ?_
                                  refine rw_case (j := 105) rfl (fun h25 => ?_) (fun h25 => ?_)
                                  · refine ON rfl rfl h25 <| FA rfl tyF_impl_Stream_1 rfl <| ON rfl rfl h25 <| FA rfl tyF_impl_Sender_1 rfl <| ON rfl rfl h25 <| FA rfl tyF_impl_Ring_2 rfl <| ON rfl rfl h25 <| LD (i := 0) rfl tyP_int rfl rfl rfl <| ON rfl rfl h25 <| EQ1 rfl rfl rfl <| ON rfl rfl h8 <| PT rfl rfl h25 rfl <| ON rfl rfl h8 <| MV rfl rfl <| ?_
                                    refine rw_case (j := 112) rfl (fun h26 => ?_) (fun h26 => ?_)
                                    · refine ON rfl rfl h26 <| FA rfl tyF_impl_Stream_1 rfl <| ON rfl rfl h26 <| FA rfl tyF_impl_Sender_5 rfl <| ON rfl rfl h26 <| LD (i := 0) rfl tyP_int rfl rfl rfl <| ON rfl rfl h26 <| EQ1 rfl rfl rfl <| ON rfl rfl h8 <| PT rfl rfl h26 rfl <| PF rfl rfl h8 rfl <| MV rfl rfl <| ?_
                                      refine rw_case (j := 119) rfl (fun h27 => ?_) (fun h27 => ?_)
                                      · refine ON rfl rfl h27 <| FA rfl tyF_impl_Stream_7 rfl <| ON rfl rfl h27 <| LD (i := 0) rfl tyP_bool rfl rfl rfl <| ON rfl rfl h27 <| MV rfl rfl <| OF rfl rfl h9 rfl <| OF rfl rfl h9 rfl <| OF rfl rfl h9 rfl <| OF rfl rfl h9 rfl <| OF rfl rfl h9 rfl <| OU rfl rfl rfl <| OU rfl rfl rfl <| OU rfl rfl rfl <| OU rfl rfl rfl <| OF rfl rfl h9 rfl <| OF rfl rfl h9 rfl <| OU rfl rfl rfl <| OU rfl rfl rfl <| OU rfl rfl rfl <| ?_
                                        refine OF rfl rfl h9 rfl <| ON rfl rfl h27 <| PT rfl rfl h9 rfl <| PT rfl rfl h27 rfl <| AS rfl rfl <| ND <| ret_cv Try.func50 (res1 Try.func50 rfl (rv_tmp rfl)) <| ?_
                                        simp [isStreamS, isStreamW, h1, h2, h3, h4, h5, h6, h7, h8, h9, h10, h11, h12, h13, h14, h23, h24, h25, h26, h27]
                                      · refine OF rfl rfl h27 rfl <| OF rfl rfl h27 rfl <| OF rfl rfl h27 rfl <| OU rfl rfl rfl <| OU rfl rfl rfl <| OU rfl rfl rfl <| OU rfl rfl rfl <| OU rfl rfl rfl <| OU rfl rfl rfl <| OU rfl rfl rfl <| OU rfl rfl rfl <| OU rfl rfl rfl <| OU rfl rfl rfl <| OU rfl rfl rfl <| OU rfl rfl rfl <| OU rfl rfl rfl <| OU rfl rfl rfl <| OU rfl rfl rfl <| OF rfl rfl h27 rfl <| PF rfl rfl h27 rfl <| AS rfl rfl <| ND <| ?_
                                        refine ret_cv Try.func50 (res1 Try.func50 rfl (rv_tmp rfl)) <| ?_
                                        simp [isStreamS, isStreamW, h1, h2, h3, h4, h5, h6, h7, h8, h9, h10, h11, h12, h13, h14, h23, h24, h25, h26, h27]
                                    · refine OF rfl rfl h26 rfl <| OF rfl rfl h26 rfl <| OF rfl rfl h26 rfl <| OF rfl rfl h26 rfl <| ON rfl rfl h8 <| PF rfl rfl h26 rfl <| PF rfl rfl h8 rfl <| MV rfl rfl <| OF rfl rfl rfl rfl <| OF rfl rfl rfl rfl <| OF rfl rfl rfl rfl <| OU rfl rfl rfl <| OU rfl rfl rfl <| OU rfl rfl rfl <| OU rfl rfl rfl <| OU rfl rfl rfl <| OU rfl rfl rfl <| OU rfl rfl rfl <| OU rfl rfl rfl <| OU rfl rfl rfl <| OU rfl rfl rfl <| ?_
                                      refine OU rfl rfl rfl <| OU rfl rfl rfl <| OU rfl rfl rfl <| OU rfl rfl rfl <| OU rfl rfl rfl <| OF rfl rfl rfl rfl <| PF rfl rfl rfl rfl <| AS rfl rfl <| ND <| ret_cv Try.func50 (res1 Try.func50 rfl (rv_tmp rfl)) <| ?_
                                      simp [isStreamS, isStreamW, h1, h2, h3, h4, h5, h6, h7, h8, h9, h10, h11, h12, h13, h14, h23, h24, h25, h26]
                                  · refine OF rfl rfl h25 rfl <| OF rfl rfl h25 rfl <| OF rfl rfl h25 rfl <| OF rfl rfl h25 rfl <| OF rfl rfl h25 rfl <| ON rfl rfl h8 <| PF rfl rfl h25 rfl <| ON rfl rfl h8 <| MV rfl rfl <| OF rfl rfl rfl rfl <| OF rfl rfl rfl rfl <| OF rfl rfl rfl rfl <| OF rfl rfl rfl rfl <| ON rfl rfl h8 <| PF rfl rfl rfl rfl <| PF rfl rfl h8 rfl <| MV rfl rfl <| OF rfl rfl rfl rfl <| OF rfl rfl rfl rfl <| OF rfl rfl rfl rfl <| OU rfl rfl rfl <| ?_
                                    refine OU rfl rfl rfl <| OU rfl rfl rfl <| OU rfl rfl rfl <| OU rfl rfl rfl <| OU rfl rfl rfl <| OU rfl rfl rfl <| OU rfl rfl rfl <| OU rfl rfl rfl <| OU rfl rfl rfl <| OU rfl rfl rfl <| OU rfl rfl rfl <| OU rfl rfl rfl <| OU rfl rfl rfl <| OU rfl rfl rfl <| OF rfl rfl rfl rfl <| PF rfl rfl rfl rfl <| AS rfl rfl <| ND <| ret_cv Try.func50 (res1 Try.func50 rfl (rv_tmp rfl)) <| ?_
                                    simp [isStreamS, isStreamW, h1, h2, h3, h4, h5, h6, h7, h8, h9, h10, h11, h12, h13, h14, h23, h24, h25]
                              · replace h23 := of_not_F h23
                                refine OF rfl rfl (not_T h23) rfl <| OF rfl rfl (not_T h23) rfl <| OF rfl rfl (not_T h23) rfl <| ON rfl rfl rfl <| PF rfl rfl (not_T h23) rfl <| PF rfl rfl rfl rfl <| ND <| CF rfl rfl <| SK <| SQ <| RG <| FA rfl tyF_impl_Stream_6 rfl <| LD (i := 0) rfl tyP_bool rfl rfl rfl <| MV rfl rfl <| ON rfl rfl h8 <| FA rfl tyF_impl_Stream_1 rfl <| ON rfl rfl h8 <| FA rfl tyF_impl_Sender_0 rfl <| ON rfl rfl h8 <| LD (i := 0) rfl tyP_int rfl rfl rfl <| ON rfl rfl h8 <| ?_
                                refine EQ1 rfl rfl rfl <| ON rfl rfl h8 <| MV rfl rfl <| ?_
                                refine rw_case (j := 105) rfl (fun h28 => ?_) (fun h28 => ?_)
                                · refine ON rfl rfl h28 <| FA rfl tyF_impl_Stream_1 rfl <| ON rfl rfl h28 <| FA rfl tyF_impl_Sender_1 rfl <| ON rfl rfl h28 <| FA rfl tyF_impl_Ring_2 rfl <| ON rfl rfl h28 <| LD (i := 0) rfl tyP_int rfl rfl rfl <| ON rfl rfl h28 <| EQ1 rfl rfl rfl <| ON rfl rfl h8 <| PT rfl rfl h28 rfl <| ON rfl rfl h8 <| MV rfl rfl <| ?_
                                  refine rw_case (j := 112) rfl (fun h29 => ?_) (fun h29 => ?_)
                                  · refine ON rfl rfl h29 <| FA rfl tyF_impl_Stream_1 rfl <| ON rfl rfl h29 <| FA rfl tyF_impl_Sender_5 rfl <| ON rfl rfl h29 <| LD (i := 0) rfl tyP_int rfl rfl rfl <| ON rfl rfl h29 <| EQ1 rfl rfl rfl <| ON rfl rfl h8 <| PT rfl rfl h29 rfl <| PF rfl rfl h8 rfl <| MV rfl rfl <| ?_
                                    refine rw_case (j := 119) rfl (fun h30 => ?_) (fun h30 => ?_)
                                    · refine ON rfl rfl h30 <| FA rfl tyF_impl_Stream_7 rfl <| ON rfl rfl h30 <| LD (i := 0) rfl tyP_bool rfl rfl rfl <| ON rfl rfl h30 <| MV rfl rfl <| OF rfl rfl h9 rfl <| OF rfl rfl h9 rfl <| OF rfl rfl h9 rfl <| OF rfl rfl h9 rfl <| OF rfl rfl h9 rfl <| OU rfl rfl rfl <| OU rfl rfl rfl <| OU rfl rfl rfl <| OU rfl rfl rfl <| OF rfl rfl h9 rfl <| OF rfl rfl h9 rfl <| OU rfl rfl rfl <| OU rfl rfl rfl <| OU rfl rfl rfl <| ?_
                                      refine OF rfl rfl h9 rfl <| ON rfl rfl h30 <| PT rfl rfl h9 rfl <| PT rfl rfl h30 rfl <| AS rfl rfl <| ND <| ret_cv Try.func50 (res1 Try.func50 rfl (rv_tmp rfl)) <| ?_
                                      simp [isStreamS, isStreamW, h1, h2, h3, h4, h5, h6, h7, h8, h9, h10, h11, h12, h13, h14, h23, h28, h29, h30]
                                    · refine OF rfl rfl h30 rfl <| OF rfl rfl h30 rfl <| OF rfl rfl h30 rfl <| OU rfl rfl rfl <| OU rfl rfl rfl <| OU rfl rfl rfl <| OU rfl rfl rfl <| OU rfl rfl rfl <| OU rfl rfl rfl <| OU rfl rfl rfl <| OU rfl rfl rfl <| OU rfl rfl rfl <| OU rfl rfl rfl <| OU rfl rfl rfl <| OU rfl rfl rfl <| OU rfl rfl rfl <| OU rfl rfl rfl <| OU rfl rfl rfl <| OF rfl rfl h30 rfl <| PF rfl rfl h30 rfl <| AS rfl rfl <| ND <| ?_
                                      refine ret_cv Try.func50 (res1 Try.func50 rfl (rv_tmp rfl)) <| ?_
                                      simp [isStreamS, isStreamW, h1, h2, h3, h4, h5, h6, h7, h8, h9, h10, h11, h12, h13, h14, h23, h28, h29, h30]
                                  · refine OF rfl rfl h29 rfl <| OF rfl rfl h29 rfl <| OF rfl rfl h29 rfl <| OF rfl rfl h29 rfl <| ON rfl rfl h8 <| PF rfl rfl h29 rfl <| PF rfl rfl h8 rfl <| MV rfl rfl <| OF rfl rfl rfl rfl <| OF rfl rfl rfl rfl <| OF rfl rfl rfl rfl <| OU rfl rfl rfl <| OU rfl rfl rfl <| OU rfl rfl rfl <| OU rfl rfl rfl <| OU rfl rfl rfl <| OU rfl rfl rfl <| OU rfl rfl rfl <| OU rfl rfl rfl <| OU rfl rfl rfl <| OU rfl rfl rfl <| ?_
                                    refine OU rfl rfl rfl <| OU rfl rfl rfl <| OU rfl rfl rfl <| OU rfl rfl rfl <| OU rfl rfl rfl <| OF rfl rfl rfl rfl <| PF rfl rfl rfl rfl <| AS rfl rfl <| ND <| ret_cv Try.func50 (res1 Try.func50 rfl (rv_tmp rfl)) <| ?_
                                    simp [isStreamS, isStreamW, h1, h2, h3, h4, h5, h6, h7, h8, h9, h10, h11, h12, h13, h14, h23, h28, h29]
                                · refine OF rfl rfl h28 rfl <| OF rfl rfl h28 rfl <| OF rfl rfl h28 rfl <| OF rfl rfl h28 rfl <| OF rfl rfl h28 rfl <| ON rfl rfl h8 <| PF rfl rfl h28 rfl <| ON rfl rfl h8 <| MV rfl rfl <| OF rfl rfl rfl rfl <| OF rfl rfl rfl rfl <| OF rfl rfl rfl rfl <| OF rfl rfl rfl rfl <| ON rfl rfl h8 <| PF rfl rfl rfl rfl <| PF rfl rfl h8 rfl <| MV rfl rfl <| OF rfl rfl rfl rfl <| OF rfl rfl rfl rfl <| OF rfl rfl rfl rfl <| OU rfl rfl rfl <| ?_
                                  refine OU rfl rfl rfl <| OU rfl rfl rfl <| OU rfl rfl rfl <| OU rfl rfl rfl <| OU rfl rfl rfl <| OU rfl rfl rfl <| OU rfl rfl rfl <| OU rfl rfl rfl <| OU rfl rfl rfl <| OU rfl rfl rfl <| OU rfl rfl rfl <| OU rfl rfl rfl <| OU rfl rfl rfl <| OU rfl rfl rfl <| OF rfl rfl rfl rfl <| PF rfl rfl rfl rfl <| AS rfl rfl <| ND <| ret_cv Try.func50 (res1 Try.func50 rfl (rv_tmp rfl)) <| ?_
                                  simp [isStreamS, isStreamW, h1, h2, h3, h4, h5, h6, h7, h8, h9, h10, h11, h12, h13, h14, h23, h28]
                        · refine OF rfl rfl h12 rfl <| OF rfl rfl h12 rfl <| OF rfl rfl h12 rfl <| OF rfl rfl h12 rfl <| ON rfl rfl h11 <| PF rfl rfl h12 rfl <| PF rfl rfl h11 rfl <| MV rfl rfl <| ON rfl rfl rfl <| FA rfl tyF_impl_Stream_9 rfl <| ON rfl rfl rfl <| LD (i := 0) rfl tyP_bool rfl rfl rfl <| ON rfl rfl rfl <| MV rfl rfl <| ?_
                          refine rw_case (j := 82) rfl (fun h31 => ?_) (fun h31 => ?_)
                          · refine ON rfl rfl h31 <| FA rfl tyF_impl_Stream_11 rfl <| ON rfl rfl h31 <| LD (i := 0) rfl tyP_bool rfl rfl rfl <| ON rfl rfl h31 <| NT rfl rfl <| ON rfl rfl rfl <| PT rfl rfl h31 rfl <| PF rfl rfl rfl rfl <| MV rfl rfl <| ?_
                            refine rw_case (j := 88) rfl (fun h32 => ?_) (fun h32 => ?_)
                            · replace h32 := of_not_T h32
                              refine OF rfl rfl (not_F h32) rfl <| OF rfl rfl (not_F h32) rfl <| OF rfl rfl (not_F h32) rfl <| OF rfl rfl (not_F h32) rfl <| OU rfl rfl rfl <| OU rfl rfl rfl <| OU rfl rfl rfl <| OF rfl rfl (not_F h32) rfl <| PT rfl rfl (not_F h32) rfl <| ND <| CT rfl rfl <| SQ <| RG <| AS rfl rfl <| ND <| ret_cv Try.func50 (res1 Try.func50 rfl (rv_tmp rfl)) <| ?_
                              simp [isStreamS, isStreamW, h1, h2, h3, h4, h5, h6, h7, h8, h9, h10, h11, h12, h31, h32]
                            · replace h32 := of_not_F h32
                              refine ON rfl rfl (not_T h32) <| FA rfl tyF_impl_Stream_12 rfl <| ON rfl rfl (not_T h32) <| LD (i := 0) rfl tyP_int rfl rfl rfl <| ON rfl rfl (not_T h32) <| rw_neq rfl rfl rfl <| ON rfl rfl (not_T h32) <| MV rfl rfl <| ?_
                              refine rw_case (j := 92) rfl (fun h33 => ?_) (fun h33 => ?_)
                              · replace h33 := of_not_T h33
                                refine ON rfl rfl (not_F h33) <| FA rfl tyF_impl_Stream_11 rfl <| ON rfl rfl (not_F h33) <| LD (i := 0) rfl tyP_bool rfl rfl rfl <| ON rfl rfl (not_F h33) <| NT rfl rfl <| ON rfl rfl (not_T h32) <| PT rfl rfl (not_F h33) rfl <| PF rfl rfl (not_T h32) rfl <| ND <| CF rfl (not_T h32) <| SK <| SQ <| RG <| FA rfl tyF_impl_Stream_6 rfl <| LD (i := 0) rfl tyP_bool rfl rfl rfl <| MV rfl rfl <| ON rfl rfl h8 <| FA rfl tyF_impl_Stream_1 rfl <| ON rfl rfl h8 <| ?_
                                refine FA rfl tyF_impl_Sender_0 rfl <| ON rfl rfl h8 <| LD (i := 0) rfl tyP_int rfl rfl rfl <| ON rfl rfl h8 <| EQ1 rfl rfl rfl <| ON rfl rfl h8 <| MV rfl rfl <| ?_
                                refine rw_case (j := 105) rfl (fun h34 => ?_) (fun h34 => ?_)
                                · refine ON rfl rfl h34 <| FA rfl tyF_impl_Stream_1 rfl <| ON rfl rfl h34 <| FA rfl tyF_impl_Sender_1 rfl <| ON rfl rfl h34 <| FA rfl tyF_impl_Ring_2 rfl <| ON rfl rfl h34 <| LD (i := 0) rfl tyP_int rfl rfl rfl <| ON rfl rfl h34 <| EQ1 rfl rfl rfl <| ON rfl rfl h8 <| PT rfl rfl h34 rfl <| ON rfl rfl h8 <| MV rfl rfl <| ?_
                                  refine rw_case (j := 112) rfl (fun h35 => ?_) (fun h35 => ?_)
                                  · refine ON rfl rfl h35 <| FA rfl tyF_impl_Stream_1 rfl <| ON rfl rfl h35 <| FA rfl tyF_impl_Sender_5 rfl <| ON rfl rfl h35 <| LD (i := 0) rfl tyP_int rfl rfl rfl <| ON rfl rfl h35 <| EQ1 rfl rfl rfl <| ON rfl rfl h8 <| PT rfl rfl h35 rfl <| PF rfl rfl h8 rfl <| MV rfl rfl <| ?_
                                    refine rw_case (j := 119) rfl (fun h36 => ?_) (fun h36 => ?_)
                                    · refine ON rfl rfl h36 <| FA rfl tyF_impl_Stream_7 rfl <| ON rfl rfl h36 <| LD (i := 0) rfl tyP_bool rfl rfl rfl <| ON rfl rfl h36 <| MV rfl rfl <| OF rfl rfl h9 rfl <| OF rfl rfl h9 rfl <| OF rfl rfl h9 rfl <| OF rfl rfl h9 rfl <| OF rfl rfl h9 rfl <| OU rfl rfl rfl <| OU rfl rfl rfl <| OU rfl rfl rfl <| OU rfl rfl rfl <| OF rfl rfl h9 rfl <| OF rfl rfl h9 rfl <| OU rfl rfl rfl <| OU rfl rfl rfl <| OU rfl rfl rfl <| ?_
                                      refine OF rfl rfl h9 rfl <| ON rfl rfl h36 <| PT rfl rfl h9 rfl <| PT rfl rfl h36 rfl <| AS rfl rfl <| ND <| ret_cv Try.func50 (res1 Try.func50 rfl (rv_tmp rfl)) <| ?_
                                      simp [isStreamS, isStreamW, h1, h2, h3, h4, h5, h6, h7, h8, h9, h10, h11, h12, h31, h32, h33, h34, h35, h36]
                                    · refine OF rfl rfl h36 rfl <| OF rfl rfl h36 rfl <| OF rfl rfl h36 rfl <| OU rfl rfl rfl <| OU rfl rfl rfl <| OU rfl rfl rfl <| OU rfl rfl rfl <| OU rfl rfl rfl <| OU rfl rfl rfl <| OU rfl rfl rfl <| OU rfl rfl rfl <| OU rfl rfl rfl <| OU rfl rfl rfl <| OU rfl rfl rfl <| OU rfl rfl rfl <| OU rfl rfl rfl <| OU rfl rfl rfl <| OU rfl rfl rfl <| OF rfl rfl h36 rfl <| PF rfl rfl h36 rfl <| AS rfl rfl <| ND <| ?_
                                      refine ret_cv Try.func50 (res1 Try.func50 rfl (rv_tmp rfl)) <| ?_
                                      simp [isStreamS, isStreamW, h1, h2, h3, h4, h5, h6, h7, h8, h9, h10, h11, h12, h31, h32, h33, h34, h35, h36]
                                  · refine OF rfl rfl h35 rfl <| OF rfl rfl h35 rfl <| OF rfl rfl h35 rfl <| OF rfl rfl h35 rfl <| ON rfl rfl h8 <| PF rfl rfl h35 rfl <| PF rfl rfl h8 rfl <| MV rfl rfl <| OF rfl rfl rfl rfl <| OF rfl rfl rfl rfl <| OF rfl rfl rfl rfl <| OU rfl rfl rfl <| OU rfl rfl rfl <| OU rfl rfl rfl <| OU rfl rfl rfl <| OU rfl rfl rfl <| OU rfl rfl rfl <| OU rfl rfl rfl <| OU rfl rfl rfl <| OU rfl rfl rfl <| OU rfl rfl rfl <| ?_
                                    refine OU rfl rfl rfl <| OU rfl rfl rfl <| OU rfl rfl rfl <| OU rfl rfl rfl <| OU rfl rfl rfl <| OF rfl rfl rfl rfl <| PF rfl rfl rfl rfl <| AS rfl rfl <| ND <| ret_cv Try.func50 (res1 Try.func50 rfl (rv_tmp rfl)) <| ?_
                                    simp [isStreamS, isStreamW, h1, h2, h3, h4, h5, h6, h7, h8, h9, h10, h11, h12, h31, h32, h33, h34, h35]
                                · refine OF rfl rfl h34 rfl <| OF rfl rfl h34 rfl <| OF rfl rfl h34 rfl <| OF rfl rfl h34 rfl <| OF rfl rfl h34 rfl <| ON rfl rfl h8 <| PF rfl rfl h34 rfl <| ON rfl rfl h8 <| MV rfl rfl <| OF rfl rfl rfl rfl <| OF rfl rfl rfl rfl <| OF rfl rfl rfl rfl <| OF rfl rfl rfl rfl <| ON rfl rfl h8 <| PF rfl rfl rfl rfl <| PF rfl rfl h8 rfl <| MV rfl rfl <| OF rfl rfl rfl rfl <| OF rfl rfl rfl rfl <| OF rfl rfl rfl rfl <| OU rfl rfl rfl <| ?_
                                  refine OU rfl rfl rfl <| OU rfl rfl rfl <| OU rfl rfl rfl <| OU rfl rfl rfl <| OU rfl rfl rfl <| OU rfl rfl rfl <| OU rfl rfl rfl <| OU rfl rfl rfl <| OU rfl rfl rfl <| OU rfl rfl rfl <| OU rfl rfl rfl <| OU rfl rfl rfl <| OU rfl rfl rfl <| OU rfl rfl rfl <| OF rfl rfl rfl rfl <| PF rfl rfl rfl rfl <| AS rfl rfl <| ND <| ret_cv Try.func50 (res1 Try.func50 rfl (rv_tmp rfl)) <| ?_
                                  simp [isStreamS, isStreamW, h1, h2, h3, h4, h5, h6, h7, h8, h9, h10, h11, h12, h31, h32, h33, h34]
                              · replace h33 := of_not_F h33
                                refine OF rfl rfl (not_T h33) rfl <| OF rfl rfl (not_T h33) rfl <| OF rfl rfl (not_T h33) rfl <| ON rfl rfl (not_T h32) <| PF rfl rfl (not_T h33) rfl <| PF rfl rfl (not_T h32) rfl <| ND <| CF rfl rfl <| SK <| SQ <| RG <| FA rfl tyF_impl_Stream_6 rfl <| LD (i := 0) rfl tyP_bool rfl rfl rfl <| MV rfl rfl <| ON rfl rfl h8 <| FA rfl tyF_impl_Stream_1 rfl <| ON rfl rfl h8 <| FA rfl tyF_impl_Sender_0 rfl <| ON rfl rfl h8 <| LD (i := 0) rfl tyP_int rfl rfl rfl <| ?_
                                refine ON rfl rfl h8 <| EQ1 rfl rfl rfl <| ON rfl rfl h8 <| MV rfl rfl <| ?_
                                refine rw_case (j := 105) rfl (fun h37 => ?_) (fun h37 => ?_)
                                · refine ON rfl rfl h37 <| FA rfl tyF_impl_Stream_1 rfl <| ON rfl rfl h37 <| FA rfl tyF_impl_Sender_1 rfl <| ON rfl rfl h37 <| FA rfl tyF_impl_Ring_2 rfl <| ON rfl rfl h37 <| LD (i := 0) rfl tyP_int rfl rfl rfl <| ON rfl rfl h37 <| EQ1 rfl rfl rfl <| ON rfl rfl h8 <| PT rfl rfl h37 rfl <| ON rfl rfl h8 <| MV rfl rfl <| ?_
                                  refine rw_case (j := 112) rfl (fun h38 => ?_) (fun h38 => ?_)
                                  · refine ON rfl rfl h38 <| FA rfl tyF_impl_Stream_1 rfl <| ON rfl rfl h38 <| FA rfl tyF_impl_Sender_5 rfl <| ON rfl rfl h38 <| LD (i := 0) rfl tyP_int rfl rfl rfl <| ON rfl rfl h38 <| EQ1 rfl rfl rfl <| ON rfl rfl h8 <| PT rfl rfl h38 rfl <| PF rfl rfl h8 rfl <| MV rfl rfl <| ?_
                                    refine rw_case (j := 119) rfl (fun h39 => ?_) (fun h39 => ?_)
                                    · refine ON rfl rfl h39 <| FA rfl tyF_impl_Stream_7 rfl <| ON rfl rfl h39 <| LD (i := 0) rfl tyP_bool rfl rfl rfl <| ON rfl rfl h39 <| MV rfl rfl <| OF rfl rfl h9 rfl <| OF rfl rfl h9 rfl <| OF rfl rfl h9 rfl <| OF rfl rfl h9 rfl <| OF rfl rfl h9 rfl <| OU rfl rfl rfl <| OU rfl rfl rfl <| OU rfl rfl rfl <| OU rfl rfl rfl <| OF rfl rfl h9 rfl <| OF rfl rfl h9 rfl <| OU rfl rfl rfl <| OU rfl rfl rfl <| OU rfl rfl rfl <| ?_
                                      refine OF rfl rfl h9 rfl <| ON rfl rfl h39 <| PT rfl rfl h9 rfl <| PT rfl rfl h39 rfl <| AS rfl rfl <| ND <| ret_cv Try.func50 (res1 Try.func50 rfl (rv_tmp rfl)) <| ?_
                                      simp [isStreamS, isStreamW, h1, h2, h3, h4, h5, h6, h7, h8, h9, h10, h11, h12, h31, h32, h33, h37, h38, h39]
                                    · refine OF rfl rfl h39 rfl <| OF rfl rfl h39 rfl <| OF rfl rfl h39 rfl <| OU rfl rfl rfl <| OU rfl rfl rfl <| OU rfl rfl rfl <| OU rfl rfl rfl <| OU rfl rfl rfl <| OU rfl rfl rfl <| OU rfl rfl rfl <| OU rfl rfl rfl <| OU rfl rfl rfl <| OU rfl rfl rfl <| OU rfl rfl rfl <| OU rfl rfl rfl <| OU rfl rfl rfl <| OU rfl rfl rfl <| OU rfl rfl rfl <| OF rfl rfl h39 rfl <| PF rfl rfl h39 rfl <| AS rfl rfl <| ND <| ?_
                                      refine ret_cv Try.func50 (res1 Try.func50 rfl (rv_tmp rfl)) <| ?_
                                      simp [isStreamS, isStreamW, h1, h2, h3, h4, h5, h6, h7, h8, h9, h10, h11, h12, h31, h32, h33, h37, h38, h39]
                                  · refine OF rfl rfl h38 rfl <| OF rfl rfl h38 rfl <| OF rfl rfl h38 rfl <| OF rfl rfl h38 rfl <| ON rfl rfl h8 <| PF rfl rfl h38 rfl <| PF rfl rfl h8 rfl <| MV rfl rfl <| OF rfl rfl rfl rfl <| OF rfl rfl rfl rfl <| OF rfl rfl rfl rfl <| OU rfl rfl rfl <| OU rfl rfl rfl <| OU rfl rfl rfl <| OU rfl rfl rfl <| OU rfl rfl rfl <| OU rfl rfl rfl <| OU rfl rfl rfl <| OU rfl rfl rfl <| OU rfl rfl rfl <| OU rfl rfl rfl <| ?_
                                    refine OU rfl rfl rfl <| OU rfl rfl rfl <| OU rfl rfl rfl <| OU rfl rfl rfl <| OU rfl rfl rfl <| OF rfl rfl rfl rfl <| PF rfl rfl rfl rfl <| AS rfl rfl <| ND <| ret_cv Try.func50 (res1 Try.func50 rfl (rv_tmp rfl)) <| ?_
                                    simp [isStreamS, isStreamW, h1, h2, h3, h4, h5, h6, h7, h8, h9, h10, h11, h12, h31, h32, h33, h37, h38]
                                · refine OF rfl rfl h37 rfl <| OF rfl rfl h37 rfl <| OF rfl rfl h37 rfl <| OF rfl rfl h37 rfl <| OF rfl rfl h37 rfl <| ON rfl rfl h8 <| PF rfl rfl h37 rfl <| ON rfl rfl h8 <| MV rfl rfl <| OF rfl rfl rfl rfl <| OF rfl rfl rfl rfl <| OF rfl rfl rfl rfl <| OF rfl rfl rfl rfl <| ON rfl rfl h8 <| PF rfl rfl rfl rfl <| PF rfl rfl h8 rfl <| MV rfl rfl <| OF rfl rfl rfl rfl <| OF rfl rfl rfl rfl <| OF rfl rfl rfl rfl <| OU rfl rfl rfl <| ?_
                                  refine OU rfl rfl rfl <| OU rfl rfl rfl <| OU rfl rfl rfl <| OU rfl rfl rfl <| OU rfl rfl rfl <| OU rfl rfl rfl <| OU rfl rfl rfl <| OU rfl rfl rfl <| OU rfl rfl rfl <| OU rfl rfl rfl <| OU rfl rfl rfl <| OU rfl rfl rfl <| OU rfl rfl rfl <| OU rfl rfl rfl <| OF rfl rfl rfl rfl <| PF rfl rfl rfl rfl <| AS rfl rfl <| ND <| ret_cv Try.func50 (res1 Try.func50 rfl (rv_tmp rfl)) <| ?_
                                  simp [isStreamS, isStreamW, h1, h2, h3, h4, h5, h6, h7, h8, h9, h10, h11, h12, h31, h32, h33, h37]
                          · refine OF rfl rfl h31 rfl <| OF rfl rfl h31 rfl <| OF rfl rfl h31 rfl <| ON rfl rfl rfl <| PF rfl rfl h31 rfl <| PF rfl rfl rfl rfl <| MV rfl rfl <| ON rfl rfl rfl <| FA rfl tyF_impl_Stream_12 rfl <| ON rfl rfl rfl <| LD (i := 0) rfl tyP_int rfl rfl rfl <| ON rfl rfl rfl <| rw_neq rfl rfl rfl <| ON rfl rfl rfl <| MV rfl rfl <| ?_
                            refine rw_case (j := 92) rfl (fun h40 => ?_) (fun h40 => ?_)
                            · replace h40 := of_not_T h40
                              refine ON rfl rfl (not_F h40) <| FA rfl tyF_impl_Stream_11 rfl <| ON rfl rfl (not_F h40) <| LD (i := 0) rfl tyP_bool rfl rfl rfl <| ON rfl rfl (not_F h40) <| NT rfl rfl <| ON rfl rfl rfl <| PT rfl rfl (not_F h40) rfl <| PF rfl rfl rfl rfl <| ND <| ?_
                              refine gw_cond rfl (fun h41 => ?_) (fun h41 => ?_)
                              · replace h41 := of_not_T h41
                                refine SQ <| RG <| AS rfl rfl <| ND <| ret_cv Try.func50 (res1 Try.func50 rfl (rv_tmp rfl)) <| ?_
                                simp [isStreamS, isStreamW, h1, h2, h3, h4, h5, h6, h7, h8, h9, h10, h11, h12, h31, h40, h41]
                              · replace h41 := of_not_F h41
                                refine SK <| SQ <| RG <| FA rfl tyF_impl_Stream_6 rfl <| LD (i := 0) rfl tyP_bool rfl rfl rfl <| MV rfl rfl <| ON rfl rfl h8 <| FA rfl tyF_impl_Stream_1 rfl <| ON rfl rfl h8 <| FA rfl tyF_impl_Sender_0 rfl <| ON rfl rfl h8 <| LD (i := 0) rfl tyP_int rfl rfl rfl <| ON rfl rfl h8 <| EQ1 rfl rfl rfl <| ON rfl rfl h8 <| MV rfl rfl <| ?_
                                refine rw_case (j := 105) rfl (fun h42 => ?_) (fun h42 => ?_)
                                · refine ON rfl rfl h42 <| FA rfl tyF_impl_Stream_1 rfl <| ON rfl rfl h42 <| FA rfl tyF_impl_Sender_1 rfl <| ON rfl rfl h42 <| FA rfl tyF_impl_Ring_2 rfl <| ON rfl rfl h42 <| LD (i := 0) rfl tyP_int rfl rfl rfl <| ON rfl rfl h42 <| EQ1 rfl rfl rfl <| ON rfl rfl h8 <| PT rfl rfl h42 rfl <| ON rfl rfl h8 <| MV rfl rfl <| ?_
                                  refine rw_case (j := 112) rfl (fun h43 => ?_) (fun h43 => ?_)
                                  · refine ON rfl rfl h43 <| FA rfl tyF_impl_Stream_1 rfl <| ON rfl rfl h43 <| FA rfl tyF_impl_Sender_5 rfl <| ON rfl rfl h43 <| LD (i := 0) rfl tyP_int rfl rfl rfl <| ON rfl rfl h43 <| EQ1 rfl rfl rfl <| ON rfl rfl h8 <| PT rfl rfl h43 rfl <| PF rfl rfl h8 rfl <| MV rfl rfl <| ?_
                                    refine rw_case (j := 119) rfl (fun h44 => ?_) (fun h44 => ?_)
                                    · refine ON rfl rfl h44 <| FA rfl tyF_impl_Stream_7 rfl <| ON rfl rfl h44 <| LD (i := 0) rfl tyP_bool rfl rfl rfl <| ON rfl rfl h44 <| MV rfl rfl <| OF rfl rfl h9 rfl <| OF rfl rfl h9 rfl <| OF rfl rfl h9 rfl <| OF rfl rfl h9 rfl <| OF rfl rfl h9 rfl <| OU rfl rfl rfl <| OU rfl rfl rfl <| OU rfl rfl rfl <| OU rfl rfl rfl <| OF rfl rfl h9 rfl <| OF rfl rfl h9 rfl <| OU rfl rfl rfl <| OU rfl rfl rfl <| OU rfl rfl rfl <| ?_
                                      refine OF rfl rfl h9 rfl <| ON rfl rfl h44 <| PT rfl rfl h9 rfl <| PT rfl rfl h44 rfl <| AS rfl rfl <| ND <| ret_cv Try.func50 (res1 Try.func50 rfl (rv_tmp rfl)) <| ?_
                                      simp [isStreamS, isStreamW, h1, h2, h3, h4, h5, h6, h7, h8, h9, h10, h11, h12, h31, h40, h41, h42, h43, h44]
                                    · refine OF rfl rfl h44 rfl <| OF rfl rfl h44 rfl <| OF rfl rfl h44 rfl <| OU rfl rfl rfl <| OU rfl rfl rfl <| OU rfl rfl rfl <| OU rfl rfl rfl <| OU rfl rfl rfl <| OU rfl rfl rfl <| OU rfl rfl rfl <| OU rfl rfl rfl <| OU rfl rfl rfl <| OU rfl rfl rfl <| OU rfl rfl rfl <| OU rfl rfl rfl <| OU rfl rfl rfl <| OU rfl rfl rfl <| OU rfl rfl rfl <| OF rfl rfl h44 rfl <| PF rfl rfl h44 rfl <| AS rfl rfl <| ND <| ?_
                                      refine ret_cv Try.func50 (res1 Try.func50 rfl (rv_tmp rfl)) <| ?_
                                      simp [isStreamS, isStreamW, h1, h2, h3, h4, h5, h6, h7, h8, h9, h10, h11, h12, h31, h40, h41, h42, h43, h44]
                                  · refine OF rfl rfl h43 rfl <| OF rfl rfl h43 rfl <| OF rfl rfl h43 rfl <| OF rfl rfl h43 rfl <| ON rfl rfl h8 <| PF rfl rfl h43 rfl <| PF rfl rfl h8 rfl <| MV rfl rfl <| OF rfl rfl rfl rfl <| OF rfl rfl rfl rfl <| OF rfl rfl rfl rfl <| OU rfl rfl rfl <| OU rfl rfl rfl <| OU rfl rfl rfl <| OU rfl rfl rfl <| OU rfl rfl rfl <| OU rfl rfl rfl <| OU rfl rfl rfl <| OU rfl rfl rfl <| OU rfl rfl rfl <| OU rfl rfl rfl <| ?_
                                    refine OU rfl rfl rfl <| OU rfl rfl rfl <| OU rfl rfl rfl <| OU rfl rfl rfl <| OU rfl rfl rfl <| OF rfl rfl rfl rfl <| PF rfl rfl rfl rfl <| AS rfl rfl <| ND <| ret_cv Try.func50 (res1 Try.func50 rfl (rv_tmp rfl)) <| ?_
                                    simp [isStreamS, isStreamW, h1, h2, h3, h4, h5, h6, h7, h8, h9, h10, h11, h12, h31, h40, h41, h42, h43]
                                · refine OF rfl rfl h42 rfl <| OF rfl rfl h42 rfl <| OF rfl rfl h42 rfl <| OF rfl rfl h42 rfl <| OF rfl rfl h42 rfl <| ON rfl rfl h8 <| PF rfl rfl h42 rfl <| ON rfl rfl h8 <| MV rfl rfl <| OF rfl rfl rfl rfl <| OF rfl rfl rfl rfl <| OF rfl rfl rfl rfl <| OF rfl rfl rfl rfl <| ON rfl rfl h8 <| PF rfl rfl rfl rfl <| PF rfl rfl h8 rfl <| MV rfl rfl <| OF rfl rfl rfl rfl <| OF rfl rfl rfl rfl <| OF rfl rfl rfl rfl <| OU rfl rfl rfl <| ?_
                                  refine OU rfl rfl rfl <| OU rfl rfl rfl <| OU rfl rfl rfl <| OU rfl rfl rfl <| OU rfl rfl rfl <| OU rfl rfl rfl <| OU rfl rfl rfl <| OU rfl rfl rfl <| OU rfl rfl rfl <| OU rfl rfl rfl <| OU rfl rfl rfl <| OU rfl rfl rfl <| OU rfl rfl rfl <| OU rfl rfl rfl <| OF rfl rfl rfl rfl <| PF rfl rfl rfl rfl <| AS rfl rfl <| ND <| ret_cv Try.func50 (res1 Try.func50 rfl (rv_tmp rfl)) <| ?_
                                  simp [isStreamS, isStreamW, h1, h2, h3, h4, h5, h6, h7, h8, h9, h10, h11, h12, h31, h40, h41, h42]
                            · replace h40 := of_not_F h40
                              refine OF rfl rfl (not_T h40) rfl <| OF rfl rfl (not_T h40) rfl <| OF rfl rfl (not_T h40) rfl <| ON rfl rfl rfl <| PF rfl rfl (not_T h40) rfl <| PF rfl rfl rfl rfl <| ND <| CF rfl rfl <| SK <| SQ <| RG <| FA rfl tyF_impl_Stream_6 rfl <| LD (i := 0) rfl tyP_bool rfl rfl rfl <| MV rfl rfl <| ON rfl rfl h8 <| FA rfl tyF_impl_Stream_1 rfl <| ON rfl rfl h8 <| FA rfl tyF_impl_Sender_0 rfl <| ON rfl rfl h8 <| LD (i := 0) rfl tyP_int rfl rfl rfl <| ON rfl rfl h8 <| ?_
                              refine EQ1 rfl rfl rfl <| ON rfl rfl h8 <| MV rfl rfl <| ?_
                              refine rw_case (j := 105) rfl (fun h45 => ?_) (fun h45 => ?_)
                              · refine ON rfl rfl h45 <| FA rfl tyF_impl_Stream_1 rfl <| ON rfl rfl h45 <| FA rfl tyF_impl_Sender_1 rfl <| ON rfl rfl h45 <| FA rfl tyF_impl_Ring_2 rfl <| ON rfl rfl h45 <| LD (i := 0) rfl tyP_int rfl rfl rfl <| ON rfl rfl h45 <| EQ1 rfl rfl rfl <| ON rfl rfl h8 <| PT rfl rfl h45 rfl <| ON rfl rfl h8 <| MV rfl rfl <| ?_
                                refine rw_case (j := 112) rfl (fun h46 => ?_) (fun h46 => ?_)
                                · refine ON rfl rfl h46 <| FA rfl tyF_impl_Stream_1 rfl <| ON rfl rfl h46 <| FA rfl tyF_impl_Sender_5 rfl <| ON rfl rfl h46 <| LD (i := 0) rfl tyP_int rfl rfl rfl <| ON rfl rfl h46 <| EQ1 rfl rfl rfl <| ON rfl rfl h8 <| PT rfl rfl h46 rfl <| PF rfl rfl h8 rfl <| MV rfl rfl <| ?_
                                  refine rw_case (j := 119) rfl (fun h47 => ?_) (fun h47 => ?_)
                                  · refine ON rfl rfl h47 <| FA rfl tyF_impl_Stream_7 rfl <| ON rfl rfl h47 <| LD (i := 0) rfl tyP_bool rfl rfl rfl <| ON rfl rfl h47 <| MV rfl rfl <| OF rfl rfl h9 rfl <| OF rfl rfl h9 rfl <| OF rfl rfl h9 rfl <| OF rfl rfl h9 rfl <| OF rfl rfl h9 rfl <| OU rfl rfl rfl <| OU rfl rfl rfl <| OU rfl rfl rfl <| OU rfl rfl rfl <| OF rfl rfl h9 rfl <| OF rfl rfl h9 rfl <| OU rfl rfl rfl <| OU rfl rfl rfl <| OU rfl rfl rfl <| ?_
                                    refine OF rfl rfl h9 rfl <| ON rfl rfl h47 <| PT rfl rfl h9 rfl <| PT rfl rfl h47 rfl <| AS rfl rfl <| ND <| ret_cv Try.func50 (res1 Try.func50 rfl (rv_tmp rfl)) <| ?_
                                    simp [isStreamS, isStreamW, h1, h2, h3, h4, h5, h6, h7, h8, h9, h10, h11, h12, h31, h40, h45, h46, h47]
                                  · refine OF rfl rfl h47 rfl <| OF rfl rfl h47 rfl <| OF rfl rfl h47 rfl <| OU rfl rfl rfl <| OU rfl rfl rfl <| OU rfl rfl rfl <| OU rfl rfl rfl <| OU rfl rfl rfl <| OU rfl rfl rfl <| OU rfl rfl rfl <| OU rfl rfl rfl <| OU rfl rfl rfl <| OU rfl rfl rfl <| OU rfl rfl rfl <| OU rfl rfl rfl <| OU rfl rfl rfl <| OU rfl rfl rfl <| OU rfl rfl rfl <| OF rfl rfl h47 rfl <| PF rfl rfl h47 rfl <| AS rfl rfl <| ND <| ?_
                                    refine ret_cv Try.func50 (res1 Try.func50 rfl (rv_tmp rfl)) <| ?_
                                    simp [isStreamS, isStreamW, h1, h2, h3, h4, h5, h6, h7, h8, h9, h10, h11, h12, h31, h40, h45, h46, h47]
                                · refine OF rfl rfl h46 rfl <| OF rfl rfl h46 rfl <| OF rfl rfl h46 rfl <| OF rfl rfl h46 rfl <| ON rfl rfl h8 <| PF rfl rfl h46 rfl <| PF rfl rfl h8 rfl <| MV rfl rfl <| OF rfl rfl rfl rfl <| OF rfl rfl rfl rfl <| OF rfl rfl rfl rfl <| OU rfl rfl rfl <| OU rfl rfl rfl <| OU rfl rfl rfl <| OU rfl rfl rfl <| OU rfl rfl rfl <| OU rfl rfl rfl <| OU rfl rfl rfl <| OU rfl rfl rfl <| OU rfl rfl rfl <| OU rfl rfl rfl <| ?_
                                  refine OU rfl rfl rfl <| OU rfl rfl rfl <| OU rfl rfl rfl <| OU rfl rfl rfl <| OU rfl rfl rfl <| OF rfl rfl rfl rfl <| PF rfl rfl rfl rfl <| AS rfl rfl <| ND <| ret_cv Try.func50 (res1 Try.func50 rfl (rv_tmp rfl)) <| ?_
                                  simp [isStreamS, isStreamW, h1, h2, h3, h4, h5, h6, h7, h8, h9, h10, h11, h12, h31, h40, h45, h46]
                              · refine OF rfl rfl h45 rfl <| OF rfl rfl h45 rfl <| OF rfl rfl h45 rfl <| OF rfl rfl h45 rfl <| OF rfl rfl h45 rfl <| ON rfl rfl h8 <| PF rfl rfl h45 rfl <| ON rfl rfl h8 <| MV rfl rfl <| OF rfl rfl rfl rfl <| OF rfl rfl rfl rfl <| OF rfl rfl rfl rfl <| OF rfl rfl rfl rfl <| ON rfl rfl h8 <| PF rfl rfl rfl rfl <| PF rfl rfl h8 rfl <| MV rfl rfl <| OF rfl rfl rfl rfl <| OF rfl rfl rfl rfl <| OF rfl rfl rfl rfl <| OU rfl rfl rfl <| ?_
                                refine OU rfl rfl rfl <| OU rfl rfl rfl <| OU rfl rfl rfl <| OU rfl rfl rfl <| OU rfl rfl rfl <| OU rfl rfl rfl <| OU rfl rfl rfl <| OU rfl rfl rfl <| OU rfl rfl rfl <| OU rfl rfl rfl <| OU rfl rfl rfl <| OU rfl rfl rfl <| OU rfl rfl rfl <| OU rfl rfl rfl <| OF rfl rfl rfl rfl <| PF rfl rfl rfl rfl <| AS rfl rfl <| ND <| ret_cv Try.func50 (res1 Try.func50 rfl (rv_tmp rfl)) <| ?_
                                simp [isStreamS, isStreamW, h1, h2, h3, h4, h5, h6, h7, h8, h9, h10, h11, h12, h31, h40, h45]
                · replace h8 := of_not_F h8
                  refine OF rfl rfl (not_T h8) rfl <| OF rfl rfl (not_T h8) rfl <| OF rfl rfl (not_T h8) rfl <| ON rfl rfl (not_T h7) <| PF rfl rfl (not_T h8) rfl <| PF rfl rfl (not_T h7) rfl <| ND <| CF rfl rfl <| SK <| SQ <| SQ <| RG <| FA rfl tyF_impl_Stream_1 rfl <| FA rfl tyF_impl_Sender_7 rfl <| LD (i := 0) rfl tyP_int rfl rfl rfl <| FA rfl tyF_impl_Stream_2 rfl <| FA rfl tyF_impl_Credit_1 rfl <| LD (i := 0) rfl tyP_int rfl rfl rfl <| rw_gtr rfl rfl rfl <| MV rfl rfl <| ?_
                  refine rw_case (j := 60) rfl (fun h48 => ?_) (fun h48 => ?_)
                  · refine OF rfl rfl h48 rfl <| OF rfl rfl h48 rfl <| OF rfl rfl h48 rfl <| OF rfl rfl h48 rfl <| OF rfl rfl h48 rfl <| OF rfl rfl h48 rfl <| OF rfl rfl h48 rfl <| PT rfl rfl h48 rfl <| MV rfl rfl <| OF rfl rfl rfl rfl <| OF rfl rfl rfl rfl <| OF rfl rfl rfl rfl <| OU rfl rfl rfl <| OU rfl rfl rfl <| OU rfl rfl rfl <| OU rfl rfl rfl <| OF rfl rfl rfl rfl <| PT rfl rfl rfl rfl <| MV rfl rfl <| OF rfl rfl rfl rfl <| OF rfl rfl rfl rfl <| ?_
                    refine OF rfl rfl rfl rfl <| OU rfl rfl rfl <| OU rfl rfl rfl <| OU rfl rfl rfl <| OF rfl rfl rfl rfl <| PT rfl rfl rfl rfl <| MV rfl rfl <| OF rfl rfl rfl rfl <| OF rfl rfl rfl rfl <| OF rfl rfl rfl rfl <| OF rfl rfl rfl rfl <| OU rfl rfl rfl <| OU rfl rfl rfl <| OU rfl rfl rfl <| OF rfl rfl rfl rfl <| PT rfl rfl rfl rfl <| ND <| CT rfl rfl <| SQ <| RG <| AS rfl rfl <| ND <| ret_cv Try.func50 (res1 Try.func50 rfl (rv_tmp rfl)) <| ?_
                    simp [isStreamS, isStreamW, h1, h2, h3, h4, h5, h6, h7, h8, h48]
                  · refine ON rfl rfl h48 <| FA rfl tyF_impl_Stream_3 rfl <| ON rfl rfl h48 <| FA rfl tyF_impl_Receiver_3 rfl <| ON rfl rfl h48 <| LD (i := 0) rfl tyP_int rfl rfl rfl <| ON rfl rfl h48 <| FA rfl tyF_impl_Stream_4 rfl <| ON rfl rfl h48 <| FA rfl tyF_impl_Window_3 rfl <| ON rfl rfl h48 <| LD (i := 0) rfl tyP_int rfl rfl rfl <| ON rfl rfl h48 <| rw_gtr rfl rfl rfl <| PF rfl rfl h48 rfl <| MV rfl rfl <| ?_
                    refine rw_case (j := 69) rfl (fun h49 => ?_) (fun h49 => ?_)
                    · refine OF rfl rfl h49 rfl <| OF rfl rfl h49 rfl <| OF rfl rfl h49 rfl <| OU rfl rfl rfl <| OU rfl rfl rfl <| OU rfl rfl rfl <| OU rfl rfl rfl <| OF rfl rfl h49 rfl <| PT rfl rfl h49 rfl <| MV rfl rfl <| OF rfl rfl rfl rfl <| OF rfl rfl rfl rfl <| OF rfl rfl rfl rfl <| OU rfl rfl rfl <| OU rfl rfl rfl <| OU rfl rfl rfl <| OF rfl rfl rfl rfl <| PT rfl rfl rfl rfl <| MV rfl rfl <| OF rfl rfl rfl rfl <| OF rfl rfl rfl rfl <| ?_
                      refine OF rfl rfl rfl rfl <| OF rfl rfl rfl rfl <| OU rfl rfl rfl <| OU rfl rfl rfl <| OU rfl rfl rfl <| OF rfl rfl rfl rfl <| PT rfl rfl rfl rfl <| ND <| CT rfl rfl <| SQ <| RG <| AS rfl rfl <| ND <| ret_cv Try.func50 (res1 Try.func50 rfl (rv_tmp rfl)) <| ?_
                      simp [isStreamS, isStreamW, h1, h2, h3, h4, h5, h6, h7, h8, h48, h49]
                    · refine ON rfl rfl h49 <| FA rfl tyF_impl_Stream_8 rfl <| ON rfl rfl h49 <| LD (i := 0) rfl tyP_bool rfl rfl rfl <| ON rfl rfl h49 <| MV rfl rfl <| ?_
                      refine rw_case (j := 72) rfl (fun h50 => ?_) (fun h50 => ?_)
                      · refine ON rfl rfl h50 <| FA rfl tyF_impl_Stream_1 rfl <| ON rfl rfl h50 <| FA rfl tyF_impl_Sender_0 rfl <| ON rfl rfl h50 <| LD (i := 0) rfl tyP_int rfl rfl rfl <| ON rfl rfl h50 <| rw_neq rfl rfl rfl <| ON rfl rfl h49 <| PT rfl rfl h50 rfl <| PF rfl rfl h49 rfl <| MV rfl rfl <| ?_
                        refine rw_case (j := 79) rfl (fun h51 => ?_) (fun h51 => ?_)
                        · replace h51 := of_not_T h51
                          refine OF rfl rfl (not_F h51) rfl <| OF rfl rfl (not_F h51) rfl <| OF rfl rfl (not_F h51) rfl <| OU rfl rfl rfl <| OU rfl rfl rfl <| OU rfl rfl rfl <| OF rfl rfl (not_F h51) rfl <| PT rfl rfl (not_F h51) rfl <| MV rfl rfl <| OF rfl rfl rfl rfl <| OF rfl rfl rfl rfl <| OF rfl rfl rfl rfl <| OF rfl rfl rfl rfl <| OU rfl rfl rfl <| OU rfl rfl rfl <| OU rfl rfl rfl <| OF rfl rfl rfl rfl <| PT rfl rfl rfl rfl <| ND <| CT rfl rfl <| SQ <| RG <| ?_
                          refine AS rfl rfl <| ND <| ret_cv Try.func50 (res1 Try.func50 rfl (rv_tmp rfl)) <| ?_
                          simp [isStreamS, isStreamW, h1, h2, h3, h4, h5, h6, h7, h8, h48, h49, h50, h51]
                        · replace h51 := of_not_F h51
                          refine ON rfl rfl (not_T h51) <| FA rfl tyF_impl_Stream_9 rfl <| ON rfl rfl (not_T h51) <| LD (i := 0) rfl tyP_bool rfl rfl rfl <| ON rfl rfl (not_T h51) <| MV rfl rfl <| ?_
                          refine rw_case (j := 82) rfl (fun h52 => ?_) (fun h52 => ?_)
                          · refine ON rfl rfl h52 <| FA rfl tyF_impl_Stream_11 rfl <| ON rfl rfl h52 <| LD (i := 0) rfl tyP_bool rfl rfl rfl <| ON rfl rfl h52 <| NT rfl rfl <| ON rfl rfl (not_T h51) <| PT rfl rfl h52 rfl <| PF rfl rfl (not_T h51) rfl <| MV rfl rfl <| ?_
                            refine rw_case (j := 88) rfl (fun h53 => ?_) (fun h53 => ?_)
                            · replace h53 := of_not_T h53
                              refine OF rfl rfl (not_F h53) rfl <| OF rfl rfl (not_F h53) rfl <| OF rfl rfl (not_F h53) rfl <| OF rfl rfl (not_F h53) rfl <| OU rfl rfl rfl <| OU rfl rfl rfl <| OU rfl rfl rfl <| OF rfl rfl (not_F h53) rfl <| PT rfl rfl (not_F h53) rfl <| ND <| CT rfl rfl <| SQ <| RG <| AS rfl rfl <| ND <| ret_cv Try.func50 (res1 Try.func50 rfl (rv_tmp rfl)) <| ?_
                              simp [isStreamS, isStreamW, h1, h2, h3, h4, h5, h6, h7, h8, h48, h49, h50, h51, h52, h53]
                            · replace h53 := of_not_F h53
                              refine ON rfl rfl (not_T h53) <| FA rfl tyF_impl_Stream_12 rfl <| ON rfl rfl (not_T h53) <| LD (i := 0) rfl tyP_int rfl rfl rfl <| ON rfl rfl (not_T h53) <| rw_neq rfl rfl rfl <| ON rfl rfl (not_T h53) <| MV rfl rfl <| ?_
                              refine rw_case (j := 92) rfl (fun h54 => ?_) (fun h54 => ?_)
                              · replace h54 := of_not_T h54
                                refine ON rfl rfl (not_F h54) <| FA rfl tyF_impl_Stream_11 rfl <| ON rfl rfl (not_F h54) <| LD (i := 0) rfl tyP_bool rfl rfl rfl <| ON rfl rfl (not_F h54) <| NT rfl rfl <| ON rfl rfl (not_T h53) <| PT rfl rfl (not_F h54) rfl <| PF rfl rfl (not_T h53) rfl <| ND <| CF rfl (not_T h53) <| SK <| SQ <| RG <| FA rfl tyF_impl_Stream_6 rfl <| LD (i := 0) rfl tyP_bool rfl rfl rfl <| MV rfl rfl <| OF rfl rfl h8 rfl <| OF rfl rfl h8 rfl <| OF rfl rfl h8 rfl <| OF rfl rfl h8 rfl <| ?_
                                refine OF rfl rfl h8 rfl <| OU rfl rfl rfl <| OU rfl rfl rfl <| OU rfl rfl rfl <| OU rfl rfl rfl <| OU rfl rfl rfl <| OF rfl rfl h8 rfl <| OF rfl rfl h8 rfl <| OU rfl rfl rfl <| OU rfl rfl rfl <| OU rfl rfl rfl <| OU rfl rfl rfl <| OF rfl rfl h8 rfl <| PT rfl rfl h8 rfl <| MV rfl rfl <| ON rfl rfl rfl <| FA rfl tyF_impl_Stream_7 rfl <| ON rfl rfl rfl <| LD (i := 0) rfl tyP_bool rfl rfl rfl <| ON rfl rfl rfl <| MV rfl rfl <| ?_
                                refine rw_case (j := 122) rfl (fun h55 => ?_) (fun h55 => ?_)
                                · refine OF rfl rfl h55 rfl <| OF rfl rfl h55 rfl <| OF rfl rfl h55 rfl <| OF rfl rfl h55 rfl <| OF rfl rfl h55 rfl <| OU rfl rfl rfl <| OU rfl rfl rfl <| OU rfl rfl rfl <| OU rfl rfl rfl <| OF rfl rfl h55 rfl <| OF rfl rfl h55 rfl <| OU rfl rfl rfl <| OU rfl rfl rfl <| OU rfl rfl rfl <| OF rfl rfl h55 rfl <| ON rfl rfl rfl <| PT rfl rfl h55 rfl <| PT rfl rfl rfl rfl <| AS rfl rfl <| ND <| ret_cv Try.func50 (res1 Try.func50 rfl (rv_tmp rfl)) <| ?_
                                  simp [isStreamS, isStreamW, h1, h2, h3, h4, h5, h6, h7, h8, h48, h49, h50, h51, h52, h53, h54, h55]
                                · refine ON rfl rfl h55 <| FA rfl tyF_impl_Stream_3 rfl <| ON rfl rfl h55 <| FA rfl tyF_impl_Receiver_0 rfl <| ON rfl rfl h55 <| LD (i := 0) rfl tyP_int rfl rfl rfl <| ON rfl rfl h55 <| EQ1 rfl rfl rfl <| ON rfl rfl h55 <| MV rfl rfl <| ?_
                                  refine rw_case (j := 127) rfl (fun h56 => ?_) (fun h56 => ?_)
                                  · refine ON rfl rfl h56 <| FA rfl tyF_impl_Stream_3 rfl <| ON rfl rfl h56 <| FA rfl tyF_impl_Receiver_3 rfl <| ON rfl rfl h56 <| LD (i := 0) rfl tyP_int rfl rfl rfl <| ON rfl rfl h56 <| EQ1 rfl rfl rfl <| ON rfl rfl h55 <| PT rfl rfl h56 rfl <| ON rfl rfl h55 <| MV rfl rfl <| ?_
                                    refine rw_case (j := 133) rfl (fun h57 => ?_) (fun h57 => ?_)
                                    · refine ON rfl rfl h57 <| FA rfl tyF_impl_Stream_11 rfl <| ON rfl rfl h57 <| LD (i := 0) rfl tyP_bool rfl rfl rfl <| ON rfl rfl h57 <| NT rfl rfl <| ON rfl rfl h55 <| PT rfl rfl h57 rfl <| ON rfl rfl rfl <| PF rfl rfl h55 rfl <| PT rfl rfl rfl rfl <| AS rfl rfl <| ND <| ret_cv Try.func50 (res1 Try.func50 rfl (rv_tmp rfl)) <| ?_
                                      simp [isStreamS, isStreamW, h1, h2, h3, h4, h5, h6, h7, h8, h48, h49, h50, h51, h52, h53, h54, h55, h56, h57]
                                    · refine OF rfl rfl h57 rfl <| OF rfl rfl h57 rfl <| OF rfl rfl h57 rfl <| ON rfl rfl h55 <| PF rfl rfl h57 rfl <| ON rfl rfl rfl <| PF rfl rfl h55 rfl <| PT rfl rfl rfl rfl <| AS rfl rfl <| ND <| ret_cv Try.func50 (res1 Try.func50 rfl (rv_tmp rfl)) <| ?_
                                      simp [isStreamS, isStreamW, h1, h2, h3, h4, h5, h6, h7, h8, h48, h49, h50, h51, h52, h53, h54, h55, h56, h57]
                                  · refine OF rfl rfl h56 rfl <| OF rfl rfl h56 rfl <| OF rfl rfl h56 rfl <| OF rfl rfl h56 rfl <| ON rfl rfl h55 <| PF rfl rfl h56 rfl <| ON rfl rfl h55 <| MV rfl rfl <| OF rfl rfl rfl rfl <| OF rfl rfl rfl rfl <| OF rfl rfl rfl rfl <| ON rfl rfl h55 <| PF rfl rfl rfl rfl <| ON rfl rfl rfl <| PF rfl rfl h55 rfl <| PT rfl rfl rfl rfl <| AS rfl rfl <| ND <| ret_cv Try.func50 (res1 Try.func50 rfl (rv_tmp rfl)) <| ?_
                                    simp [isStreamS, isStreamW, h1, h2, h3, h4, h5, h6, h7, h8, h48, h49, h50, h51, h52, h53, h54, h55, h56]
                              · replace h54 := of_not_F h54
                                refine OF rfl rfl (not_T h54) rfl <| OF rfl rfl (not_T h54) rfl <| OF rfl rfl (not_T h54) rfl <| ON rfl rfl (not_T h53) <| PF rfl rfl (not_T h54) rfl <| PF rfl rfl (not_T h53) rfl <| ND <| CF rfl rfl <| SK <| SQ <| RG <| FA rfl tyF_impl_Stream_6 rfl <| LD (i := 0) rfl tyP_bool rfl rfl rfl <| MV rfl rfl <| OF rfl rfl h8 rfl <| OF rfl rfl h8 rfl <| OF rfl rfl h8 rfl <| OF rfl rfl h8 rfl <| OF rfl rfl h8 rfl <| OU rfl rfl rfl <| OU rfl rfl rfl <| OU rfl rfl rfl <| ?_
                                refine OU rfl rfl rfl <| OU rfl rfl rfl <| OF rfl rfl h8 rfl <| OF rfl rfl h8 rfl <| OU rfl rfl rfl <| OU rfl rfl rfl <| OU rfl rfl rfl <| OU rfl rfl rfl <| OF rfl rfl h8 rfl <| PT rfl rfl h8 rfl <| MV rfl rfl <| ON rfl rfl rfl <| FA rfl tyF_impl_Stream_7 rfl <| ON rfl rfl rfl <| LD (i := 0) rfl tyP_bool rfl rfl rfl <| ON rfl rfl rfl <| MV rfl rfl <| ?_
                                refine rw_case (j := 122) rfl (fun h58 => ?_) (fun h58 => ?_)
                                · refine OF rfl rfl h58 rfl <| OF rfl rfl h58 rfl <| OF rfl rfl h58 rfl <| OF rfl rfl h58 rfl <| OF rfl rfl h58 rfl <| OU rfl rfl rfl <| OU rfl rfl rfl <| OU rfl rfl rfl <| OU rfl rfl rfl <| OF rfl rfl h58 rfl <| OF rfl rfl h58 rfl <| OU rfl rfl rfl <| OU rfl rfl rfl <| OU rfl rfl rfl <| OF rfl rfl h58 rfl <| ON rfl rfl rfl <| PT rfl rfl h58 rfl <| PT rfl rfl rfl rfl <| AS rfl rfl <| ND <| ret_cv Try.func50 (res1 Try.func50 rfl (rv_tmp rfl)) <| ?_
                                  simp [isStreamS, isStreamW, h1, h2, h3, h4, h5, h6, h7, h8, h48, h49, h50, h51, h52, h53, h54, h58]
                                · refine ON rfl rfl h58 <| FA rfl tyF_impl_Stream_3 rfl <| ON rfl rfl h58 <| FA rfl tyF_impl_Receiver_0 rfl <| ON rfl rfl h58 <| LD (i := 0) rfl tyP_int rfl rfl rfl <| ON rfl rfl h58 <| EQ1 rfl rfl rfl <| ON rfl rfl h58 <| MV rfl rfl <| ?_
                                  refine rw_case (j := 127) rfl (fun h59 => ?_) (fun h59 => ?_)
                                  · refine ON rfl rfl h59 <| FA rfl tyF_impl_Stream_3 rfl <| ON rfl rfl h59 <| FA rfl tyF_impl_Receiver_3 rfl <| ON rfl rfl h59 <| LD (i := 0) rfl tyP_int rfl rfl rfl <| ON rfl rfl h59 <| EQ1 rfl rfl rfl <| ON rfl rfl h58 <| PT rfl rfl h59 rfl <| ON rfl rfl h58 <| MV rfl rfl <| ?_
                                    refine rw_case (j := 133) rfl (fun h60 => ?_) (fun h60 => ?_)
                                    · refine ON rfl rfl h60 <| FA rfl tyF_impl_Stream_11 rfl <| ON rfl rfl h60 <| LD (i := 0) rfl tyP_bool rfl rfl rfl <| ON rfl rfl h60 <| NT rfl rfl <| ON rfl rfl h58 <| PT rfl rfl h60 rfl <| ON rfl rfl rfl <| PF rfl rfl h58 rfl <| PT rfl rfl rfl rfl <| AS rfl rfl <| ND <| ret_cv Try.func50 (res1 Try.func50 rfl (rv_tmp rfl)) <| ?_
                                      simp [isStreamS, isStreamW, h1, h2, h3, h4, h5, h6, h7, h8, h48, h49, h50, h51, h52, h53, h54, h58, h59, h60]
                                    · refine OF rfl rfl h60 rfl <| OF rfl rfl h60 rfl <| OF rfl rfl h60 rfl <| ON rfl rfl h58 <| PF rfl rfl h60 rfl <| ON rfl rfl rfl <| PF rfl rfl h58 rfl <| PT rfl rfl rfl rfl <| AS rfl rfl <| ND <| ret_cv Try.func50 (res1 Try.func50 rfl (rv_tmp rfl)) <| ?_
                                      simp [isStreamS, isStreamW, h1, h2, h3, h4, h5, h6, h7, h8, h48, h49, h50, h51, h52, h53, h54, h58, h59, h60]
                                  · refine OF rfl rfl h59 rfl <| OF rfl rfl h59 rfl <| OF rfl rfl h59 rfl <| OF rfl rfl h59 rfl <| ON rfl rfl h58 <| PF rfl rfl h59 rfl <| ON rfl rfl h58 <| MV rfl rfl <| OF rfl rfl rfl rfl <| OF rfl rfl rfl rfl <| OF rfl rfl rfl rfl <| ON rfl rfl h58 <| PF rfl rfl rfl rfl <| ON rfl rfl rfl <| PF rfl rfl h58 rfl <| PT rfl rfl rfl rfl <| AS rfl rfl <| ND <| ret_cv Try.func50 (res1 Try.func50 rfl (rv_tmp rfl)) <| ?_
                                    simp [isStreamS, isStreamW, h1, h2, h3, h4, h5, h6, h7, h8, h48, h49, h50, h51, h52, h53, h54, h58, h59]
                          · refine OF rfl rfl h52 rfl <| OF rfl rfl h52 rfl <| OF rfl rfl h52 rfl <| ON rfl rfl (not_T h51) <| PF rfl rfl h52 rfl <| PF rfl rfl (not_T h51) rfl <| MV rfl rfl <| ON rfl rfl rfl <| FA rfl tyF_impl_Stream_12 rfl <| ON rfl rfl rfl <| LD (i := 0) rfl tyP_int rfl rfl rfl <| ON rfl rfl rfl <| rw_neq rfl rfl rfl <| ON rfl rfl rfl <| MV rfl rfl <| ?_
                            refine rw_case (j := 92) rfl (fun h61 => ?_) (fun h61 => ?_)
                            · replace h61 := of_not_T h61
                              refine ON rfl rfl (not_F h61) <| FA rfl tyF_impl_Stream_11 rfl <| ON rfl rfl (not_F h61) <| LD (i := 0) rfl tyP_bool rfl rfl rfl <| ON rfl rfl (not_F h61) <| NT rfl rfl <| ON rfl rfl rfl <| PT rfl rfl (not_F h61) rfl <| PF rfl rfl rfl rfl <| ND <| ?_
                              refine gw_cond rfl (fun h62 => ?_) (fun h62 => ?_)
                              · replace h62 := of_not_T h62
                                refine SQ <| RG <| AS rfl rfl <| ND <| ret_cv Try.func50 (res1 Try.func50 rfl (rv_tmp rfl)) <| ?_
                                simp [isStreamS, isStreamW, h1, h2, h3, h4, h5, h6, h7, h8, h48, h49, h50, h51, h52, h61, h62]
                              · replace h62 := of_not_F h62
                                refine SK <| SQ <| RG <| FA rfl tyF_impl_Stream_6 rfl <| LD (i := 0) rfl tyP_bool rfl rfl rfl <| MV rfl rfl <| OF rfl rfl h8 rfl <| OF rfl rfl h8 rfl <| OF rfl rfl h8 rfl <| OF rfl rfl h8 rfl <| OF rfl rfl h8 rfl <| OU rfl rfl rfl <| OU rfl rfl rfl <| OU rfl rfl rfl <| OU rfl rfl rfl <| OU rfl rfl rfl <| OF rfl rfl h8 rfl <| OF rfl rfl h8 rfl <| OU rfl rfl rfl <| OU rfl rfl rfl <| OU rfl rfl rfl <| OU rfl rfl rfl <| ?_
                                refine OF rfl rfl h8 rfl <| PT rfl rfl h8 rfl <| MV rfl rfl <| ON rfl rfl rfl <| FA rfl tyF_impl_Stream_7 rfl <| ON rfl rfl rfl <| LD (i := 0) rfl tyP_bool rfl rfl rfl <| ON rfl rfl rfl <| MV rfl rfl <| ?_
                                refine rw_case (j := 122) rfl (fun h63 => ?_) (fun h63 => ?_)
                                · refine OF rfl rfl h63 rfl <| OF rfl rfl h63 rfl <| OF rfl rfl h63 rfl <| OF rfl rfl h63 rfl <| OF rfl rfl h63 rfl <| OU rfl rfl rfl <| OU rfl rfl rfl <| OU rfl rfl rfl <| OU rfl rfl rfl <| OF rfl rfl h63 rfl <| OF rfl rfl h63 rfl <| OU rfl rfl rfl <| OU rfl rfl rfl <| OU rfl rfl rfl <| OF rfl rfl h63 rfl <| ON rfl rfl rfl <| PT rfl rfl h63 rfl <| PT rfl rfl rfl rfl <| AS rfl rfl <| ND <| ret_cv Try.func50 (res1 Try.func50 rfl (rv_tmp rfl)) <| ?_
                                  simp [isStreamS, isStreamW, h1, h2, h3, h4, h5, h6, h7, h8, h48, h49, h50, h51, h52, h61, h62, h63]
                                · refine ON rfl rfl h63 <| FA rfl tyF_impl_Stream_3 rfl <| ON rfl rfl h63 <| FA rfl tyF_impl_Receiver_0 rfl <| ON rfl rfl h63 <| LD (i := 0) rfl tyP_int rfl rfl rfl <| ON rfl rfl h63 <| EQ1 rfl rfl rfl <| ON rfl rfl h63 <| MV rfl rfl <| ?_
                                  refine rw_case (j := 127) rfl (fun h64 => ?_) (fun h64 => ?_)
                                  · refine ON rfl rfl h64 <| FA rfl tyF_impl_Stream_3 rfl <| ON rfl rfl h64 <| FA rfl tyF_impl_Receiver_3 rfl <| ON rfl rfl h64 <| LD (i := 0) rfl tyP_int rfl rfl rfl <| ON rfl rfl h64 <| EQ1 rfl rfl rfl <| ON rfl rfl h63 <| PT rfl rfl h64 rfl <| ON rfl rfl h63 <| MV rfl rfl <| ?_
                                    refine rw_case (j := 133) rfl (fun h65 => ?_) (fun h65 => ?_)
                                    · refine ON rfl rfl h65 <| FA rfl tyF_impl_Stream_11 rfl <| ON rfl rfl h65 <| LD (i := 0) rfl tyP_bool rfl rfl rfl <| ON rfl rfl h65 <| NT rfl rfl <| ON rfl rfl h63 <| PT rfl rfl h65 rfl <| ON rfl rfl rfl <| PF rfl rfl h63 rfl <| PT rfl rfl rfl rfl <| AS rfl rfl <| ND <| ret_cv Try.func50 (res1 Try.func50 rfl (rv_tmp rfl)) <| ?_
                                      simp [isStreamS, isStreamW, h1, h2, h3, h4, h5, h6, h7, h8, h48, h49, h50, h51, h52, h61, h62, h63, h64, h65]
                                    · refine OF rfl rfl h65 rfl <| OF rfl rfl h65 rfl <| OF rfl rfl h65 rfl <| ON rfl rfl h63 <| PF rfl rfl h65 rfl <| ON rfl rfl rfl <| PF rfl rfl h63 rfl <| PT rfl rfl rfl rfl <| AS rfl rfl <| ND <| ret_cv Try.func50 (res1 Try.func50 rfl (rv_tmp rfl)) <| ?_
                                      simp [isStreamS, isStreamW, h1, h2, h3, h4, h5, h6, h7, h8, h48, h49, h50, h51, h52, h61, h62, h63, h64, h65]
                                  · refine OF rfl rfl h64 rfl <| OF rfl rfl h64 rfl <| OF rfl rfl h64 rfl <| OF rfl rfl h64 rfl <| ON rfl rfl h63 <| PF rfl rfl h64 rfl <| ON rfl rfl h63 <| MV rfl rfl <| OF rfl rfl rfl rfl <| OF rfl rfl rfl rfl <| OF rfl rfl rfl rfl <| ON rfl rfl h63 <| PF rfl rfl rfl rfl <| ON rfl rfl rfl <| PF rfl rfl h63 rfl <| PT rfl rfl rfl rfl <| AS rfl rfl <| ND <| ret_cv Try.func50 (res1 Try.func50 rfl (rv_tmp rfl)) <| ?_
                                    simp [isStreamS, isStreamW, h1, h2, h3, h4, h5, h6, h7, h8, h48, h49, h50, h51, h52, h61, h62, h63, h64]
                            · replace h61 := of_not_F h61
                              refine OF rfl rfl (not_T h61) rfl <| OF rfl rfl (not_T h61) rfl <| OF rfl rfl (not_T h61) rfl <| ON rfl rfl rfl <| PF rfl rfl (not_T h61) rfl <| PF rfl rfl rfl rfl <| ND <| CF rfl rfl <| SK <| SQ <| RG <| FA rfl tyF_impl_Stream_6 rfl <| LD (i := 0) rfl tyP_bool rfl rfl rfl <| MV rfl rfl <| OF rfl rfl h8 rfl <| OF rfl rfl h8 rfl <| OF rfl rfl h8 rfl <| OF rfl rfl h8 rfl <| OF rfl rfl h8 rfl <| OU rfl rfl rfl <| OU rfl rfl rfl <| OU rfl rfl rfl <| ?_
                              refine OU rfl rfl rfl <| OU rfl rfl rfl <| OF rfl rfl h8 rfl <| OF rfl rfl h8 rfl <| OU rfl rfl rfl <| OU rfl rfl rfl <| OU rfl rfl rfl <| OU rfl rfl rfl <| OF rfl rfl h8 rfl <| PT rfl rfl h8 rfl <| MV rfl rfl <| ON rfl rfl rfl <| FA rfl tyF_impl_Stream_7 rfl <| ON rfl rfl rfl <| LD (i := 0) rfl tyP_bool rfl rfl rfl <| ON rfl rfl rfl <| MV rfl rfl <| ?_
                              refine rw_case (j := 122) rfl (fun h66 => ?_) (fun h66 => ?_)
                              · refine OF rfl rfl h66 rfl <| OF rfl rfl h66 rfl <| OF rfl rfl h66 rfl <| OF rfl rfl h66 rfl <| OF rfl rfl h66 rfl <| OU rfl rfl rfl <| OU rfl rfl rfl <| OU rfl rfl rfl <| OU rfl rfl rfl <| OF rfl rfl h66 rfl <| OF rfl rfl h66 rfl <| OU rfl rfl rfl <| OU rfl rfl rfl <| OU rfl rfl rfl <| OF rfl rfl h66 rfl <| ON rfl rfl rfl <| PT rfl rfl h66 rfl <| PT rfl rfl rfl rfl <| AS rfl rfl <| ND <| ret_cv Try.func50 (res1 Try.func50 rfl (rv_tmp rfl)) <| ?_
                                simp [isStreamS, isStreamW, h1, h2, h3, h4, h5, h6, h7, h8, h48, h49, h50, h51, h52, h61, h66]
                              · refine ON rfl rfl h66 <| FA rfl tyF_impl_Stream_3 rfl <| ON rfl rfl h66 <| FA rfl tyF_impl_Receiver_0 rfl <| ON rfl rfl h66 <| LD (i := 0) rfl tyP_int rfl rfl rfl <| ON rfl rfl h66 <| EQ1 rfl rfl rfl <| ON rfl rfl h66 <| MV rfl rfl <| ?_
                                refine rw_case (j := 127) rfl (fun h67 => ?_) (fun h67 => ?_)
                                · refine ON rfl rfl h67 <| FA rfl tyF_impl_Stream_3 rfl <| ON rfl rfl h67 <| FA rfl tyF_impl_Receiver_3 rfl <| ON rfl rfl h67 <| LD (i := 0) rfl tyP_int rfl rfl rfl <| ON rfl rfl h67 <| EQ1 rfl rfl rfl <| ON rfl rfl h66 <| PT rfl rfl h67 rfl <| ON rfl rfl h66 <| MV rfl rfl <| ?_
                                  refine rw_case (j := 133) rfl (fun h68 => ?_) (fun h68 => ?_)
                                  · refine ON rfl rfl h68 <| FA rfl tyF_impl_Stream_11 rfl <| ON rfl rfl h68 <| LD (i := 0) rfl tyP_bool rfl rfl rfl <| ON rfl rfl h68 <| NT rfl rfl <| ON rfl rfl h66 <| PT rfl rfl h68 rfl <| ON rfl rfl rfl <| PF rfl rfl h66 rfl <| PT rfl rfl rfl rfl <| AS rfl rfl <| ND <| ret_cv Try.func50 (res1 Try.func50 rfl (rv_tmp rfl)) <| ?_
                                    simp [isStreamS, isStreamW, h1, h2, h3, h4, h5, h6, h7, h8, h48, h49, h50, h51, h52, h61, h66, h67, h68]
                                  · refine OF rfl rfl h68 rfl <| OF rfl rfl h68 rfl <| OF rfl rfl h68 rfl <| ON rfl rfl h66 <| PF rfl rfl h68 rfl <| ON rfl rfl rfl <| PF rfl rfl h66 rfl <| PT rfl rfl rfl rfl <| AS rfl rfl <| ND <| ret_cv Try.func50 (res1 Try.func50 rfl (rv_tmp rfl)) <| ?_
                                    simp [isStreamS, isStreamW, h1, h2, h3, h4, h5, h6, h7, h8, h48, h49, h50, h51, h52, h61, h66, h67, h68]
                                · refine OF rfl rfl h67 rfl <| OF rfl rfl h67 rfl <| OF rfl rfl h67 rfl <| OF rfl rfl h67 rfl <| ON rfl rfl h66 <| PF rfl rfl h67 rfl <| ON rfl rfl h66 <| MV rfl rfl <| OF rfl rfl rfl rfl <| OF rfl rfl rfl rfl <| OF rfl rfl rfl rfl <| ON rfl rfl h66 <| PF rfl rfl rfl rfl <| ON rfl rfl rfl <| PF rfl rfl h66 rfl <| PT rfl rfl rfl rfl <| AS rfl rfl <| ND <| ret_cv Try.func50 (res1 Try.func50 rfl (rv_tmp rfl)) <| ?_
                                  simp [isStreamS, isStreamW, h1, h2, h3, h4, h5, h6, h7, h8, h48, h49, h50, h51, h52, h61, h66, h67]
                      · refine OF rfl rfl h50 rfl <| OF rfl rfl h50 rfl <| OF rfl rfl h50 rfl <| OF rfl rfl h50 rfl <| ON rfl rfl h49 <| PF rfl rfl h50 rfl <| PF rfl rfl h49 rfl <| MV rfl rfl <| ON rfl rfl rfl <| FA rfl tyF_impl_Stream_9 rfl <| ON rfl rfl rfl <| LD (i := 0) rfl tyP_bool rfl rfl rfl <| ON rfl rfl rfl <| MV rfl rfl <| ?_
                        refine rw_case (j := 82) rfl (fun h69 => ?_) (fun h69 => ?_)
                        · refine ON rfl rfl h69 <| FA rfl tyF_impl_Stream_11 rfl <| ON rfl rfl h69 <| LD (i := 0) rfl tyP_bool rfl rfl rfl <| ON rfl rfl h69 <| NT rfl rfl <| ON rfl rfl rfl <| PT rfl rfl h69 rfl <| PF rfl rfl rfl rfl <| MV rfl rfl <| ?_
                          refine rw_case (j := 88) rfl (fun h70 => ?_) (fun h70 => ?_)
                          · replace h70 := of_not_T h70
                            refine OF rfl rfl (not_F h70) rfl <| OF rfl rfl (not_F h70) rfl <| OF rfl rfl (not_F h70) rfl <| OF rfl rfl (not_F h70) rfl <| OU rfl rfl rfl <| OU rfl rfl rfl <| OU rfl rfl rfl <| OF rfl rfl (not_F h70) rfl <| PT rfl rfl (not_F h70) rfl <| ND <| CT rfl rfl <| SQ <| RG <| AS rfl rfl <| ND <| ret_cv Try.func50 (res1 Try.func50 rfl (rv_tmp rfl)) <| ?_
                            simp [isStreamS, isStreamW, h1, h2, h3, h4, h5, h6, h7, h8, h48, h49, h50, h69, h70]
                          · replace h70 := of_not_F h70
                            refine ON rfl rfl (not_T h70) <| FA rfl tyF_impl_Stream_12 rfl <| ON rfl rfl (not_T h70) <| LD (i := 0) rfl tyP_int rfl rfl rfl <| ON rfl rfl (not_T h70) <| rw_neq rfl rfl rfl <| ON rfl rfl (not_T h70) <| MV rfl rfl <| ?_
                            refine rw_case (j := 92) rfl (fun h71 => ?_) (fun h71 => ?_)
                            · replace h71 := of_not_T h71
                              refine ON rfl rfl (not_F h71) <| FA rfl tyF_impl_Stream_11 rfl <| ON rfl rfl (not_F h71) <| LD (i := 0) rfl tyP_bool rfl rfl rfl <| ON rfl rfl (not_F h71) <| NT rfl rfl <| ON rfl rfl (not_T h70) <| PT rfl rfl (not_F h71) rfl <| PF rfl rfl (not_T h70) rfl <| ND <| CF rfl (not_T h70) <| SK <| SQ <| RG <| FA rfl tyF_impl_Stream_6 rfl <| LD (i := 0) rfl tyP_bool rfl rfl rfl <| MV rfl rfl <| OF rfl rfl h8 rfl <| OF rfl rfl h8 rfl <| OF rfl rfl h8 rfl <| OF rfl rfl h8 rfl <| ?_
                              refine OF rfl rfl h8 rfl <| OU rfl rfl rfl <| OU rfl rfl rfl <| OU rfl rfl rfl <| OU rfl rfl rfl <| OU rfl rfl rfl <| OF rfl rfl h8 rfl <| OF rfl rfl h8 rfl <| OU rfl rfl rfl <| OU rfl rfl rfl <| OU rfl rfl rfl <| OU rfl rfl rfl <| OF rfl rfl h8 rfl <| PT rfl rfl h8 rfl <| MV rfl rfl <| ON rfl rfl rfl <| FA rfl tyF_impl_Stream_7 rfl <| ON rfl rfl rfl <| LD (i := 0) rfl tyP_bool rfl rfl rfl <| ON rfl rfl rfl <| MV rfl rfl <| ?_
                              refine rw_case (j := 122) rfl (fun h72 => ?_) (fun h72 => ?_)
                              · refine OF rfl rfl h72 rfl <| OF rfl rfl h72 rfl <| OF rfl rfl h72 rfl <| OF rfl rfl h72 rfl <| OF rfl rfl h72 rfl <| OU rfl rfl rfl <| OU rfl rfl rfl <| OU rfl rfl rfl <| OU rfl rfl rfl <| OF rfl rfl h72 rfl <| OF rfl rfl h72 rfl <| OU rfl rfl rfl <| OU rfl rfl rfl <| OU rfl rfl rfl <| OF rfl rfl h72 rfl <| ON rfl rfl rfl <| PT rfl rfl h72 rfl <| PT rfl rfl rfl rfl <| AS rfl rfl <| ND <| ret_cv Try.func50 (res1 Try.func50 rfl (rv_tmp rfl)) <| ?_
                                simp [isStreamS, isStreamW, h1, h2, h3, h4, h5, h6, h7, h8, h48, h49, h50, h69, h70, h71, h72]
                              · refine ON rfl rfl h72 <| FA rfl tyF_impl_Stream_3 rfl <| ON rfl rfl h72 <| FA rfl tyF_impl_Receiver_0 rfl <| ON rfl rfl h72 <| LD (i := 0) rfl tyP_int rfl rfl rfl <| ON rfl rfl h72 <| EQ1 rfl rfl rfl <| ON rfl rfl h72 <| MV rfl rfl <| ?_
                                refine rw_case (j := 127) rfl (fun h73 => ?_) (fun h73 => ?_)
                                · refine ON rfl rfl h73 <| FA rfl tyF_impl_Stream_3 rfl <| ON rfl rfl h73 <| FA rfl tyF_impl_Receiver_3 rfl <| ON rfl rfl h73 <| LD (i := 0) rfl tyP_int rfl rfl rfl <| ON rfl rfl h73 <| EQ1 rfl rfl rfl <| ON rfl rfl h72 <| PT rfl rfl h73 rfl <| ON rfl rfl h72 <| MV rfl rfl <| ?_
                                  refine rw_case (j := 133) rfl (fun h74 => ?_) (fun h74 => ?_)
                                  · refine ON rfl rfl h74 <| FA rfl tyF_impl_Stream_11 rfl <| ON rfl rfl h74 <| LD (i := 0) rfl tyP_bool rfl rfl rfl <| ON rfl rfl h74 <| NT rfl rfl <| ON rfl rfl h72 <| PT rfl rfl h74 rfl <| ON rfl rfl rfl <| PF rfl rfl h72 rfl <| PT rfl rfl rfl rfl <| AS rfl rfl <| ND <| ret_cv Try.func50 (res1 Try.func50 rfl (rv_tmp rfl)) <| ?_
                                    simp [isStreamS, isStreamW, h1, h2, h3, h4, h5, h6, h7, h8, h48, h49, h50, h69, h70, h71, h72, h73, h74]
                                  · refine OF rfl rfl h74 rfl <| OF rfl rfl h74 rfl <| OF rfl rfl h74 rfl <| ON rfl rfl h72 <| PF rfl rfl h74 rfl <| ON rfl rfl rfl <| PF rfl rfl h72 rfl <| PT rfl rfl rfl rfl <| AS rfl rfl <| ND <| ret_cv Try.func50 (res1 Try.func50 rfl (rv_tmp rfl)) <| ?_
                                    simp [isStreamS, isStreamW, h1, h2, h3, h4, h5, h6, h7, h8, h48, h49, h50, h69, h70, h71, h72, h73, h74]
                                · refine OF rfl rfl h73 rfl <| OF rfl rfl h73 rfl <| OF rfl rfl h73 rfl <| OF rfl rfl h73 rfl <| ON rfl rfl h72 <| PF rfl rfl h73 rfl <| ON rfl rfl h72 <| MV rfl rfl <| OF rfl rfl rfl rfl <| OF rfl rfl rfl rfl <| OF rfl rfl rfl rfl <| ON rfl rfl h72 <| PF rfl rfl rfl rfl <| ON rfl rfl rfl <| PF rfl rfl h72 rfl <| PT rfl rfl rfl rfl <| AS rfl rfl <| ND <| ret_cv Try.func50 (res1 Try.func50 rfl (rv_tmp rfl)) <| ?_
                                  simp [isStreamS, isStreamW, h1, h2, h3, h4, h5, h6, h7, h8, h48, h49, h50, h69, h70, h71, h72, h73]
                            · replace h71 := of_not_F h71
                              refine OF rfl rfl (not_T h71) rfl <| OF rfl rfl (not_T h71) rfl <| OF rfl rfl (not_T h71) rfl <| ON rfl rfl (not_T h70) <| PF rfl rfl (not_T h71) rfl <| PF rfl rfl (not_T h70) rfl <| ND <| CF rfl rfl <| SK <| SQ <| RG <| FA rfl tyF_impl_Stream_6 rfl <| LD (i := 0) rfl tyP_bool rfl rfl rfl <| MV rfl rfl <| OF rfl rfl h8 rfl <| OF rfl rfl h8 rfl <| OF rfl rfl h8 rfl <| OF rfl rfl h8 rfl <| OF rfl rfl h8 rfl <| OU rfl rfl rfl <| OU rfl rfl rfl <| OU rfl rfl rfl <| ?_
                              refine OU rfl rfl rfl <| OU rfl rfl rfl <| OF rfl rfl h8 rfl <| OF rfl rfl h8 rfl <| OU rfl rfl rfl <| OU rfl rfl rfl <| OU rfl rfl rfl <| OU rfl rfl rfl <| OF rfl rfl h8 rfl <| PT rfl rfl h8 rfl <| MV rfl rfl <| ON rfl rfl rfl <| FA rfl tyF_impl_Stream_7 rfl <| ON rfl rfl rfl <| LD (i := 0) rfl tyP_bool rfl rfl rfl <| ON rfl rfl rfl <| MV rfl rfl <| ?_
                              refine rw_case (j := 122) rfl (fun h75 => ?_) (fun h75 => ?_)
                              · refine OF rfl rfl h75 rfl <| OF rfl rfl h75 rfl <| OF rfl rfl h75 rfl <| OF rfl rfl h75 rfl <| OF rfl rfl h75 rfl <| OU rfl rfl rfl <| OU rfl rfl rfl <| OU rfl rfl rfl <| OU rfl rfl rfl <| OF rfl rfl h75 rfl <| OF rfl rfl h75 rfl <| OU rfl rfl rfl <| OU rfl rfl rfl <| OU rfl rfl rfl <| OF rfl rfl h75 rfl <| ON rfl rfl rfl <| PT rfl rfl h75 rfl <| PT rfl rfl rfl rfl <| AS rfl rfl <| ND <| ret_cv Try.func50 (res1 Try.func50 rfl (rv_tmp rfl)) <| ?_
                                simp [isStreamS, isStreamW, h1, h2, h3, h4, h5, h6, h7, h8, h48, h49, h50, h69, h70, h71, h75]
                              · refine ON rfl rfl h75 <| FA rfl tyF_impl_Stream_3 rfl <| ON rfl rfl h75 <| FA rfl tyF_impl_Receiver_0 rfl <| ON rfl rfl h75 <| LD (i := 0) rfl tyP_int rfl rfl rfl <| ON rfl rfl h75 <| EQ1 rfl rfl rfl <| ON rfl rfl h75 <| MV rfl rfl <| ?_
                                refine rw_case (j := 127) rfl (fun h76 => ?_) (fun h76 => ?_)
                                · refine ON rfl rfl h76 <| FA rfl tyF_impl_Stream_3 rfl <| ON rfl rfl h76 <| FA rfl tyF_impl_Receiver_3 rfl <| ON rfl rfl h76 <| LD (i := 0) rfl tyP_int rfl rfl rfl <| ON rfl rfl h76 <| EQ1 rfl rfl rfl <| ON rfl rfl h75 <| PT rfl rfl h76 rfl <| ON rfl rfl h75 <| MV rfl rfl <| ?_
                                  refine rw_case (j := 133) rfl (fun h77 => ?_) (fun h77 => ?_)
                                  · refine ON rfl rfl h77 <| FA rfl tyF_impl_Stream_11 rfl <| ON rfl rfl h77 <| LD (i := 0) rfl tyP_bool rfl rfl rfl <| ON rfl rfl h77 <| NT rfl rfl <| ON rfl rfl h75 <| PT rfl rfl h77 rfl <| ON rfl rfl rfl <| PF rfl rfl h75 rfl <| PT rfl rfl rfl rfl <| AS rfl rfl <| ND <| ret_cv Try.func50 (res1 Try.func50 rfl (rv_tmp rfl)) <| ?_
                                    simp [isStreamS, isStreamW, h1, h2, h3, h4, h5, h6, h7, h8, h48, h49, h50, h69, h70, h71, h75, h76, h77]
                                  · refine OF rfl rfl h77 rfl <| OF rfl rfl h77 rfl <| OF rfl rfl h77 rfl <| ON rfl rfl h75 <| PF rfl rfl h77 rfl <| ON rfl rfl rfl <| PF rfl rfl h75 rfl <| PT rfl rfl rfl rfl <| AS rfl rfl <| ND <| ret_cv Try.func50 (res1 Try.func50 rfl (rv_tmp rfl)) <| ?_
                                    simp [isStreamS, isStreamW, h1, h2, h3, h4, h5, h6, h7, h8, h48, h49, h50, h69, h70, h71, h75, h76, h77]
                                · refine OF rfl rfl h76 rfl <| OF rfl rfl h76 rfl <| OF rfl rfl h76 rfl <| OF rfl rfl h76 rfl <| ON rfl rfl h75 <| PF rfl rfl h76 rfl <| ON rfl rfl h75 <| MV rfl rfl <| OF rfl rfl rfl rfl <| OF rfl rfl rfl rfl <| OF rfl rfl rfl rfl <| ON rfl rfl h75 <| PF rfl rfl rfl rfl <| ON rfl rfl rfl <| PF rfl rfl h75 rfl <| PT rfl rfl rfl rfl <| AS rfl rfl <| ND <| ret_cv Try.func50 (res1 Try.func50 rfl (rv_tmp rfl)) <| ?_
                                  simp [isStreamS, isStreamW, h1, h2, h3, h4, h5, h6, h7, h8, h48, h49, h50, h69, h70, h71, h75, h76]
                        · refine OF rfl rfl h69 rfl <| OF rfl rfl h69 rfl <| OF rfl rfl h69 rfl <| ON rfl rfl rfl <| PF rfl rfl h69 rfl <| PF rfl rfl rfl rfl <| MV rfl rfl <| ON rfl rfl rfl <| FA rfl tyF_impl_Stream_12 rfl <| ON rfl rfl rfl <| LD (i := 0) rfl tyP_int rfl rfl rfl <| ON rfl rfl rfl <| rw_neq rfl rfl rfl <| ON rfl rfl rfl <| MV rfl rfl <| ?_
                          refine rw_case (j := 92) rfl (fun h78 => ?_) (fun h78 => ?_)
                          · replace h78 := of_not_T h78
                            refine ON rfl rfl (not_F h78) <| FA rfl tyF_impl_Stream_11 rfl <| ON rfl rfl (not_F h78) <| LD (i := 0) rfl tyP_bool rfl rfl rfl <| ON rfl rfl (not_F h78) <| NT rfl rfl <| ON rfl rfl rfl <| PT rfl rfl (not_F h78) rfl <| PF rfl rfl rfl rfl <| ND <| ?_
                            refine gw_cond rfl (fun h79 => ?_) (fun h79 => ?_)
                            · replace h79 := of_not_T h79
                              refine SQ <| RG <| AS rfl rfl <| ND <| ret_cv Try.func50 (res1 Try.func50 rfl (rv_tmp rfl)) <| ?_
                              simp [isStreamS, isStreamW, h1, h2, h3, h4, h5, h6, h7, h8, h48, h49, h50, h69, h78, h79]
                            · replace h79 := of_not_F h79
                              refine SK <| SQ <| RG <| FA rfl tyF_impl_Stream_6 rfl <| LD (i := 0) rfl tyP_bool rfl rfl rfl <| MV rfl rfl <| OF rfl rfl h8 rfl <| OF rfl rfl h8 rfl <| OF rfl rfl h8 rfl <| OF rfl rfl h8 rfl <| OF rfl rfl h8 rfl <| OU rfl rfl rfl <| OU rfl rfl rfl <| OU rfl rfl rfl <| OU rfl rfl rfl <| OU rfl rfl rfl <| OF rfl rfl h8 rfl <| OF rfl rfl h8 rfl <| OU rfl rfl rfl <| OU rfl rfl rfl <| OU rfl rfl rfl <| OU rfl rfl rfl <| ?_
                              refine OF rfl rfl h8 rfl <| PT rfl rfl h8 rfl <| MV rfl rfl <| ON rfl rfl rfl <| FA rfl tyF_impl_Stream_7 rfl <| ON rfl rfl rfl <| LD (i := 0) rfl tyP_bool rfl rfl rfl <| ON rfl rfl rfl <| MV rfl rfl <| ?_
                              refine rw_case (j := 122) rfl (fun h80 => ?_) (fun h80 => ?_)
                              · refine OF rfl rfl h80 rfl <| OF rfl rfl h80 rfl <| OF rfl rfl h80 rfl <| OF rfl rfl h80 rfl <| OF rfl rfl h80 rfl <| OU rfl rfl rfl <| OU rfl rfl rfl <| OU rfl rfl rfl <| OU rfl rfl rfl <| OF rfl rfl h80 rfl <| OF rfl rfl h80 rfl <| OU rfl rfl rfl <| OU rfl rfl rfl <| OU rfl rfl rfl <| OF rfl rfl h80 rfl <| ON rfl rfl rfl <| PT rfl rfl h80 rfl <| PT rfl rfl rfl rfl <| AS rfl rfl <| ND <| ret_cv Try.func50 (res1 Try.func50 rfl (rv_tmp rfl)) <| ?_
                                simp [isStreamS, isStreamW, h1, h2, h3, h4, h5, h6, h7, h8, h48, h49, h50, h69, h78, h79, h80]
                              · refine ON rfl rfl h80 <| FA rfl tyF_impl_Stream_3 rfl <| ON rfl rfl h80 <| FA rfl tyF_impl_Receiver_0 rfl <| ON rfl rfl h80 <| LD (i := 0) rfl tyP_int rfl rfl rfl <| ON rfl rfl h80 <| EQ1 rfl rfl rfl <| ON rfl rfl h80 <| MV rfl rfl <| ?_
                                refine rw_case (j := 127) rfl (fun h81 => ?_) (fun h81 => ?_)
                                · refine ON rfl rfl h81 <| FA rfl tyF_impl_Stream_3 rfl <| ON rfl rfl h81 <| FA rfl tyF_impl_Receiver_3 rfl <| ON rfl rfl h81 <| LD (i := 0) rfl tyP_int rfl rfl rfl <| ON rfl rfl h81 <| EQ1 rfl rfl rfl <| ON rfl rfl h80 <| PT rfl rfl h81 rfl <| ON rfl rfl h80 <| MV rfl rfl <| ?_
                                  refine rw_case (j := 133) rfl (fun h82 => ?_) (fun h82 => ?_)
                                  · refine ON rfl rfl h82 <| FA rfl tyF_impl_Stream_11 rfl <| ON rfl rfl h82 <| LD (i := 0) rfl tyP_bool rfl rfl rfl <| ON rfl rfl h82 <| NT rfl rfl <| ON rfl rfl h80 <| PT rfl rfl h82 rfl <| ON rfl rfl rfl <| PF rfl rfl h80 rfl <| PT rfl rfl rfl rfl <| AS rfl rfl <| ND <| ret_cv Try.func50 (res1 Try.func50 rfl (rv_tmp rfl)) <| ?_
                                    simp [isStreamS, isStreamW, h1, h2, h3, h4, h5, h6, h7, h8, h48, h49, h50, h69, h78, h79, h80, h81, h82]
                                  · refine OF rfl rfl h82 rfl <| OF rfl rfl h82 rfl <| OF rfl rfl h82 rfl <| ON rfl rfl h80 <| PF rfl rfl h82 rfl <| ON rfl rfl rfl <| PF rfl rfl h80 rfl <| PT rfl rfl rfl rfl <| AS rfl rfl <| ND <| ret_cv Try.func50 (res1 Try.func50 rfl (rv_tmp rfl)) <| ?_
                                    simp [isStreamS, isStreamW, h1, h2, h3, h4, h5, h6, h7, h8, h48, h49, h50, h69, h78, h79, h80, h81, h82]
                                · refine OF rfl rfl h81 rfl <| OF rfl rfl h81 rfl <| OF rfl rfl h81 rfl <| OF rfl rfl h81 rfl <| ON rfl rfl h80 <| PF rfl rfl h81 rfl <| ON rfl rfl h80 <| MV rfl rfl <| OF rfl rfl rfl rfl <| OF rfl rfl rfl rfl <| OF rfl rfl rfl rfl <| ON rfl rfl h80 <| PF rfl rfl rfl rfl <| ON rfl rfl rfl <| PF rfl rfl h80 rfl <| PT rfl rfl rfl rfl <| AS rfl rfl <| ND <| ret_cv Try.func50 (res1 Try.func50 rfl (rv_tmp rfl)) <| ?_
                                  simp [isStreamS, isStreamW, h1, h2, h3, h4, h5, h6, h7, h8, h48, h49, h50, h69, h78, h79, h80, h81]
                          · replace h78 := of_not_F h78
                            refine OF rfl rfl (not_T h78) rfl <| OF rfl rfl (not_T h78) rfl <| OF rfl rfl (not_T h78) rfl <| ON rfl rfl rfl <| PF rfl rfl (not_T h78) rfl <| PF rfl rfl rfl rfl <| ND <| CF rfl rfl <| SK <| SQ <| RG <| FA rfl tyF_impl_Stream_6 rfl <| LD (i := 0) rfl tyP_bool rfl rfl rfl <| MV rfl rfl <| OF rfl rfl h8 rfl <| OF rfl rfl h8 rfl <| OF rfl rfl h8 rfl <| OF rfl rfl h8 rfl <| OF rfl rfl h8 rfl <| OU rfl rfl rfl <| OU rfl rfl rfl <| OU rfl rfl rfl <| ?_
                            refine OU rfl rfl rfl <| OU rfl rfl rfl <| OF rfl rfl h8 rfl <| OF rfl rfl h8 rfl <| OU rfl rfl rfl <| OU rfl rfl rfl <| OU rfl rfl rfl <| OU rfl rfl rfl <| OF rfl rfl h8 rfl <| PT rfl rfl h8 rfl <| MV rfl rfl <| ON rfl rfl rfl <| FA rfl tyF_impl_Stream_7 rfl <| ON rfl rfl rfl <| LD (i := 0) rfl tyP_bool rfl rfl rfl <| ON rfl rfl rfl <| MV rfl rfl <| ?_
                            refine rw_case (j := 122) rfl (fun h83 => ?_) (fun h83 => ?_)
                            · refine OF rfl rfl h83 rfl <| OF rfl rfl h83 rfl <| OF rfl rfl h83 rfl <| OF rfl rfl h83 rfl <| OF rfl rfl h83 rfl <| OU rfl rfl rfl <| OU rfl rfl rfl <| OU rfl rfl rfl <| OU rfl rfl rfl <| OF rfl rfl h83 rfl <| OF rfl rfl h83 rfl <| OU rfl rfl rfl <| OU rfl rfl rfl <| OU rfl rfl rfl <| OF rfl rfl h83 rfl <| ON rfl rfl rfl <| PT rfl rfl h83 rfl <| PT rfl rfl rfl rfl <| AS rfl rfl <| ND <| ret_cv Try.func50 (res1 Try.func50 rfl (rv_tmp rfl)) <| ?_
                              simp [isStreamS, isStreamW, h1, h2, h3, h4, h5, h6, h7, h8, h48, h49, h50, h69, h78, h83]
                            · refine ON rfl rfl h83 <| FA rfl tyF_impl_Stream_3 rfl <| ON rfl rfl h83 <| FA rfl tyF_impl_Receiver_0 rfl <| ON rfl rfl h83 <| LD (i := 0) rfl tyP_int rfl rfl rfl <| ON rfl rfl h83 <| EQ1 rfl rfl rfl <| ON rfl rfl h83 <| MV rfl rfl <| ?_
                              refine rw_case (j := 127) rfl (fun h84 => ?_) (fun h84 => ?_)
                              · refine ON rfl rfl h84 <| FA rfl tyF_impl_Stream_3 rfl <| ON rfl rfl h84 <| FA rfl tyF_impl_Receiver_3 rfl <| ON rfl rfl h84 <| LD (i := 0) rfl tyP_int rfl rfl rfl <| ON rfl rfl h84 <| EQ1 rfl rfl rfl <| ON rfl rfl h83 <| PT rfl rfl h84 rfl <| ON rfl rfl h83 <| MV rfl rfl <| ?_
                                refine rw_case (j := 133) rfl (fun h85 => ?_) (fun h85 => ?_)
                                · refine ON rfl rfl h85 <| FA rfl tyF_impl_Stream_11 rfl <| ON rfl rfl h85 <| LD (i := 0) rfl tyP_bool rfl rfl rfl <| ON rfl rfl h85 <| NT rfl rfl <| ON rfl rfl h83 <| PT rfl rfl h85 rfl <| ON rfl rfl rfl <| PF rfl rfl h83 rfl <| PT rfl rfl rfl rfl <| AS rfl rfl <| ND <| ret_cv Try.func50 (res1 Try.func50 rfl (rv_tmp rfl)) <| ?_
                                  simp [isStreamS, isStreamW, h1, h2, h3, h4, h5, h6, h7, h8, h48, h49, h50, h69, h78, h83, h84, h85]
                                · refine OF rfl rfl h85 rfl <| OF rfl rfl h85 rfl <| OF rfl rfl h85 rfl <| ON rfl rfl h83 <| PF rfl rfl h85 rfl <| ON rfl rfl rfl <| PF rfl rfl h83 rfl <| PT rfl rfl rfl rfl <| AS rfl rfl <| ND <| ret_cv Try.func50 (res1 Try.func50 rfl (rv_tmp rfl)) <| ?_
                                  simp [isStreamS, isStreamW, h1, h2, h3, h4, h5, h6, h7, h8, h48, h49, h50, h69, h78, h83, h84, h85]
                              · refine OF rfl rfl h84 rfl <| OF rfl rfl h84 rfl <| OF rfl rfl h84 rfl <| OF rfl rfl h84 rfl <| ON rfl rfl h83 <| PF rfl rfl h84 rfl <| ON rfl rfl h83 <| MV rfl rfl <| OF rfl rfl rfl rfl <| OF rfl rfl rfl rfl <| OF rfl rfl rfl rfl <| ON rfl rfl h83 <| PF rfl rfl rfl rfl <| ON rfl rfl rfl <| PF rfl rfl h83 rfl <| PT rfl rfl rfl rfl <| AS rfl rfl <| ND <| ret_cv Try.func50 (res1 Try.func50 rfl (rv_tmp rfl)) <| ?_
                                simp [isStreamS, isStreamW, h1, h2, h3, h4, h5, h6, h7, h8, h48, h49, h50, h69, h78, h83, h84]

theorem spec_IsSendOver {w : World} {cs : List Value} {x : Stream} (hv : RdStream w cs x)  : CV Try.prog 51 [.agg cs.toArray] w (.bool (isSendOver x)) := by
  obtain ⟨v0, v1, v2, v3, v4, rfl, k0, k1, k2, k3, k4⟩ := hv
  obtain ⟨A0, c0, rfl, hA0⟩ := k0
  obtain ⟨A1, c1, rfl, hA1⟩ := k1
  obtain ⟨A2, c2, rfl, hA2⟩ := k2
  obtain ⟨A3, c3, rfl, hA3⟩ := k3
  obtain ⟨A4, c4, rfl, hA4⟩ := k4
  refine cv_of Try.func51 rfl rfl rfl <| SQ <| RG <| BX [_, _, _, _, _, _, _, _, _, _, _, _, _, _, _, _, _, _, _, _, _, _, _, _, _, _, _, _, _, _, _, _, _, _, _, _, _, _, _] rfl rfl rfl <| fun b1 => AS rfl rfl <| ND <| SQ <| RG <| FA rfl tyF_impl_Stream_6 rfl <| LD (i := 0) rfl tyP_bool rfl rfl rfl <| NT rfl rfl <| MV rfl rfl <| ?_
  refine rw_case (j := 6) rfl (fun h1 => ?_) (fun h1 => ?_)
  · replace h1 := of_not_T h1
    refine OF rfl rfl (not_F h1) rfl <| OF rfl rfl (not_F h1) rfl <| OF rfl rfl (not_F h1) rfl <| OF rfl rfl (not_F h1) rfl <| PT rfl rfl (not_F h1) rfl <| MV rfl rfl <| OF rfl rfl rfl rfl <| OF rfl rfl rfl rfl <| OF rfl rfl rfl rfl <| OF rfl rfl rfl rfl <| PT rfl rfl rfl rfl <| AS rfl rfl <| ND <| ret_cv Try.func51 (res1 Try.func51 rfl (rv_tmp rfl)) <| ?_
    simp [isSendOver, h1]
  · replace h1 := of_not_F h1
    refine ON rfl rfl (not_T h1) <| FA rfl tyF_impl_Stream_1 rfl <| ON rfl rfl (not_T h1) <| FA rfl tyF_impl_Sender_0 rfl <| ON rfl rfl (not_T h1) <| LD (i := 0) rfl tyP_int rfl rfl rfl <| ON rfl rfl (not_T h1) <| EQ1 rfl rfl rfl <| PF rfl rfl (not_T h1) rfl <| MV rfl rfl <| ?_
    refine rw_case (j := 12) rfl (fun h2 => ?_) (fun h2 => ?_)
    · refine OF rfl rfl h2 rfl <| OF rfl rfl h2 rfl <| OF rfl rfl h2 rfl <| OF rfl rfl h2 rfl <| PT rfl rfl h2 rfl <| AS rfl rfl <| ND <| ret_cv Try.func51 (res1 Try.func51 rfl (rv_tmp rfl)) <| ?_
      simp [isSendOver, h1, h2]
    · refine ON rfl rfl h2 <| FA rfl tyF_impl_Stream_1 rfl <| ON rfl rfl h2 <| FA rfl tyF_impl_Sender_0 rfl <| ON rfl rfl h2 <| LD (i := 0) rfl tyP_int rfl rfl rfl <| ON rfl rfl h2 <| EQ1 rfl rfl rfl <| PF rfl rfl h2 rfl <| AS rfl rfl <| ND <| ret_cv Try.func51 (res1 Try.func51 rfl (rv_tmp rfl)) <| ?_
      simp [isSendOver, h1, h2]

theorem spec_IsReceived {w : World} {cs : List Value} {x : Receiver} (hv : RdReceiver w cs x) (hb : x.le 1048576) : CV Try.prog 133 [.agg cs.toArray] w (.bool (isReceived x)) := by
  obtain ⟨v0, rfl, k0⟩ := hv
  obtain ⟨A0, c0, rfl, hA0⟩ := k0
  obtain ⟨hb0, hb1⟩ := hb
  refine cv_of Try.func133 rfl rfl rfl <| SQ <| RG <| BX [_, _, _, _, _, _] rfl rfl rfl <| fun b1 => AS rfl rfl <| ND <| SQ <| RG <| LS (i := 0) [_, _, _, _, _, _] rfl tyS_impl_Receiver rfl rfl rfl rfl <| CV1 rfl fun_spec_IsReceiver rfl (fun w hs => spec_IsReceiver ⟨_, rfl, (hA0.s Pl.keeps hs)⟩ ⟨hb0, hb1⟩) <| MV rfl rfl <| ?_
  refine rw_case (j := 5) rfl (fun h1 => ?_) (fun h1 => ?_)
  · refine ON rfl rfl h1 <| FA rfl tyF_impl_Receiver_0 rfl <| ON rfl rfl h1 <| LD (i := 0) rfl tyP_int rfl rfl rfl <| ON rfl rfl h1 <| EQ1 rfl rfl rfl <| ON rfl rfl h1 <| MV rfl rfl <| ?_
    refine rw_case (j := 9) rfl (fun h2 => ?_) (fun h2 => ?_)
    · refine OF rfl rfl h2 rfl <| OF rfl rfl h2 rfl <| OF rfl rfl h2 rfl <| ON rfl rfl h1 <| PT rfl rfl h2 rfl <| PT rfl rfl h1 rfl <| AS rfl rfl <| ND <| ret_cv Try.func133 (res1 Try.func133 rfl (rv_tmp rfl)) <| ?_
      simp [isReceived, h1, h2]
    · refine ON rfl rfl h2 <| FA rfl tyF_impl_Receiver_0 rfl <| ON rfl rfl h2 <| LD (i := 0) rfl tyP_int rfl rfl rfl <| ON rfl rfl h2 <| EQ1 rfl rfl rfl <| ON rfl rfl h1 <| PF rfl rfl h2 rfl <| PT rfl rfl h1 rfl <| AS rfl rfl <| ND <| ret_cv Try.func133 (res1 Try.func133 rfl (rv_tmp rfl)) <| ?_
      simp [isReceived, h1, h2]
  · refine OF rfl rfl h1 rfl <| OF rfl rfl h1 rfl <| OF rfl rfl h1 rfl <| OF rfl rfl h1 rfl <| OU rfl rfl rfl <| OU rfl rfl rfl <| OU rfl rfl rfl <| OF rfl rfl h1 rfl <| PF rfl rfl h1 rfl <| AS rfl rfl <| ND <| ret_cv Try.func133 (res1 Try.func133 rfl (rv_tmp rfl)) <| ?_
    simp [isReceived, h1]

theorem spec_IsRecvOver {w : World} {cs : List Value} {x : Stream} (hv : RdStream w cs x) (hb : x.le 1048576) : CV Try.prog 52 [.agg cs.toArray] w (.bool (isRecvOver x)) := by
  obtain ⟨v0, v1, v2, v3, v4, rfl, k0, k1, k2, k3, k4⟩ := hv
  obtain ⟨A0, c0, rfl, hA0⟩ := k0
  obtain ⟨A1, c1, rfl, hA1⟩ := k1
  obtain ⟨A2, c2, rfl, hA2⟩ := k2
  obtain ⟨A3, c3, rfl, hA3⟩ := k3
  obtain ⟨A4, c4, rfl, hA4⟩ := k4
  obtain ⟨hb0, hb1, hb2, hb3, hb4, hb5⟩ := hb
  refine cv_of Try.func52 rfl rfl rfl <| SQ <| RG <| BX [_, _, _, _, _, _, _, _, _, _, _, _, _, _, _, _, _, _, _, _, _, _, _, _, _, _, _, _, _, _, _, _, _, _, _, _, _, _, _] rfl rfl rfl <| fun b1 => AS rfl rfl <| ND <| SQ <| RG <| FA rfl tyF_impl_Stream_7 rfl <| LD (i := 0) rfl tyP_bool rfl rfl rfl <| NT rfl rfl <| MV rfl rfl <| ?_
  refine rw_case (j := 6) rfl (fun h1 => ?_) (fun h1 => ?_)
  · replace h1 := of_not_T h1
    refine OF rfl rfl (not_F h1) rfl <| OF rfl rfl (not_F h1) rfl <| OF rfl rfl (not_F h1) rfl <| PT rfl rfl (not_F h1) rfl <| AS rfl rfl <| ND <| ret_cv Try.func52 (res1 Try.func52 rfl (rv_tmp rfl)) <| ?_
    simp [isRecvOver, h1]
  · replace h1 := of_not_F h1
    refine ON rfl rfl (not_T h1) <| FA rfl tyF_impl_Stream_3 rfl <| ON rfl rfl (not_T h1) <| LS (i := 0) [_, _, _, _, _, _] rfl tyS_impl_Receiver rfl rfl rfl rfl <| ON rfl rfl (not_T h1) <| CV1 rfl fun_spec_IsReceived rfl (fun w hs => spec_IsReceived ⟨_, rfl, (hA4.s Pl.keeps hs)⟩ ⟨hb4, hb5⟩) <| PF rfl rfl (not_T h1) rfl <| AS rfl rfl <| ND <| ret_cv Try.func52 (res1 Try.func52 rfl (rv_tmp rfl)) <| ?_
    simp [isRecvOver, h1]

theorem spec_IsOver {w : World} {cs : List Value} {x : Stream} (hv : RdStream w cs x) (hb : x.le 1048576) : CV Try.prog 10 [.agg cs.toArray] w (.bool (isOver x)) := by
  obtain ⟨v0, v1, v2, v3, v4, rfl, k0, k1, k2, k3, k4⟩ := hv
  obtain ⟨A0, c0, rfl, hA0⟩ := k0
  obtain ⟨A1, c1, rfl, hA1⟩ := k1
  obtain ⟨A2, c2, rfl, hA2⟩ := k2
  obtain ⟨A3, c3, rfl, hA3⟩ := k3
  obtain ⟨A4, c4, rfl, hA4⟩ := k4
  obtain ⟨hb0, hb1, hb2, hb3, hb4, hb5⟩ := hb
  refine cv_of Try.func10 rfl rfl rfl <| SQ <| RG <| BX [_, _, _, _, _, _, _, _, _, _, _, _, _, _, _, _, _, _, _, _, _, _, _, _, _, _, _, _, _, _, _, _, _, _, _, _, _, _, _] rfl rfl rfl <| fun b1 => AS rfl rfl <| ND <| SQ <| RG <| LS (i := 0) [_, _, _, _, _, _, _, _, _, _, _, _, _, _, _, _, _, _, _, _, _, _, _, _, _, _, _, _, _, _, _, _, _, _, _, _, _, _, _] rfl tyS_impl_Stream rfl rfl rfl rfl <| CV1 rfl fun_spec_IsStream rfl (fun w hs => spec_IsStream ⟨_, _, _, _, _, rfl, (hA0.s Pl.keeps hs), (hA1.s Pl.keeps hs), (hA2.s Pl.keeps hs), (hA3.s Pl.keeps hs), (hA4.s Pl.keeps hs)⟩ ⟨hb0, hb1, hb2, hb3, hb4, hb5⟩) <| ?_
  refine MV rfl rfl <| ?_
  refine rw_case (j := 5) rfl (fun h1 => ?_) (fun h1 => ?_)
  · refine ON rfl rfl h1 <| LS (i := 0) [_, _, _, _, _, _, _, _, _, _, _, _, _, _, _, _, _, _, _, _, _, _, _, _, _, _, _, _, _, _, _, _, _, _, _, _, _, _, _] rfl tyS_impl_Stream rfl rfl rfl rfl <| ON rfl rfl h1 <| CV1 rfl fun_spec_IsSendOver rfl (fun w hs => spec_IsSendOver ⟨_, _, _, _, _, rfl, (hA0.s Pl.keeps hs), (hA1.s Pl.keeps hs), (hA2.s Pl.keeps hs), (hA3.s Pl.keeps hs), (hA4.s Pl.keeps hs)⟩) <| PT rfl rfl h1 rfl <| MV rfl rfl <| ?_
    refine rw_case (j := 9) rfl (fun h2 => ?_) (fun h2 => ?_)
    · refine ON rfl rfl h2 <| LS (i := 0) [_, _, _, _, _, _, _, _, _, _, _, _, _, _, _, _, _, _, _, _, _, _, _, _, _, _, _, _, _, _, _, _, _, _, _, _, _, _, _] rfl tyS_impl_Stream rfl rfl rfl rfl <| ON rfl rfl h2 <| CV1 rfl fun_spec_IsRecvOver rfl (fun w hs => spec_IsRecvOver ⟨_, _, _, _, _, rfl, (hA0.s Pl.keeps hs), (hA1.s Pl.keeps hs), (hA2.s Pl.keeps hs), (hA3.s Pl.keeps hs), (hA4.s Pl.keeps hs)⟩ ⟨hb0, hb1, hb2, hb3, hb4, hb5⟩) <| PT rfl rfl h2 rfl <| AS rfl rfl <| ND <| ret_cv Try.func10 (res1 Try.func10 rfl (rv_tmp rfl)) <| ?_
      rw [isOver_s]
      simp [isOverS, h1, h2]
    · refine OF rfl rfl h2 rfl <| OF rfl rfl h2 rfl <| PF rfl rfl h2 rfl <| AS rfl rfl <| ND <| ret_cv Try.func10 (res1 Try.func10 rfl (rv_tmp rfl)) <| ?_
      rw [isOver_s]
      simp [isOverS, h1, h2]
  · refine OF rfl rfl h1 rfl <| OF rfl rfl h1 rfl <| PF rfl rfl h1 rfl <| MV rfl rfl <| OF rfl rfl rfl rfl <| OF rfl rfl rfl rfl <| PF rfl rfl rfl rfl <| AS rfl rfl <| ND <| ret_cv Try.func10 (res1 Try.func10 rfl (rv_tmp rfl)) <| ?_
    rw [isOver_s]
    simp [isOverS, h1]

theorem impl_within (a b c : Int) (w : World) : CV Try.prog 98 [.int .i64 a, .int .i64 b, .int .i64 c] w (.bool (within a b c)) := by
  refine cv_of Try.func98 rfl rfl rfl <| SQ <| RG <| AS rfl rfl <| ND <| SQ <| RG <| MV rfl rfl <| MV rfl rfl <| rw_leq rfl rfl rfl <| MV rfl rfl <| ?_
  refine rw_case (j := 10) rfl (fun h1 => ?_) (fun h1 => ?_)
  · refine ON rfl rfl h1 <| MV rfl rfl <| ON rfl rfl h1 <| MV rfl rfl <| ON rfl rfl h1 <| rw_leq rfl rfl rfl <| PT rfl rfl h1 rfl <| AS rfl rfl <| ND <| ret_cv Try.func98 (res1 Try.func98 rfl (rv_tmp rfl)) <| ?_
    simp only [within, h1] <;> rfl
  · refine OF rfl rfl h1 rfl <| OF rfl rfl h1 rfl <| OF rfl rfl h1 rfl <| PF rfl rfl h1 rfl <| AS rfl rfl <| ND <| ret_cv Try.func98 (res1 Try.func98 rfl (rv_tmp rfl)) <| ?_
    simp only [within, h1] <;> rfl

theorem impl_isQuic (a : Int) (w : World) : CV Try.prog 137 [.int .i64 a] w (.bool (isQuic a)) := by
  refine cv_of Try.func137 rfl rfl rfl <| SQ <| RG <| AS rfl rfl <| ND <| SQ <| RG <| MV rfl rfl <| CV1 rfl fun_impl_within rfl (fun w hs => impl_within _ _ _ w) <| AS rfl rfl <| ND <| ret_cv Try.func137 (res1 Try.func137 rfl (rv_tmp rfl)) <| ?_
  rfl

theorem impl_isRingSize (a : Int) (w : World) : CV Try.prog 162 [.int .i64 a] w (.bool (isRingSize a)) := by
  refine cv_of Try.func162 rfl rfl rfl <| SQ <| RG <| AS rfl rfl <| ND <| SQ <| RG <| MV rfl rfl <| CV1 rfl fun_impl_within rfl (fun w hs => impl_within _ _ _ w) <| MV rfl rfl <| ?_
  refine rw_case (j := 5) rfl (fun h1 => ?_) (fun h1 => ?_)
  · refine ON rfl rfl h1 <| MV rfl rfl <| ON rfl rfl h1 <| MV rfl rfl <| ON rfl rfl h1 <| rw_sub rfl rfl rfl <| ON rfl rfl h1 <| rw_and rfl rfl rfl <| ON rfl rfl h1 <| EQ1 rfl rfl rfl <| PT rfl rfl h1 rfl <| AS rfl rfl <| ND <| ret_cv Try.func162 (res1 Try.func162 rfl (rv_tmp rfl)) <| ?_
    simp only [isRingSize, h1] <;> rfl
  · refine OF rfl rfl h1 rfl <| OF rfl rfl h1 rfl <| OF rfl rfl h1 rfl <| OF rfl rfl h1 rfl <| OF rfl rfl h1 rfl <| PF rfl rfl h1 rfl <| AS rfl rfl <| ND <| ret_cv Try.func162 (res1 Try.func162 rfl (rv_tmp rfl)) <| ?_
    simp only [isRingSize, h1] <;> rfl

theorem impl_IsRing_1 (n : Int) (w : World) : CV Try.prog 210 [.int .i64 n] w (.bool (!within n 0 255)) := by
  refine cv_of Try.func210 rfl rfl rfl <| SQ <| RG <| AS rfl rfl <| ND <| SQ <| RG <| MV rfl rfl <| CV1 rfl fun_impl_within rfl (fun w hs => impl_within _ _ _ w) <| NT rfl rfl <| AS rfl rfl <| ND <| ret_cv Try.func210 (res1 Try.func210 rfl (rv_tmp rfl)) <| ?_
  rfl

theorem slices_IndexFunc_int {w : World} {v : Value} {l : List Int} (hv : RdS w 1 (Pl intC) v l) (hb : l.length ≤ 4194304) : CV Try.prog 221 [v, (.func (.func 210) #[] #[])] w (.int .i64 (badFrom 0 l)) := by
  obtain ⟨A, c, rfl, hA⟩ := hv
  refine cv_of Try.func221 rfl rfl rfl <| SQ <| RG <| AS rfl rfl <| ND <| SQ <| SQ <| RG <| MV rfl rfl <| rw_len rfl tyE_S_int rfl <| MV rfl rfl <| ND <| BK <| ?_
  refine gw_loopC (α := Nat) (fun z_ => z_ ≤ l.length ∧ badFrom 0 l = badFrom z_ (l.drop z_)) (fun z_ => l.length - z_) (fun e z_ => (8, .int .i64 (z_ : Int)) :: e) 0 [(0, _), (1, _), (7, _)] (Sub.consE rfl rfl (Sub.cons (i := 0) rfl (Sub.cons (i := 1) rfl (Sub.cons (i := 7) rfl (Sub.nil _))))) ?_ ?_
  · exact ⟨Nat.zero_le _, rfl⟩
  · rintro i hI1 ih1
    try dsimp only
    obtain ⟨hle, hI⟩ := hI1
    refine SQ <| RG <| rw_lss rfl rfl rfl <| ND <| SQ <| ?_
    refine gw_cond rfl (fun h1 => ?_) (fun h1 => ?_)
    · have hi2 := lt_of_dec h1
      obtain ⟨x3, hx3⟩ := get_of_lt hi2
      have hd3 := drop_cons hx3
      refine SK <| SQ <| BK <| SQ <| RG <| MV rfl rfl <| AS rfl rfl <| ND <| SQ <| RG <| MV rfl rfl <| MV rfl rfl <| MV rfl rfl <| ?_
      have hq4 := hA.plain hx3
      refine rw_indexAddr (i) rfl tyE_S_int rfl rfl rfl (hA.some hi2) hi2 <| rw_loadX _ rfl tyP_int rfl (fun w hs => hq4.ld0 hs rfl) <| rw_cvF rfl rfl fun_impl_IsRing_1 rfl (fun w hs => impl_IsRing_1 _ w) <| ND <| ?_
      refine gw_cond rfl (fun h2 => ?_) (fun h2 => ?_)
      · refine SQ <| RG <| MV rfl rfl <| AS rfl rfl <| ND <| ret_cv Try.func221 (res1 Try.func221 rfl (rv_tmp rfl)) <| ?_
        rw [hI, hd3]; simp [badFrom, h2]
      · refine SK <| IB <| RG <| rw_add rfl rfl rfl <| MV rfl rfl <| ND <| ?_
        refine gw_sub (Sub.consE (i := 8) rfl (int_succ (by omega)) (Sub.cons (i := 0) rfl (Sub.cons (i := 1) rfl (Sub.cons (i := 7) rfl (Sub.nil _))))) (ih1 (i + 1) ?_ ?_)
        · exact ⟨by omega, by rw [hI, hd3]; simp [badFrom, h2]⟩
        · show l.length - (i + 1) < l.length - i; omega
    · have hn5 := nil_of_dec h1
      refine EX rfl <| SQ <| RG <| AS rfl rfl <| ND <| ret_cv Try.func221 (res1 Try.func221 rfl (rv_tmp rfl)) <| ?_
      rw [hI, hn5]; rfl

theorem slices_ContainsFunc_int {w : World} {v : Value} {l : List Int} (hv : RdS w 1 (Pl intC) v l) (hb : l.length ≤ 4194304) : CV Try.prog 209 [v, (.func (.func 210) #[] #[])] w (.bool (!l.all fun n => within n 0 255)) := by
  obtain ⟨A, c, rfl, hA⟩ := hv
  refine cv_of Try.func209 rfl rfl rfl <| SQ <| RG <| AS rfl rfl <| ND <| SQ <| RG <| MV rfl rfl <| MV rfl rfl <| CV1 rfl fun_slices_IndexFunc_S_int_int rfl (fun w hs => slices_IndexFunc_int (hA.s Pl.keeps hs) (by omega)) <| rw_geq rfl rfl rfl <| AS rfl rfl <| ND <| ret_cv Try.func209 (res1 Try.func209 rfl (rv_tmp rfl)) <| ?_
  exact congrArg _ (bad_all l 0)

theorem impl_IsRing {w : World} {cs : List Value} {x : Ring} (hv : RdRing w cs x) (hb : x.le 1048576) : CV Try.prog 178 [.agg cs.toArray] w (.bool (isRing x)) := by
  obtain ⟨v0, rfl, k0⟩ := hv
  obtain ⟨A0, c0, rfl, hA0⟩ := k0
  have hb0 : x.cells.length ≤ 1048576 := hb
  refine cv_of Try.func178 rfl rfl rfl <| SQ <| RG <| BX [_, _, _, _] rfl rfl rfl <| fun b1 => AS rfl rfl <| ND <| SQ <| SQ <| RG <| FA rfl tyF_impl_Ring_0 rfl <| LD (i := 0) rfl tyP_int rfl rfl rfl <| CV1 rfl fun_impl_isRingSize rfl (fun w hs => impl_isRingSize _ w) <| NT rfl rfl <| MV rfl rfl <| ?_
  refine rw_case (j := 7) rfl (fun h1 => ?_) (fun h1 => ?_)
  · replace h1 := of_not_T h1
    refine OF rfl rfl (not_F h1) rfl <| OF rfl rfl (not_F h1) rfl <| OF rfl rfl (not_F h1) rfl <| OF rfl rfl (not_F h1) rfl <| OF rfl rfl (not_F h1) rfl <| OF rfl rfl (not_F h1) rfl <| PT rfl rfl (not_F h1) rfl <| MV rfl rfl <| OF rfl rfl rfl rfl <| OF rfl rfl rfl rfl <| OF rfl rfl rfl rfl <| PT rfl rfl rfl rfl <| ND <| CT rfl rfl <| SQ <| RG <| AS rfl rfl <| ND <| ret_cv Try.func178 (res1 Try.func178 rfl (rv_tmp rfl)) <| ?_
    unfold isRing
    generalize (x.cells.all fun n => within n 0 255) = ab at *
    simp_all [maxQuic]
  · replace h1 := of_not_F h1
    refine ON rfl rfl (not_T h1) <| FA rfl tyF_impl_Ring_3 rfl <| ON rfl rfl (not_T h1) <| LD (i := 0) rfl tyP_S_int rfl rfl rfl <| ON rfl rfl (not_T h1) <| rw_len rfl tyE_S_int rfl <| ON rfl rfl (not_T h1) <| FA rfl tyF_impl_Ring_0 rfl <| ON rfl rfl (not_T h1) <| LD (i := 0) rfl tyP_int rfl rfl rfl <| ON rfl rfl (not_T h1) <| rw_neq rfl rfl rfl <| PF rfl rfl (not_T h1) rfl <| MV rfl rfl <| ?_
    refine rw_case (j := 15) rfl (fun h2 => ?_) (fun h2 => ?_)
    · replace h2 := of_not_T h2
      refine OF rfl rfl (not_F h2) rfl <| OF rfl rfl (not_F h2) rfl <| OF rfl rfl (not_F h2) rfl <| PT rfl rfl (not_F h2) rfl <| ND <| CT rfl rfl <| SQ <| RG <| AS rfl rfl <| ND <| ret_cv Try.func178 (res1 Try.func178 rfl (rv_tmp rfl)) <| ?_
      unfold isRing
      generalize (x.cells.all fun n => within n 0 255) = ab at *
      simp_all [maxQuic]
    · replace h2 := of_not_F h2
      refine ON rfl rfl (not_T h2) <| FA rfl tyF_impl_Ring_3 rfl <| ON rfl rfl (not_T h2) <| LD (i := 0) rfl tyP_S_int rfl rfl rfl <| ON rfl rfl (not_T h2) <| CV1 rfl fun_slices_ContainsFunc_S_int_int rfl (fun w hs => slices_ContainsFunc_int (hA0.s Pl.keeps hs) (by omega)) <| PF rfl rfl (not_T h2) rfl <| ND <| ?_
      refine gw_cond rfl (fun h3 => ?_) (fun h3 => ?_)
      · refine SQ <| RG <| AS rfl rfl <| ND <| ret_cv Try.func178 (res1 Try.func178 rfl (rv_tmp rfl)) <| ?_
        unfold isRing
        generalize (x.cells.all fun n => within n 0 255) = ab at *
        simp_all [maxQuic]
      · refine SK <| SQ <| RG <| FA rfl tyF_impl_Ring_1 rfl <| LD (i := 0) rfl tyP_int rfl rfl rfl <| CV1 rfl fun_impl_isQuic rfl (fun w hs => impl_isQuic _ w) <| MV rfl rfl <| ?_
        refine rw_case (j := 23) rfl (fun h4 => ?_) (fun h4 => ?_)
        · refine ON rfl rfl h4 <| FA rfl tyF_impl_Ring_2 rfl <| ON rfl rfl h4 <| LD (i := 0) rfl tyP_int rfl rfl rfl <| ON rfl rfl h4 <| FA rfl tyF_impl_Ring_1 rfl <| ON rfl rfl h4 <| LD (i := 0) rfl tyP_int rfl rfl rfl <| ON rfl rfl h4 <| FA rfl tyF_impl_Ring_1 rfl <| ON rfl rfl h4 <| LD (i := 0) rfl tyP_int rfl rfl rfl <| ON rfl rfl h4 <| FA rfl tyF_impl_Ring_0 rfl <| ON rfl rfl h4 <| LD (i := 0) rfl tyP_int rfl rfl rfl <| ON rfl rfl h4 <| ?_
          refine rw_add rfl rfl rfl <| ON rfl rfl h4 <| rw_min rfl rfl rfl <| ON rfl rfl h4 <| CV1 rfl fun_impl_within rfl (fun w hs => impl_within _ _ _ w) <| PT rfl rfl h4 rfl <| AS rfl rfl <| ND <| ret_cv Try.func178 (res1 Try.func178 rfl (rv_tmp rfl)) <| ?_
          unfold isRing
          generalize (x.cells.all fun n => within n 0 255) = ab at *
          simp_all [maxQuic]
        · refine OF rfl rfl h4 rfl <| OF rfl rfl h4 rfl <| OF rfl rfl h4 rfl <| OF rfl rfl h4 rfl <| OF rfl rfl h4 rfl <| OF rfl rfl h4 rfl <| OF rfl rfl h4 rfl <| OF rfl rfl h4 rfl <| OF rfl rfl h4 rfl <| OF rfl rfl h4 rfl <| OF rfl rfl h4 rfl <| PF rfl rfl h4 rfl <| AS rfl rfl <| ND <| ret_cv Try.func178 (res1 Try.func178 rfl (rv_tmp rfl)) <| ?_
          unfold isRing
          generalize (x.cells.all fun n => within n 0 255) = ab at *
          simp_all [maxQuic]

theorem impl_isRange (r : Range) (w : World) : CV Try.prog 167 [.agg r.cells.toArray] w (.bool (isRange r)) := by
  refine cv_of Try.func167 rfl rfl rfl <| SQ <| RG <| BX [_, _] rfl rfl rfl <| fun b1 => AS rfl rfl <| ND <| SQ <| RG <| FA rfl tyF_impl_Range_0 rfl <| LD (i := 0) rfl tyP_int rfl rfl rfl <| rw_geq rfl rfl rfl <| MV rfl rfl <| ?_
  refine rw_case (j := 6) rfl (fun h1 => ?_) (fun h1 => ?_)
  · refine ON rfl rfl h1 <| FA rfl tyF_impl_Range_0 rfl <| ON rfl rfl h1 <| LD (i := 0) rfl tyP_int rfl rfl rfl <| ON rfl rfl h1 <| FA rfl tyF_impl_Range_1 rfl <| ON rfl rfl h1 <| LD (i := 0) rfl tyP_int rfl rfl rfl <| ON rfl rfl h1 <| rw_lss rfl rfl rfl <| PT rfl rfl h1 rfl <| MV rfl rfl <| ?_
    refine rw_case (j := 13) rfl (fun h2 => ?_) (fun h2 => ?_)
    · refine ON rfl rfl h2 <| FA rfl tyF_impl_Range_1 rfl <| ON rfl rfl h2 <| LD (i := 0) rfl tyP_int rfl rfl rfl <| ON rfl rfl h2 <| rw_leq rfl rfl rfl <| PT rfl rfl h2 rfl <| AS rfl rfl <| ND <| ret_cv Try.func167 (res1 Try.func167 rfl (rv_tmp rfl)) <| ?_
      simp only [isRange, h1, h2] <;> rfl
    · refine OF rfl rfl h2 rfl <| OF rfl rfl h2 rfl <| OF rfl rfl h2 rfl <| PF rfl rfl h2 rfl <| AS rfl rfl <| ND <| ret_cv Try.func167 (res1 Try.func167 rfl (rv_tmp rfl)) <| ?_
      simp only [isRange, h1, h2] <;> rfl
  · refine OF rfl rfl h1 rfl <| OF rfl rfl h1 rfl <| OF rfl rfl h1 rfl <| OF rfl rfl h1 rfl <| OF rfl rfl h1 rfl <| PF rfl rfl h1 rfl <| MV rfl rfl <| OF rfl rfl rfl rfl <| OF rfl rfl rfl rfl <| OF rfl rfl rfl rfl <| PF rfl rfl rfl rfl <| AS rfl rfl <| ND <| ret_cv Try.func167 (res1 Try.func167 rfl (rv_tmp rfl)) <| ?_
    simp only [isRange, h1] <;> rfl

theorem impl_IsRanges {w : World} {v : Value} {l : List Range} (hv : RdS w 2 (Pl Range.cells) v l) (hb : l.length ≤ 4194304) : CV Try.prog 166 [v] w (.bool (isRanges l)) := by
  obtain ⟨A, c, rfl, hA⟩ := hv
  refine cv_of Try.func166 rfl rfl rfl <| SQ <| RG <| AS rfl rfl <| ND <| SQ <| SQ <| RG <| MV rfl rfl <| rw_len rfl tyE_S_impl_Range rfl <| MV rfl rfl <| ND <| BK <| ?_
  refine gw_loopC (α := Nat) (fun z_ => z_ ≤ l.length ∧ isRanges l = rangesFrom (prevOf l z_) (l.drop z_)) (fun z_ => l.length - z_) (fun e z_ => (7, .int .i64 (z_ : Int)) :: e) 0 [(0, _), (5, _), (6, _)] (Sub.consE rfl rfl (Sub.cons (i := 0) rfl (Sub.cons (i := 5) rfl (Sub.cons (i := 6) rfl (Sub.nil _))))) ?_ ?_
  · exact ⟨Nat.zero_le _, rfl⟩
  · rintro i hI1 ih1
    try dsimp only
    obtain ⟨hle, hI⟩ := hI1
    refine SQ <| RG <| rw_lss rfl rfl rfl <| ND <| SQ <| ?_
    refine gw_cond rfl (fun h1 => ?_) (fun h1 => ?_)
    · have hi2 := lt_of_dec h1
      obtain ⟨x3, hx3⟩ := get_of_lt hi2
      have hd3 := drop_cons hx3
      refine SK <| SQ <| BK <| SQ <| RG <| MV rfl rfl <| ?_
      have hq4 := hA.plain hx3
      refine rw_indexAddr (i) rfl tyE_S_impl_Range rfl rfl rfl (hA.some hi2) hi2 <| rw_loadX_s [_, _] rfl tyS_impl_Range rfl rfl (fun w hs => hq4.lds0 (n := 2) hs rfl) <| AL rfl tyZ_impl_Range <| fun b1 => AS rfl rfl <| ST (i := 0) [_, _] [_, _] tyS_impl_Range.sz rfl rfl rfl rfl rfl rfl rfl rfl <| ND <| SQ <| gw_draw' [(0, .det), (1, .det), (2, .det), (3, .det), (4, .det), (5, .det), (6, .det), (7, .det), (8, .det), (9, .det), (10, .det), (11, .det), (12, .det), (13, .det), (14, .det)] [15, 16, 17] mixed rfl (free_det (free_det (free_det (free_det (free_det (free_det (free_det (free_det (free_det (free_det (free_det (free_det (free_det (free_det (free_det free_nil))))))))))))))) (ts := [_, _, _]) rfl <| ?_
      refine DT rfl rfl (fun K hk => LS (i := 0) [_, _] rfl tyS_impl_Range rfl rfl rfl rfl hk) <| DT rfl rfl (fun K hk => CV1 rfl fun_impl_isRange rfl (fun w hs => impl_isRange _ w) hk) <| DT rfl rfl (fun K hk => NT rfl rfl hk) <| DT rfl rfl (fun K hk => MV rfl rfl hk) <| ?_
      refine dw_case (i := 15) rfl (fun h2 => ?_) (fun h2 => ?_)
      · replace h2 := of_not_T h2
        refine DT rfl rfl (fun K hk => OF rfl rfl (not_F h2) rfl hk) <| DT rfl rfl (fun K hk => OF rfl rfl (not_F h2) rfl hk) <| DT rfl rfl (fun K hk => OF rfl rfl (not_F h2) rfl hk) <| DT rfl rfl (fun K hk => OU rfl rfl rfl hk) <| DT rfl rfl (fun K hk => OU rfl rfl rfl hk) <| DT rfl rfl (fun K hk => OU rfl rfl rfl hk) <| DT rfl rfl (fun K hk => OU rfl rfl rfl hk) <| DT rfl rfl (fun K hk => OU rfl rfl rfl hk) <| DT rfl rfl (fun K hk => OU rfl rfl rfl hk) <| DT rfl rfl (fun K hk => OU rfl rfl rfl hk) <| ?_
        refine DT rfl rfl (fun K hk => OU rfl rfl rfl hk) <| dw_nil <| OU rfl rfl rfl <| OF rfl rfl (not_F h2) rfl <| PT rfl rfl (not_F h2) rfl <| ND <| CT rfl rfl <| SQ <| RG <| AS rfl rfl <| ND <| ret_cv Try.func166 (res1 Try.func166 rfl (rv_tmp rfl)) <| ?_
        rw [hI, hd3]; simp [rangesFrom, h2]
      · replace h2 := of_not_F h2
        refine DT rfl rfl (fun K hk => ON rfl rfl (not_T h2) (MV rfl rfl hk)) <| DT rfl rfl (fun K hk => ON rfl rfl (not_T h2) (rw_gtr rfl rfl rfl hk)) <| DT rfl rfl (fun K hk => ON rfl rfl (not_T h2) (MV rfl rfl hk)) <| ?_
        refine dw_case (i := 18) rfl (fun h3 => ?_) (fun h3 => ?_)
        · have hp5 := pos_of h3
          refine DT rfl rfl (fun K hk => ON rfl rfl h3 (FA rfl tyF_impl_Range_0 rfl hk)) <| DT rfl rfl (fun K hk => ON rfl rfl h3 (LD (i := 0) rfl tyP_int rfl rfl rfl hk)) <| DT rfl rfl (fun K hk => ON rfl rfl h3 (MV rfl rfl hk)) <| DT rfl rfl (fun K hk => ON rfl rfl h3 (MV rfl rfl hk)) <| DT rfl rfl (fun K hk => ON rfl rfl h3 (rw_sub rfl rfl rfl hk)) <| ?_
          have hi6 : i - 1 < l.length := by omega
          obtain ⟨x7, hx7⟩ := get_of_lt hi6
          have hd7 := drop_cons hx7
          have hq8 := hA.plain hx7
          refine DT rfl rfl (fun K hk => ON rfl rfl h3 (rw_indexAddr (i - 1) rfl tyE_S_impl_Range rfl rfl (pred_of h3 (by omega)) (hA.some hi6) hi6 hk)) <| DT rfl rfl (fun K hk => ON rfl rfl h3 (FX rfl tyF_impl_Range_1 rfl hk)) <| DT rfl rfl (fun K hk => ON rfl rfl h3 (rw_loadX _ rfl tyP_int rfl (fun w hs => hq8.ld hs rfl) hk)) <| dw_nil <| ON rfl rfl h3 <| rw_leq rfl rfl rfl <| ON rfl rfl (not_T h2) <| PT rfl rfl h3 rfl <| PF rfl rfl (not_T h2) rfl <| ND <| ?_
          refine gw_cond rfl (fun h4 => ?_) (fun h4 => ?_)
          · refine SQ <| RG <| AS rfl rfl <| ND <| ret_cv Try.func166 (res1 Try.func166 rfl (rv_tmp rfl)) <| ?_
            rw [hI, hd3]; simp [rangesFrom, h2, h4, prevOf_pos hp5 hx7]
          · refine SK <| IB <| RG <| rw_add rfl rfl rfl <| MV rfl rfl <| ND <| gw_dropN 1 <| ?_
            refine gw_sub (Sub.consE (i := 7) rfl (int_succ (by omega)) (Sub.cons (i := 0) rfl (Sub.cons (i := 5) rfl (Sub.cons (i := 6) rfl (Sub.nil _))))) (ih1 (i + 1) ?_ ?_)
            · exact ⟨by omega, by rw [hI, hd3, prevOf_succ, hx3]; simp [rangesFrom, h2, h4, prevOf_pos hp5 hx7]⟩
            · show l.length - (i + 1) < l.length - i; omega
        · have hz9 := zero_of h3
          refine DT rfl rfl (fun K hk => OF rfl rfl h3 rfl hk) <| DT rfl rfl (fun K hk => OF rfl rfl h3 rfl hk) <| DT rfl rfl (fun K hk => OF rfl rfl h3 rfl hk) <| DT rfl rfl (fun K hk => OF rfl rfl h3 rfl hk) <| DT rfl rfl (fun K hk => OF rfl rfl h3 rfl hk) <| DT rfl rfl (fun K hk => OF rfl rfl h3 rfl hk) <| DT rfl rfl (fun K hk => OF rfl rfl h3 rfl hk) <| DT rfl rfl (fun K hk => OF rfl rfl h3 rfl hk) <| dw_nil <| OF rfl rfl h3 rfl <| ON rfl rfl (not_T h2) <| PF rfl rfl h3 rfl <| PF rfl rfl (not_T h2) rfl <| ?_
          refine ND <| CF rfl rfl <| SK <| IB <| RG <| rw_add rfl rfl rfl <| MV rfl rfl <| ND <| gw_dropN 1 <| ?_
          refine gw_sub (Sub.consE (i := 7) rfl (int_succ (by omega)) (Sub.cons (i := 0) rfl (Sub.cons (i := 5) rfl (Sub.cons (i := 6) rfl (Sub.nil _))))) (ih1 (i + 1) ?_ ?_)
          · exact ⟨by omega, by rw [hI, hd3, prevOf_succ, hx3]; simp [rangesFrom, h2, prevOf_z (l := l) hz9]⟩
          · show l.length - (i + 1) < l.length - i; omega
    · have hn10 := nil_of_dec h1
      refine EX rfl <| SQ <| RG <| AS rfl rfl <| ND <| ret_cv Try.func166 (res1 Try.func166 rfl (rv_tmp rfl)) <| ?_
      rw [hI, hn10]; rfl

theorem impl_CountNumbers {w : World} {v : Value} {l : List Range} (hv : RdS w 2 (Pl Range.cells) v l) (hb : l.length ≤ 4194304) : CV Try.prog 215 [v] w (.int .i64 (countNumbers l)) := by
  obtain ⟨A, c, rfl, hA⟩ := hv
  refine cv_of Try.func215 rfl rfl rfl <| SQ <| RG <| AS rfl rfl <| ND <| SQ <| SQ <| RG <| MV rfl rfl <| CV1 rfl fun_impl_IsRanges rfl (fun w hs => impl_IsRanges (hA.s Pl.keeps hs) (by omega)) <| NT rfl rfl <| ND <| ?_
  refine gw_cond rfl (fun h1 => ?_) (fun h1 => ?_)
  · replace h1 := of_not_T h1
    refine SQ <| RG <| AS rfl rfl <| ND <| ret_cv Try.func215 (res1 Try.func215 rfl (rv_tmp rfl)) <| ?_
    simp [countNumbers, h1]
  · replace h1 := of_not_F h1
    refine SK <| SQ <| RG <| AS rfl rfl <| ND <| SQ <| SQ <| RG <| MV rfl rfl <| rw_len rfl tyE_S_impl_Range rfl <| MV rfl rfl <| ND <| BK <| ?_
    refine gw_loopC (α := Nat × Int) (fun z_ => z_.1 ≤ l.length ∧ countNumbers l = countFrom z_.2 (l.drop z_.1)) (fun z_ => l.length - z_.1) (fun e z_ => (11, .int .i64 (z_.1 : Int)) :: (3, .int .i64 z_.2) :: e) (0, 0) [(2, _), (9, _), (10, _)] (Sub.consE rfl rfl (Sub.consE rfl rfl (Sub.cons (i := 2) rfl (Sub.cons (i := 9) rfl (Sub.cons (i := 10) rfl (Sub.nil _)))))) ?_ ?_
    · exact ⟨Nat.zero_le _, by simp [countNumbers, h1]⟩
    · rintro ⟨i, n⟩ hI1 ih1
      dsimp only at hI1
      dsimp only
      obtain ⟨hle, hI⟩ := hI1
      refine SQ <| RG <| rw_lss rfl rfl rfl <| ND <| SQ <| ?_
      refine gw_cond rfl (fun h2 => ?_) (fun h2 => ?_)
      · have hi2 := lt_of_dec h2
        obtain ⟨x3, hx3⟩ := get_of_lt hi2
        have hd3 := drop_cons hx3
        refine SK <| SQ <| BK <| SQ <| RG <| ?_
        have hq4 := hA.plain hx3
        refine rw_indexAddr (i) rfl tyE_S_impl_Range rfl rfl rfl (hA.some hi2) hi2 <| rw_loadX_s [_, _] rfl tyS_impl_Range rfl rfl (fun w hs => hq4.lds0 (n := 2) hs rfl) <| AL rfl tyZ_impl_Range <| fun b1 => ST (i := 0) [_, _] [_, _] tyS_impl_Range.sz rfl rfl rfl rfl rfl rfl rfl rfl <| ND <| RG <| MV rfl rfl <| FA rfl tyF_impl_Range_1 rfl <| LD (i := 0) rfl tyP_int rfl rfl rfl <| FA rfl tyF_impl_Range_0 rfl <| LD (i := 0) rfl tyP_int rfl rfl rfl <| rw_sub rfl rfl rfl <| rw_add rfl rfl rfl <| AS rfl rfl <| ?_
        refine ND <| IB <| RG <| rw_add rfl rfl rfl <| MV rfl rfl <| ND <| gw_dropN 1 <| ?_
        refine gw_sub (Sub.consE (i := 11) rfl (int_succ (by omega)) (Sub.consE (i := 3) rfl rfl (Sub.cons (i := 2) rfl (Sub.cons (i := 9) rfl (Sub.cons (i := 10) rfl (Sub.nil _)))))) (ih1 (i + 1, w64 (n + w64 (x3.high - x3.low))) ?_ ?_)
        · exact ⟨by omega, by rw [hI, hd3]; simp [countFrom]⟩
        · show l.length - (i + 1) < l.length - i; omega
      · have hn5 := nil_of_dec h2
        refine EX rfl <| SQ <| RG <| MV rfl rfl <| AS rfl rfl <| ND <| ret_cv Try.func215 (res1 Try.func215 rfl (rv_tmp rfl)) <| ?_
        rw [hI, hn5]; rfl

theorem impl_copyRanges {w : World} {v : Value} {l : List Range} (hv : RdS w 2 (Pl Range.cells) v l) (hb : l.length ≤ 4194304) : CN Try.prog 164 [v] w (fun v ch => OwA 156 2 (PlO Range.cells) v l ch) := by
  obtain ⟨A, c, rfl, hA⟩ := hv
  refine cn_of Try.func164 rfl rfl rfl <| SQ <| RG <| AS rfl rfl <| ND <| SQ <| RG <| rw_slice0 rfl tyM_S_impl_Range (PlO Range.cells) <| fun v1 how1 => MV rfl rfl <| rw_appendP rfl tyM_S_impl_Range eRange (fun _ => rfl) rfl rfl how1 (fun w hs => hA.sat Pl.keeps hs) (.refl _) (by first | omega | (simp; omega)) <| fun v2 ch2 how2 => AS rfl rfl <| ND <| ?_
  refine ret_cn ch2 Try.func164 (res1 Try.func164 rfl (rv_tmp rfl)) ?_ ?_
  · exact how2
  · simp

theorem impl_AddRange {w : World} {v : Value} {l : List Range} (hv : RdS w 2 (Pl Range.cells) v l) (hb : l.length ≤ 4194304) (r : Range) : CN Try.prog 104 [v, .agg r.cells.toArray] w (fun v ch => OwS 156 2 (PlO Range.cells) v (addRange l r) ch) := by
  obtain ⟨A, c, rfl, hA⟩ := hv
  refine cn_of Try.func104 rfl rfl rfl <| SQ <| RG <| BX [_, _] rfl rfl rfl <| fun b1 => AS rfl rfl <| ND <| SQ <| SQ <| RG <| MV rfl rfl <| CV1 rfl fun_impl_IsRanges rfl (fun w hs => impl_IsRanges (hA.s Pl.keeps hs) (by omega)) <| NT rfl rfl <| MV rfl rfl <| ?_
  refine rw_case (j := 12) rfl (fun h1 => ?_) (fun h1 => ?_)
  · replace h1 := of_not_T h1
    refine OF rfl rfl (not_F h1) rfl <| OF rfl rfl (not_F h1) rfl <| OF rfl rfl (not_F h1) rfl <| PT rfl rfl (not_F h1) rfl <| ND <| CT rfl rfl <| SQ <| RG <| MV rfl rfl <| CN1 rfl fun_impl_copyRanges rfl (fun w hs => impl_copyRanges (hA.s Pl.keeps hs) (by omega)) <| fun v1 ch1 how1 => AS rfl rfl <| ND <| ?_
    refine ret_cn ch1 Try.func104 (res1 Try.func104 rfl (rv_tmp rfl)) ?_ ?_
    · have hm : addRange l r = l := by simp [addRange, h1]
      rw [hm]; exact OwA.s how1
    · simp
  · replace h1 := of_not_F h1
    refine ON rfl rfl (not_T h1) <| LS (i := 0) [_, _] rfl tyS_impl_Range rfl rfl rfl rfl <| ON rfl rfl (not_T h1) <| CV1 rfl fun_impl_isRange rfl (fun w hs => impl_isRange _ w) <| ON rfl rfl (not_T h1) <| NT rfl rfl <| PF rfl rfl (not_T h1) rfl <| ND <| ?_
    refine gw_cond rfl (fun h2 => ?_) (fun h2 => ?_)
    · replace h2 := of_not_T h2
      refine SQ <| RG <| MV rfl rfl <| CN1 rfl fun_impl_copyRanges rfl (fun w hs => impl_copyRanges (hA.s Pl.keeps hs) (by omega)) <| fun v2 ch2 how2 => AS rfl rfl <| ND <| ?_
      refine ret_cn ch2 Try.func104 (res1 Try.func104 rfl (rv_tmp rfl)) ?_ ?_
      · have hm : addRange l r = l := by simp [addRange, h1, h2]
        rw [hm]; exact OwA.s how2
      · simp
    · replace h2 := of_not_F h2
      refine SK <| SQ <| RG <| rw_slice0 rfl tyM_S_impl_Range (PlO Range.cells) <| fun v3 how3 => AS rfl rfl <| AS rfl rfl <| ND <| SQ <| SQ <| RG <| MV rfl rfl <| rw_len rfl tyE_S_impl_Range rfl <| MV rfl rfl <| ND <| BK <| ?_
      refine gw_loopX (α := Nat × Range × Bool × List Range × Value × List Ck) (fun z_ => z_.1 ≤ l.length ∧ z_.2.2.2.1.length + (bif z_.2.2.1 then 0 else 1) ≤ z_.1 + 1 ∧ OwA 156 2 (PlO Range.cells) z_.2.2.2.2.1 z_.2.2.2.1 z_.2.2.2.2.2 ∧ addRange l r = z_.2.2.2.1 ++ addGo z_.2.1 z_.2.2.1 (l.drop z_.1)) (fun z_ => l.length - z_.1) (fun e z_ => (22, .int .i64 (z_.1 : Int)) :: (6, .bool z_.2.2.1) :: (5, z_.2.2.2.2.1) :: e) (fun B z_ => B.set 0 ⟨b1, 156, z_.2.1.cells⟩) (fun F z_ => z_.2.2.2.2.2 ++ F) (0, r, false, [], v3, []) [(3, _), (4, _), (20, _), (21, _)] (Sub.consE rfl rfl (Sub.consE rfl rfl (Sub.consE rfl rfl (Sub.cons (i := 3) rfl (Sub.cons (i := 4) rfl (Sub.cons (i := 20) rfl (Sub.cons (i := 21) rfl (Sub.nil _)))))))) rfl rfl ?_ ?_
      · exact ⟨Nat.zero_le _, Nat.le_refl _, how3, by simp [addRange, h1, h2]⟩
      · rintro ⟨i, r, pl, o, v, ch⟩ hI4 ih4
        dsimp only at hI4
        dsimp only [List.set]
        obtain ⟨hle, ho, hO, hI⟩ := hI4
        refine SQ <| RG <| rw_lss rfl rfl rfl <| ND <| SQ <| ?_
        refine gw_cond rfl (fun h3 => ?_) (fun h3 => ?_)
        · have hi5 := lt_of_dec h3
          obtain ⟨x6, hx6⟩ := get_of_lt hi5
          have hd6 := drop_cons hx6
          refine SK <| SQ <| BK <| SQ <| RG <| ?_
          have hq7 := hA.plain hx6
          refine rw_indexAddr (i) rfl tyE_S_impl_Range rfl rfl rfl (hA.some hi5) hi5 <| rw_loadX_s [_, _] rfl tyS_impl_Range rfl rfl (fun w hs => hq7.lds0 (n := 2) hs rfl) <| AL rfl tyZ_impl_Range <| fun b2 => ST (i := 0) [_, _] [_, _] tyS_impl_Range.sz rfl rfl rfl rfl rfl rfl rfl rfl <| ND <| BK <| SQ <| RG <| FA rfl tyF_impl_Range_1 rfl <| LD (i := 0) rfl tyP_int rfl rfl rfl <| FA rfl tyF_impl_Range_0 rfl <| LD (i := 1) rfl tyP_int rfl rfl rfl <| rw_lss rfl rfl rfl <| AS rfl rfl <| ND <| ?_
          refine gw_cond rfl (fun h4 => ?_) (fun h4 => ?_)
          · refine RG <| MV rfl rfl <| LS (i := 0) [_, _] rfl tyS_impl_Range rfl rfl rfl rfl <| rw_slice (xs := [(0, _)]) [_, _] rfl tyM_S_impl_Range rfl rfl rfl rfl <| fun b3 => rw_append1 (i := 0) (a := x6) rfl tyM_S_impl_Range eRange rfl rfl rfl hO ⟨rfl, rfl⟩ (.refl _) (by simp [] at ho ⊢; omega) <| fun v8 ch8 how8 => AS rfl rfl <| ND <| IB <| IB <| RG <| rw_add rfl rfl rfl <| MV rfl rfl <| ND <| ?_
            refine gw_dropN 2 <| ?_
            refine gw_sub (Sub.consE (i := 22) rfl (int_succ (by omega)) (Sub.consE (i := 6) rfl rfl (Sub.consE (i := 5) rfl rfl (Sub.cons (i := 3) rfl (Sub.cons (i := 4) rfl (Sub.cons (i := 20) rfl (Sub.cons (i := 21) rfl (Sub.nil _)))))))) (ih4 (i + 1, r, pl, (o ++ [x6]), v8, ch8) ?_ ?_)
            · refine ⟨by omega, ?_, how8, ?_⟩
              · simp [] at ho ⊢; omega
              · rw [hI, hd6]; simp [addGo, h4]
            · show l.length - (i + 1) < l.length - i; omega
          · refine SQ <| RG <| FA rfl tyF_impl_Range_0 rfl <| LD (i := 0) rfl tyP_int rfl rfl rfl <| FA rfl tyF_impl_Range_1 rfl <| LD (i := 1) rfl tyP_int rfl rfl rfl <| rw_gtr rfl rfl rfl <| AS rfl rfl <| ND <| ?_
            refine gw_cond rfl (fun h5 => ?_) (fun h5 => ?_)
            · refine SQ <| SQ <| RG <| MV rfl rfl <| NT rfl rfl <| ND <| ?_
              refine gw_cond rfl (fun h6 => ?_) (fun h6 => ?_)
              · replace h6 := of_not_T h6
                refine SQ <| RG <| MV rfl rfl <| LS (i := 1) [_, _] rfl tyS_impl_Range rfl rfl rfl rfl <| rw_slice (xs := [(0, _)]) [_, _] rfl tyM_S_impl_Range rfl rfl rfl rfl <| fun b4 => rw_append1 (i := 0) (a := r) rfl tyM_S_impl_Range eRange rfl rfl rfl hO ⟨rfl, rfl⟩ (.refl _) (by simp [h6] at ho ⊢; omega) <| fun v9 ch9 how9 => AS rfl rfl <| ND <| RG <| AS rfl rfl <| ND <| RG <| MV rfl rfl <| LS (i := 1) [_, _] rfl tyS_impl_Range rfl rfl rfl rfl <| rw_slice (xs := [(0, _)]) [_, _] rfl tyM_S_impl_Range rfl rfl rfl rfl <| fun b5 => rw_append1 (i := 0) (a := x6) rfl tyM_S_impl_Range eRange rfl rfl rfl how9 ⟨rfl, rfl⟩ (.refl _) (by simp [h6] at ho ⊢; omega) <| fun v10 ch10 how10 => ?_
                refine AS rfl rfl <| ND <| IB <| IB <| RG <| rw_add rfl rfl rfl <| MV rfl rfl <| ND <| ?_
                refine gw_dropN 3 <| ?_
                refine gw_sub (Sub.consE (i := 22) rfl (int_succ (by omega)) (Sub.consE (i := 6) rfl rfl (Sub.consE (i := 5) rfl rfl (Sub.cons (i := 3) rfl (Sub.cons (i := 4) rfl (Sub.cons (i := 20) rfl (Sub.cons (i := 21) rfl (Sub.nil _)))))))) (ih4 (i + 1, r, true, (o ++ [r] ++ [x6]), v10, ch10) ?_ ?_)
                · refine ⟨by omega, ?_, how10, ?_⟩
                  · simp [h6] at ho ⊢; omega
                  · rw [hI, hd6]; simp [addGo, h4, h5, h6]
                · show l.length - (i + 1) < l.length - i; omega
              · replace h6 := of_not_F h6
                refine SK <| RG <| MV rfl rfl <| LS (i := 0) [_, _] rfl tyS_impl_Range rfl rfl rfl rfl <| rw_slice (xs := [(0, _)]) [_, _] rfl tyM_S_impl_Range rfl rfl rfl rfl <| fun b6 => rw_append1 (i := 0) (a := x6) rfl tyM_S_impl_Range eRange rfl rfl rfl hO ⟨rfl, rfl⟩ (.refl _) (by simp [h6] at ho ⊢; omega) <| fun v11 ch11 how11 => AS rfl rfl <| ND <| IB <| IB <| RG <| rw_add rfl rfl rfl <| MV rfl rfl <| ND <| ?_
                refine gw_dropN 2 <| ?_
                refine gw_sub (Sub.consE (i := 22) rfl (int_succ (by omega)) (Sub.consE (i := 6) rfl rfl (Sub.consE (i := 5) rfl rfl (Sub.cons (i := 3) rfl (Sub.cons (i := 4) rfl (Sub.cons (i := 20) rfl (Sub.cons (i := 21) rfl (Sub.nil _)))))))) (ih4 (i + 1, r, pl, (o ++ [x6]), v11, ch11) ?_ ?_)
                · refine ⟨by omega, ?_, how11, ?_⟩
                  · simp [h6] at ho ⊢; omega
                  · rw [hI, hd6]; simp [addGo, h4, h5, h6]
                · show l.length - (i + 1) < l.length - i; omega
            · refine RG <| FA rfl tyF_impl_Range_0 rfl <| LD (i := 1) rfl tyP_int rfl rfl rfl <| FA rfl tyF_impl_Range_0 rfl <| LD (i := 0) rfl tyP_int rfl rfl rfl <| rw_min rfl rfl rfl <| FA rfl tyF_impl_Range_1 rfl <| LD (i := 1) rfl tyP_int rfl rfl rfl <| FA rfl tyF_impl_Range_1 rfl <| LD (i := 0) rfl tyP_int rfl rfl rfl <| rw_max rfl rfl rfl <| rw_build [_, _] rfl tyB_impl_Range tyZ_impl_Range rfl rfl <| ST (i := 1) [_, _] [_, _] tyS_impl_Range.sz rfl rfl rfl rfl rfl rfl rfl rfl <| ND <| ?_
              refine IB <| IB <| RG <| rw_add rfl rfl rfl <| MV rfl rfl <| ND <| ?_
              refine gw_dropN 1 <| ?_
              refine gw_sub (Sub.consE (i := 22) rfl (int_succ (by omega)) (Sub.consE (i := 6) rfl rfl (Sub.consE (i := 5) rfl rfl (Sub.cons (i := 3) rfl (Sub.cons (i := 4) rfl (Sub.cons (i := 20) rfl (Sub.cons (i := 21) rfl (Sub.nil _)))))))) (ih4 (i + 1, ⟨min r.low x6.low, max r.high x6.high⟩, pl, o, v, ch) ?_ ?_)
              · refine ⟨by omega, ?_, hO, ?_⟩
                · simp [] at ho ⊢; omega
                · rw [hI, hd6]; simp [addGo, h4, h5]
              · show l.length - (i + 1) < l.length - i; omega
        · have hn12 := nil_of_dec h3
          refine EX rfl <| SQ <| SQ <| RG <| MV rfl rfl <| NT rfl rfl <| ND <| ?_
          refine gw_cond rfl (fun h7 => ?_) (fun h7 => ?_)
          · replace h7 := of_not_T h7
            refine RG <| MV rfl rfl <| LS (i := 0) [_, _] rfl tyS_impl_Range rfl rfl rfl rfl <| rw_slice (xs := [(0, _)]) [_, _] rfl tyM_S_impl_Range rfl rfl rfl rfl <| fun b7 => rw_append1 (i := 0) (a := r) rfl tyM_S_impl_Range eRange rfl rfl rfl hO ⟨rfl, rfl⟩ (.refl _) (by simp [h7] at ho ⊢; omega) <| fun v13 ch13 how13 => AS rfl rfl <| ND <| SQ <| RG <| MV rfl rfl <| AS rfl rfl <| ND <| ?_
            refine ret_cn ch13 Try.func104 (res1 Try.func104 rfl (rv_tmp rfl)) ?_ ?_
            · rw [hI, hn12]; simp only [addGo, cond_false, h7]; exact OwA.s how13
            · simp
          · replace h7 := of_not_F h7
            refine SK <| SQ <| RG <| MV rfl rfl <| AS rfl rfl <| ND <| ?_
            refine ret_cn ch Try.func104 (res1 Try.func104 rfl (rv_tmp rfl)) ?_ ?_
            · rw [hI, hn12]; simp only [addGo, cond_true, List.append_nil, h7]; exact OwA.s hO
            · simp

theorem impl_endsBehind {w : World} {v : Value} {l : List Range} (hv : RdS w 2 (Pl Range.cells) v l) (hb : l.length ≤ 4194304) (p : Int) : CV Try.prog 200 [v, .int .i64 p] w (.bool (endsBehind l p)) := by
  obtain ⟨A, c, rfl, hA⟩ := hv
  refine cv_of Try.func200 rfl rfl rfl <| SQ <| RG <| AS rfl rfl <| ND <| SQ <| RG <| MV rfl rfl <| rw_len rfl tyE_S_impl_Range rfl <| rw_gtr rfl rfl rfl <| MV rfl rfl <| ?_
  refine rw_case (j := 8) rfl (fun h1 => ?_) (fun h1 => ?_)
  · have hps1 : 0 < l.length := by simpa using h1
    refine ON rfl rfl h1 <| MV rfl rfl <| ON rfl rfl h1 <| MV rfl rfl <| ON rfl rfl h1 <| rw_len rfl tyE_S_impl_Range rfl <| ON rfl rfl h1 <| rw_sub rfl rfl rfl <| ON rfl rfl h1 <| ?_
    have hi2 : l.length - 1 < l.length := by omega
    obtain ⟨x3, hx3⟩ := get_of_lt hi2
    have hd3 := drop_cons hx3
    have hq4 := hA.plain hx3
    refine rw_indexAddr (l.length - 1) rfl tyE_S_impl_Range rfl rfl (lenpred_of (by omega) (by omega)) (hA.some hi2) hi2 <| ON rfl rfl h1 <| FX rfl tyF_impl_Range_1 rfl <| ON rfl rfl h1 <| rw_loadX _ rfl tyP_int rfl (fun w hs => hq4.ld hs rfl) <| ON rfl rfl h1 <| MV rfl rfl <| ON rfl rfl h1 <| rw_gtr rfl rfl rfl <| PT rfl rfl h1 rfl <| AS rfl rfl <| ND <| ret_cv Try.func200 (res1 Try.func200 rfl (rv_tmp rfl)) <| ?_
    simp [endsBehind, hx3]
  · have hz5 : l = [] := by simpa using h1
    refine OF rfl rfl h1 rfl <| OF rfl rfl h1 rfl <| OF rfl rfl h1 rfl <| OF rfl rfl h1 rfl <| OF rfl rfl h1 rfl <| OF rfl rfl h1 rfl <| OF rfl rfl h1 rfl <| OF rfl rfl h1 rfl <| OF rfl rfl h1 rfl <| PF rfl rfl h1 rfl <| AS rfl rfl <| ND <| ret_cv Try.func200 (res1 Try.func200 rfl (rv_tmp rfl)) <| ?_
    simp [endsBehind, hz5]

theorem impl_areWhole {w : World} {v v1 v2 : Value} {la lb lc : List Range} (hv : RdS w 2 (Pl Range.cells) v la) (hb : la.length ≤ 1048576) (hv1 : RdS w 2 (Pl Range.cells) v1 lb) (hb1 : lb.length ≤ 1048576) (hv2 : RdS w 2 (Pl Range.cells) v2 lc) (hb2 : lc.length ≤ 1048576) (e : Int) : CV Try.prog 199 [v, v1, v2, .int .i64 e] w (.bool (areWhole la lb lc e)) := by
  obtain ⟨A, c, rfl, hA⟩ := hv
  obtain ⟨A1, c1, rfl, hA1⟩ := hv1
  obtain ⟨A2, c2, rfl, hA2⟩ := hv2
  refine cv_of Try.func199 rfl rfl rfl <| SQ <| RG <| AS rfl rfl <| ND <| SQ <| SQ <| RG <| MV rfl rfl <| CV1 rfl fun_impl_CountNumbers rfl (fun w hs => impl_CountNumbers (hA.s Pl.keeps hs) (by omega)) <| MV rfl rfl <| CV1 rfl fun_impl_CountNumbers rfl (fun w hs => impl_CountNumbers (hA1.s Pl.keeps hs) (by omega)) <| rw_add rfl rfl rfl <| MV rfl rfl <| CV1 rfl fun_impl_CountNumbers rfl (fun w hs => impl_CountNumbers (hA2.s Pl.keeps hs) (by omega)) <| rw_add rfl rfl rfl <| MV rfl rfl <| ?_
  refine rw_neq rfl rfl rfl <| ND <| ?_
  refine gw_cond rfl (fun h1 => ?_) (fun h1 => ?_)
  · replace h1 := of_not_T h1
    refine SQ <| RG <| AS rfl rfl <| ND <| ret_cv Try.func199 (res1 Try.func199 rfl (rv_tmp rfl)) <| ?_
    simp [areWhole, h1]
  · replace h1 := of_not_F h1
    refine SK <| SQ <| RG <| MV rfl rfl <| CN1 rfl fun_impl_copyRanges rfl (fun w hs => impl_copyRanges (hA.s Pl.keeps hs) (by omega)) <| fun v1 ch1 how1 => AS rfl rfl <| ND <| SQ <| SQ <| RG <| MV rfl rfl <| CN1 rfl fun_impl_copyRanges rfl (fun w hs => impl_copyRanges (hA1.s Pl.keeps hs) (by omega)) <| fun v2 ch2 how2 => MV rfl rfl <| rw_appendP rfl tyM_S_impl_Range eRange (fun _ => rfl) rfl rfl how2 (fun w hs => hA2.sat Pl.keeps hs) (.refl _) (by first | omega | (simp; omega)) <| fun v3 ch3 how3 => ?_
    obtain ⟨R4, rc4, rfl, hR4, hrd4⟩ := (OwA.s how3).shape eRange
    refine rw_len rfl tyE_S_impl_Range rfl <| MV rfl rfl <| ND <| BK <| gw_FP (F' := ch1 ++ (ch3 ++ ([]))) (((((List.Perm.refl _)).append_left _).trans (pullc _ _ _)).trans ((List.Perm.refl _).append_left _)) <| ?_
    refine gw_loopX (α := Nat × Value × List Ck) (fun z_ => z_.1 ≤ (lb ++ lc).length ∧ OwS 156 2 (PlO Range.cells) z_.2.1 (addAll la ((lb ++ lc).take z_.1)) z_.2.2) (fun z_ => (lb ++ lc).length - z_.1) (fun e z_ => (29, .int .i64 (z_.1 : Int)) :: (9, z_.2.1) :: e) (fun B _ => B) (fun F z_ => z_.2.2 ++ (ch3 ++ ([]))) (0, v1, ch1) [(3, _), (8, _), (27, _), (28, _)] (Sub.consE rfl rfl (Sub.consE rfl rfl (Sub.cons (i := 3) rfl (Sub.cons (i := 8) rfl (Sub.cons (i := 27) rfl (Sub.cons (i := 28) rfl (Sub.nil _))))))) rfl rfl ?_ ?_
    · exact ⟨Nat.zero_le _, OwA.s how1⟩
    · rintro ⟨i, v, ch⟩ hI5 ih5
      dsimp only at hI5
      dsimp only
      obtain ⟨hle, hO⟩ := hI5
      have hal := addAll_len ((lb ++ lc).take i) la
      simp only [List.length_take, List.length_append] at hal hle
      refine SQ <| RG <| rw_lss rfl rfl rfl <| ND <| SQ <| ?_
      refine gw_cond rfl (fun h2 => ?_) (fun h2 => ?_)
      · have hi6 := lt_of_dec h2
        obtain ⟨x7, hx7⟩ := get_of_lt hi6
        have hd7 := drop_cons hx7
        refine SK <| SQ <| BK <| SQ <| RG <| rw_indexAddr (i) rfl tyE_S_impl_Range rfl rfl rfl (hR4 (Nat.zero_lt_of_lt hi6)) hi6 <| rw_loadX_s [_, _] rfl tyS_impl_Range rfl rfl (fun w hs => ((hrd4 _ (fun c hc => hs.at_ c (List.mem_append_right _ (List.mem_append_right _ (List.mem_append_left _ hc))))).plain hx7).cut0 (n := 2) rfl) <| AL rfl tyZ_impl_Range <| fun b1 => ST (i := 0) [_, _] [_, _] tyS_impl_Range.sz rfl rfl rfl rfl rfl rfl rfl rfl <| ND <| RG <| MV rfl rfl <| LS (i := 0) [_, _] rfl tyS_impl_Range rfl rfl rfl rfl <| CN1 rfl fun_impl_AddRange rfl (fun w hs => impl_AddRange (hO.rdH eRange hs (fun c hc => List.mem_append_right _ (List.mem_append_left _ hc))) (by omega) _) <| fun v8 ch8 how8 => ?_
        obtain ⟨R8, rc8, rfl, hR8, hrd8⟩ := how8.shape eRange
        refine AS rfl rfl <| ND <| IB <| RG <| rw_add rfl rfl rfl <| MV rfl rfl <| ND <| ?_
        refine gw_FP (F' := ch8 ++ (ch ++ (ch3 ++ ([])))) ((List.Perm.refl _).trans (((List.Perm.refl _).trans ((List.Perm.refl _).append_left _)).append_left _)) <| gw_dropF (F' := ch8 ++ (ch3 ++ ([]))) (List.Sublist.append_left (List.sublist_append_right _ _) _) <| gw_dropN 1 <| ?_
        refine gw_sub (Sub.consE (i := 29) rfl (int_succ (by omega)) (Sub.consE (i := 9) rfl rfl (Sub.cons (i := 3) rfl (Sub.cons (i := 8) rfl (Sub.cons (i := 27) rfl (Sub.cons (i := 28) rfl (Sub.nil _))))))) (ih5 (i + 1, .slice R8 (addRange (addAll la ((lb ++ lc).take i)) x7).length rc8, ch8) ?_ ?_)
        · exact ⟨by omega, by rw [addAll_take hx7]; exact how8⟩
        · show (lb ++ lc).length - (i + 1) < (lb ++ lc).length - i; omega
      · have hn9 := nil_of_dec h2
        refine EX rfl <| SQ <| RG <| MV rfl rfl <| CV1 rfl fun_impl_CountNumbers rfl (fun w hs => impl_CountNumbers (hO.rdH eRange hs (fun c hc => List.mem_append_right _ (List.mem_append_left _ hc))) (by omega)) <| MV rfl rfl <| EQ1 rfl rfl rfl <| MV rfl rfl <| ?_
        refine rw_case (j := 41) rfl (fun h3 => ?_) (fun h3 => ?_)
        · refine ON rfl rfl h3 <| MV rfl rfl <| ON rfl rfl h3 <| MV rfl rfl <| ON rfl rfl h3 <| CV1 rfl fun_impl_endsBehind rfl (fun w hs => impl_endsBehind (hO.rdH eRange hs (fun c hc => List.mem_append_right _ (List.mem_append_left _ hc))) (by omega) _) <| ON rfl rfl h3 <| NT rfl rfl <| PT rfl rfl h3 rfl <| AS rfl rfl <| ND <| ret_cv Try.func199 (res1 Try.func199 rfl (rv_tmp rfl)) <| ?_
          simp only [take_all hn9] at *
          simp [areWhole, h1, h3]
        · refine OF rfl rfl h3 rfl <| OF rfl rfl h3 rfl <| OF rfl rfl h3 rfl <| OF rfl rfl h3 rfl <| PF rfl rfl h3 rfl <| AS rfl rfl <| ND <| ret_cv Try.func199 (res1 Try.func199 rfl (rv_tmp rfl)) <| ?_
          simp only [take_all hn9] at *
          simp [areWhole, h1, h3]

theorem impl_FirstGap {w : World} {v : Value} {l : List Range} (hv : RdS w 2 (Pl Range.cells) v l) (hb : l.length ≤ 4194304) (n0 : Int) : CV Try.prog 181 [v, .int .i64 n0] w (.int .i64 (firstGap l n0)) := by
  obtain ⟨A, c, rfl, hA⟩ := hv
  refine cv_of Try.func181 rfl rfl rfl <| SQ <| RG <| AS rfl rfl <| ND <| SQ <| SQ <| RG <| MV rfl rfl <| CV1 rfl fun_impl_IsRanges rfl (fun w hs => impl_IsRanges (hA.s Pl.keeps hs) (by omega)) <| NT rfl rfl <| MV rfl rfl <| ?_
  refine rw_case (j := 10) rfl (fun h1 => ?_) (fun h1 => ?_)
  · replace h1 := of_not_T h1
    refine OF rfl rfl (not_F h1) rfl <| OF rfl rfl (not_F h1) rfl <| PT rfl rfl (not_F h1) rfl <| ND <| CT rfl rfl <| SQ <| RG <| AS rfl rfl <| ND <| ret_cv Try.func181 (res1 Try.func181 rfl (rv_tmp rfl)) <| ?_
    simp [firstGap, h1]
  · replace h1 := of_not_F h1
    refine ON rfl rfl (not_T h1) <| MV rfl rfl <| ON rfl rfl (not_T h1) <| rw_lss rfl rfl rfl <| PF rfl rfl (not_T h1) rfl <| ND <| ?_
    refine gw_cond rfl (fun h2 => ?_) (fun h2 => ?_)
    · refine SQ <| RG <| AS rfl rfl <| ND <| ret_cv Try.func181 (res1 Try.func181 rfl (rv_tmp rfl)) <| ?_
      simp [firstGap, h1, h2]
    · refine SK <| SQ <| SQ <| RG <| MV rfl rfl <| rw_len rfl tyE_S_impl_Range rfl <| MV rfl rfl <| ND <| BK <| ?_
      refine gw_loopC (α := Nat × Int) (fun z_ => z_.1 ≤ l.length ∧ firstGap l n0 = gapFrom z_.2 (l.drop z_.1)) (fun z_ => l.length - z_.1) (fun e z_ => (16, .int .i64 (z_.1 : Int)) :: (1, .int .i64 z_.2) :: e) (0, n0) [(4, _), (14, _), (15, _)] (Sub.consE rfl rfl (Sub.consE rfl rfl (Sub.cons (i := 4) rfl (Sub.cons (i := 14) rfl (Sub.cons (i := 15) rfl (Sub.nil _)))))) ?_ ?_
      · exact ⟨Nat.zero_le _, by simp [firstGap, h1, h2]⟩
      · rintro ⟨i, n⟩ hI1 ih1
        dsimp only at hI1
        dsimp only
        obtain ⟨hle, hI⟩ := hI1
        refine SQ <| RG <| rw_lss rfl rfl rfl <| ND <| SQ <| ?_
        refine gw_cond rfl (fun h3 => ?_) (fun h3 => ?_)
        · have hi2 := lt_of_dec h3
          obtain ⟨x3, hx3⟩ := get_of_lt hi2
          have hd3 := drop_cons hx3
          refine SK <| SQ <| BK <| SQ <| RG <| ?_
          have hq4 := hA.plain hx3
          refine rw_indexAddr (i) rfl tyE_S_impl_Range rfl rfl rfl (hA.some hi2) hi2 <| rw_loadX_s [_, _] rfl tyS_impl_Range rfl rfl (fun w hs => hq4.lds0 (n := 2) hs rfl) <| AL rfl tyZ_impl_Range <| fun b1 => ST (i := 0) [_, _] [_, _] tyS_impl_Range.sz rfl rfl rfl rfl rfl rfl rfl rfl <| ND <| SQ <| RG <| FA rfl tyF_impl_Range_0 rfl <| LD (i := 0) rfl tyP_int rfl rfl rfl <| MV rfl rfl <| rw_leq rfl rfl rfl <| MV rfl rfl <| ?_
          refine rw_case (j := 24) rfl (fun h4 => ?_) (fun h4 => ?_)
          · refine ON rfl rfl h4 <| MV rfl rfl <| ON rfl rfl h4 <| FA rfl tyF_impl_Range_1 rfl <| ON rfl rfl h4 <| LD (i := 0) rfl tyP_int rfl rfl rfl <| ON rfl rfl h4 <| rw_lss rfl rfl rfl <| PT rfl rfl h4 rfl <| ND <| ?_
            refine gw_cond rfl (fun h5 => ?_) (fun h5 => ?_)
            · refine RG <| FA rfl tyF_impl_Range_1 rfl <| LD (i := 0) rfl tyP_int rfl rfl rfl <| AS rfl rfl <| ND <| IB <| RG <| rw_add rfl rfl rfl <| MV rfl rfl <| ND <| gw_dropN 1 <| ?_
              refine gw_sub (Sub.consE (i := 16) rfl (int_succ (by omega)) (Sub.consE (i := 1) rfl rfl (Sub.cons (i := 4) rfl (Sub.cons (i := 14) rfl (Sub.cons (i := 15) rfl (Sub.nil _)))))) (ih1 (i + 1, x3.high) ?_ ?_)
              · exact ⟨by omega, by rw [hI, hd3]; simp [gapFrom, h4, h5]⟩
              · show l.length - (i + 1) < l.length - i; omega
            · refine SK <| IB <| RG <| rw_add rfl rfl rfl <| MV rfl rfl <| ND <| gw_dropN 1 <| ?_
              refine gw_sub (Sub.consE (i := 16) rfl (int_succ (by omega)) (Sub.consE (i := 1) rfl rfl (Sub.cons (i := 4) rfl (Sub.cons (i := 14) rfl (Sub.cons (i := 15) rfl (Sub.nil _)))))) (ih1 (i + 1, n) ?_ ?_)
              · exact ⟨by omega, by rw [hI, hd3]; simp [gapFrom, h4, h5]⟩
              · show l.length - (i + 1) < l.length - i; omega
          · refine OF rfl rfl h4 rfl <| OF rfl rfl h4 rfl <| OF rfl rfl h4 rfl <| OF rfl rfl h4 rfl <| PF rfl rfl h4 rfl <| ND <| CF rfl rfl <| SK <| IB <| RG <| rw_add rfl rfl rfl <| MV rfl rfl <| ND <| gw_dropN 1 <| ?_
            refine gw_sub (Sub.consE (i := 16) rfl (int_succ (by omega)) (Sub.consE (i := 1) rfl rfl (Sub.cons (i := 4) rfl (Sub.cons (i := 14) rfl (Sub.cons (i := 15) rfl (Sub.nil _)))))) (ih1 (i + 1, n) ?_ ?_)
            · exact ⟨by omega, by rw [hI, hd3]; simp [gapFrom, h4]⟩
            · show l.length - (i + 1) < l.length - i; omega
        · have hn5 := nil_of_dec h3
          refine EX rfl <| SQ <| RG <| MV rfl rfl <| AS rfl rfl <| ND <| ret_cv Try.func181 (res1 Try.func181 rfl (rv_tmp rfl)) <| ?_
          rw [hI, hn5]; rfl

theorem impl_following {w : World} {cs : List Value} {x : Sender} (hv : RdSender w cs x)  : CV Try.prog 116 [.agg cs.toArray] w (.int .i64 (following x)) := by
  obtain ⟨v0, v1, v2, v3, rfl, k0, k1, k2, k3⟩ := hv
  obtain ⟨A0, c0, rfl, hA0⟩ := k0
  obtain ⟨A1, c1, rfl, hA1⟩ := k1
  obtain ⟨A2, c2, rfl, hA2⟩ := k2
  obtain ⟨A3, c3, rfl, hA3⟩ := k3
  refine cv_of Try.func116 rfl rfl rfl <| SQ <| RG <| BX [_, _, _, _, _, _, _, _, _, _, _, _] rfl rfl rfl <| fun b1 => AS rfl rfl <| ND <| SQ <| BK <| SQ <| RG <| FA rfl tyF_impl_Sender_6 rfl <| LD (i := 0) rfl tyP_int rfl rfl rfl <| EQ1 rfl rfl rfl <| MV rfl rfl <| ?_
  refine rw_case (j := 7) rfl (fun h1 => ?_) (fun h1 => ?_)
  · refine ON rfl rfl h1 <| FA rfl tyF_impl_Sender_1 rfl <| ON rfl rfl h1 <| FA rfl tyF_impl_Ring_1 rfl <| ON rfl rfl h1 <| LD (i := 0) rfl tyP_int rfl rfl rfl <| ON rfl rfl h1 <| FA rfl tyF_impl_Sender_1 rfl <| ON rfl rfl h1 <| FA rfl tyF_impl_Ring_2 rfl <| ON rfl rfl h1 <| LD (i := 0) rfl tyP_int rfl rfl rfl <| ON rfl rfl h1 <| EQ1 rfl rfl rfl <| PT rfl rfl h1 rfl <| AS rfl rfl <| ND <| ?_
    refine gw_cond rfl (fun h2 => ?_) (fun h2 => ?_)
    · refine SQ <| RG <| AS rfl rfl <| ND <| ret_cv Try.func116 (res1 Try.func116 rfl (rv_tmp rfl)) <| ?_
      simp [following, h1, h2]
    · refine SQ <| RG <| FA rfl tyF_impl_Sender_6 rfl <| LD (i := 0) rfl tyP_int rfl rfl rfl <| EQ1 rfl rfl rfl <| MV rfl rfl <| ?_
      refine rw_case (j := 20) rfl (fun h3 => ?_) (fun h3 => ?_)
      · refine OF rfl rfl h3 rfl <| OF rfl rfl h3 rfl <| OF rfl rfl h3 rfl <| PT rfl rfl h3 rfl <| MV rfl rfl <| OF rfl rfl rfl rfl <| OF rfl rfl rfl rfl <| OF rfl rfl rfl rfl <| OF rfl rfl rfl rfl <| OU rfl rfl rfl <| OU rfl rfl rfl <| OU rfl rfl rfl <| OF rfl rfl rfl rfl <| PT rfl rfl rfl rfl <| AS rfl rfl <| ND <| CT rfl rfl <| SQ <| RG <| AS rfl rfl <| ND <| ret_cv Try.func116 (res1 Try.func116 rfl (rv_tmp rfl)) <| ?_
        simp [following, h1, h2, h3]
      · refine ON rfl rfl h3 <| FA rfl tyF_impl_Sender_6 rfl <| ON rfl rfl h3 <| LD (i := 0) rfl tyP_int rfl rfl rfl <| ON rfl rfl h3 <| EQ1 rfl rfl rfl <| PF rfl rfl h3 rfl <| MV rfl rfl <| ?_
        refine rw_case (j := 25) rfl (fun h4 => ?_) (fun h4 => ?_)
        · refine OF rfl rfl h4 rfl <| OF rfl rfl h4 rfl <| OF rfl rfl h4 rfl <| OF rfl rfl h4 rfl <| OU rfl rfl rfl <| OU rfl rfl rfl <| OU rfl rfl rfl <| OF rfl rfl h4 rfl <| PT rfl rfl h4 rfl <| AS rfl rfl <| ND <| CT rfl rfl <| SQ <| RG <| AS rfl rfl <| ND <| ret_cv Try.func116 (res1 Try.func116 rfl (rv_tmp rfl)) <| ?_
          simp [following, h1, h2, h3]
        · refine ON rfl rfl h4 <| FA rfl tyF_impl_Sender_6 rfl <| ON rfl rfl h4 <| LD (i := 0) rfl tyP_int rfl rfl rfl <| ON rfl rfl h4 <| EQ1 rfl rfl rfl <| ON rfl rfl h4 <| MV rfl rfl <| ?_
          refine rw_case (j := 29) rfl (fun h5 => ?_) (fun h5 => ?_)
          · refine ON rfl rfl h5 <| FA rfl tyF_impl_Sender_0 rfl <| ON rfl rfl h5 <| LD (i := 0) rfl tyP_int rfl rfl rfl <| ON rfl rfl h5 <| EQ1 rfl rfl rfl <| ON rfl rfl h4 <| PT rfl rfl h5 rfl <| PF rfl rfl h4 rfl <| AS rfl rfl <| ND <| ?_
            refine gw_cond rfl (fun h6 => ?_) (fun h6 => ?_)
            · refine SQ <| RG <| AS rfl rfl <| ND <| ret_cv Try.func116 (res1 Try.func116 rfl (rv_tmp rfl)) <| ?_
              simp [following, h1, h2, h3, h5, h6]
            · refine SQ <| RG <| FA rfl tyF_impl_Sender_7 rfl <| LD (i := 0) rfl tyP_int rfl rfl rfl <| rw_gtr rfl rfl rfl <| MV rfl rfl <| ?_
              refine rw_case (j := 39) rfl (fun h7 => ?_) (fun h7 => ?_)
              · refine OF rfl rfl h7 rfl <| OF rfl rfl h7 rfl <| OF rfl rfl h7 rfl <| OF rfl rfl h7 rfl <| OU rfl rfl rfl <| OU rfl rfl rfl <| OU rfl rfl rfl <| OF rfl rfl h7 rfl <| PT rfl rfl h7 rfl <| AS rfl rfl <| ND <| CT rfl rfl <| SQ <| RG <| AS rfl rfl <| ND <| ret_cv Try.func116 (res1 Try.func116 rfl (rv_tmp rfl)) <| ?_
                simp_all []
              · refine ON rfl rfl h7 <| FA rfl tyF_impl_Sender_6 rfl <| ON rfl rfl h7 <| LD (i := 0) rfl tyP_int rfl rfl rfl <| ON rfl rfl h7 <| EQ1 rfl rfl rfl <| ON rfl rfl h7 <| MV rfl rfl <| ?_
                refine rw_case (j := 43) rfl (fun h8 => ?_) (fun h8 => ?_)
                · refine ON rfl rfl h8 <| FA rfl tyF_impl_Sender_0 rfl <| ON rfl rfl h8 <| LD (i := 0) rfl tyP_int rfl rfl rfl <| ON rfl rfl h8 <| EQ1 rfl rfl rfl <| ON rfl rfl h7 <| PT rfl rfl h8 rfl <| PF rfl rfl h7 rfl <| AS rfl rfl <| ND <| ?_
                  refine gw_cond rfl (fun h9 => ?_) (fun h9 => ?_)
                  · refine SQ <| RG <| AS rfl rfl <| ND <| ret_cv Try.func116 (res1 Try.func116 rfl (rv_tmp rfl)) <| ?_
                    simp_all []
                  · refine SK <| IB <| SQ <| RG <| AS rfl rfl <| ND <| ret_cv Try.func116 (res1 Try.func116 rfl (rv_tmp rfl)) <| ?_
                    simp_all []
                · refine OF rfl rfl h8 rfl <| OF rfl rfl h8 rfl <| OF rfl rfl h8 rfl <| ON rfl rfl h7 <| PF rfl rfl h8 rfl <| PF rfl rfl h7 rfl <| AS rfl rfl <| ND <| CF rfl rfl <| SK <| IB <| SQ <| RG <| AS rfl rfl <| ND <| ret_cv Try.func116 (res1 Try.func116 rfl (rv_tmp rfl)) <| ?_
                  simp_all []
          · refine OF rfl rfl h5 rfl <| OF rfl rfl h5 rfl <| OF rfl rfl h5 rfl <| ON rfl rfl h4 <| PF rfl rfl h5 rfl <| PF rfl rfl h4 rfl <| AS rfl rfl <| ND <| CF rfl rfl <| SQ <| RG <| FA rfl tyF_impl_Sender_7 rfl <| LD (i := 0) rfl tyP_int rfl rfl rfl <| rw_gtr rfl rfl rfl <| MV rfl rfl <| ?_
            refine rw_case (j := 39) rfl (fun h10 => ?_) (fun h10 => ?_)
            · refine OF rfl rfl h10 rfl <| OF rfl rfl h10 rfl <| OF rfl rfl h10 rfl <| OF rfl rfl h10 rfl <| OU rfl rfl rfl <| OU rfl rfl rfl <| OU rfl rfl rfl <| OF rfl rfl h10 rfl <| PT rfl rfl h10 rfl <| AS rfl rfl <| ND <| CT rfl rfl <| SQ <| RG <| AS rfl rfl <| ND <| ret_cv Try.func116 (res1 Try.func116 rfl (rv_tmp rfl)) <| ?_
              simp_all []
            · refine ON rfl rfl h10 <| FA rfl tyF_impl_Sender_6 rfl <| ON rfl rfl h10 <| LD (i := 0) rfl tyP_int rfl rfl rfl <| ON rfl rfl h10 <| EQ1 rfl rfl rfl <| ON rfl rfl h10 <| MV rfl rfl <| ?_
              refine rw_case (j := 43) rfl (fun h11 => ?_) (fun h11 => ?_)
              · refine ON rfl rfl h11 <| FA rfl tyF_impl_Sender_0 rfl <| ON rfl rfl h11 <| LD (i := 0) rfl tyP_int rfl rfl rfl <| ON rfl rfl h11 <| EQ1 rfl rfl rfl <| ON rfl rfl h10 <| PT rfl rfl h11 rfl <| PF rfl rfl h10 rfl <| AS rfl rfl <| ND <| ?_
                refine gw_cond rfl (fun h12 => ?_) (fun h12 => ?_)
                · refine SQ <| RG <| AS rfl rfl <| ND <| ret_cv Try.func116 (res1 Try.func116 rfl (rv_tmp rfl)) <| ?_
                  simp_all []
                · refine SK <| IB <| SQ <| RG <| AS rfl rfl <| ND <| ret_cv Try.func116 (res1 Try.func116 rfl (rv_tmp rfl)) <| ?_
                  simp_all []
              · refine OF rfl rfl h11 rfl <| OF rfl rfl h11 rfl <| OF rfl rfl h11 rfl <| ON rfl rfl h10 <| PF rfl rfl h11 rfl <| PF rfl rfl h10 rfl <| AS rfl rfl <| ND <| CF rfl rfl <| SK <| IB <| SQ <| RG <| AS rfl rfl <| ND <| ret_cv Try.func116 (res1 Try.func116 rfl (rv_tmp rfl)) <| ?_
                simp_all []
  · refine OF rfl rfl h1 rfl <| OF rfl rfl h1 rfl <| OF rfl rfl h1 rfl <| OF rfl rfl h1 rfl <| OF rfl rfl h1 rfl <| OF rfl rfl h1 rfl <| OF rfl rfl h1 rfl <| PF rfl rfl h1 rfl <| AS rfl rfl <| ND <| CF rfl rfl <| SQ <| RG <| FA rfl tyF_impl_Sender_6 rfl <| LD (i := 0) rfl tyP_int rfl rfl rfl <| EQ1 rfl rfl rfl <| MV rfl rfl <| ?_
    refine rw_case (j := 20) rfl (fun h13 => ?_) (fun h13 => ?_)
    · refine OF rfl rfl h13 rfl <| OF rfl rfl h13 rfl <| OF rfl rfl h13 rfl <| PT rfl rfl h13 rfl <| MV rfl rfl <| OF rfl rfl rfl rfl <| OF rfl rfl rfl rfl <| OF rfl rfl rfl rfl <| OF rfl rfl rfl rfl <| OU rfl rfl rfl <| OU rfl rfl rfl <| OU rfl rfl rfl <| OF rfl rfl rfl rfl <| PT rfl rfl rfl rfl <| AS rfl rfl <| ND <| CT rfl rfl <| SQ <| RG <| AS rfl rfl <| ND <| ret_cv Try.func116 (res1 Try.func116 rfl (rv_tmp rfl)) <| ?_
      simp [following, h1, h13]
    · refine ON rfl rfl h13 <| FA rfl tyF_impl_Sender_6 rfl <| ON rfl rfl h13 <| LD (i := 0) rfl tyP_int rfl rfl rfl <| ON rfl rfl h13 <| EQ1 rfl rfl rfl <| PF rfl rfl h13 rfl <| MV rfl rfl <| ?_
      refine rw_case (j := 25) rfl (fun h14 => ?_) (fun h14 => ?_)
      · refine OF rfl rfl h14 rfl <| OF rfl rfl h14 rfl <| OF rfl rfl h14 rfl <| OF rfl rfl h14 rfl <| OU rfl rfl rfl <| OU rfl rfl rfl <| OU rfl rfl rfl <| OF rfl rfl h14 rfl <| PT rfl rfl h14 rfl <| AS rfl rfl <| ND <| CT rfl rfl <| SQ <| RG <| AS rfl rfl <| ND <| ret_cv Try.func116 (res1 Try.func116 rfl (rv_tmp rfl)) <| ?_
        simp_all []
      · refine ON rfl rfl h14 <| FA rfl tyF_impl_Sender_6 rfl <| ON rfl rfl h14 <| LD (i := 0) rfl tyP_int rfl rfl rfl <| ON rfl rfl h14 <| EQ1 rfl rfl rfl <| ON rfl rfl h14 <| MV rfl rfl <| ?_
        refine rw_case (j := 29) rfl (fun h15 => ?_) (fun h15 => ?_)
        · refine ON rfl rfl h15 <| FA rfl tyF_impl_Sender_0 rfl <| ON rfl rfl h15 <| LD (i := 0) rfl tyP_int rfl rfl rfl <| ON rfl rfl h15 <| EQ1 rfl rfl rfl <| ON rfl rfl h14 <| PT rfl rfl h15 rfl <| PF rfl rfl h14 rfl <| AS rfl rfl <| ND <| ?_
          refine gw_cond rfl (fun h16 => ?_) (fun h16 => ?_)
          · refine SQ <| RG <| AS rfl rfl <| ND <| ret_cv Try.func116 (res1 Try.func116 rfl (rv_tmp rfl)) <| ?_
            simp [following, h1, h13, h15, h16]
          · refine SQ <| RG <| FA rfl tyF_impl_Sender_7 rfl <| LD (i := 0) rfl tyP_int rfl rfl rfl <| rw_gtr rfl rfl rfl <| MV rfl rfl <| ?_
            refine rw_case (j := 39) rfl (fun h17 => ?_) (fun h17 => ?_)
            · refine OF rfl rfl h17 rfl <| OF rfl rfl h17 rfl <| OF rfl rfl h17 rfl <| OF rfl rfl h17 rfl <| OU rfl rfl rfl <| OU rfl rfl rfl <| OU rfl rfl rfl <| OF rfl rfl h17 rfl <| PT rfl rfl h17 rfl <| AS rfl rfl <| ND <| CT rfl rfl <| SQ <| RG <| AS rfl rfl <| ND <| ret_cv Try.func116 (res1 Try.func116 rfl (rv_tmp rfl)) <| ?_
              simp [following, h1, h13, h15, h16, h17]
            · refine ON rfl rfl h17 <| FA rfl tyF_impl_Sender_6 rfl <| ON rfl rfl h17 <| LD (i := 0) rfl tyP_int rfl rfl rfl <| ON rfl rfl h17 <| EQ1 rfl rfl rfl <| ON rfl rfl h17 <| MV rfl rfl <| ?_
              refine rw_case (j := 43) rfl (fun h18 => ?_) (fun h18 => ?_)
              · refine ON rfl rfl h18 <| FA rfl tyF_impl_Sender_0 rfl <| ON rfl rfl h18 <| LD (i := 0) rfl tyP_int rfl rfl rfl <| ON rfl rfl h18 <| EQ1 rfl rfl rfl <| ON rfl rfl h17 <| PT rfl rfl h18 rfl <| PF rfl rfl h17 rfl <| AS rfl rfl <| ND <| ?_
                refine gw_cond rfl (fun h19 => ?_) (fun h19 => ?_)
                · refine SQ <| RG <| AS rfl rfl <| ND <| ret_cv Try.func116 (res1 Try.func116 rfl (rv_tmp rfl)) <| ?_
                  simp [following, h1, h13, h15, h16, h17, h19]
                · refine SK <| IB <| SQ <| RG <| AS rfl rfl <| ND <| ret_cv Try.func116 (res1 Try.func116 rfl (rv_tmp rfl)) <| ?_
                  simp [following, h1, h13, h15, h16, h17, h19]
              · refine OF rfl rfl h18 rfl <| OF rfl rfl h18 rfl <| OF rfl rfl h18 rfl <| ON rfl rfl h17 <| PF rfl rfl h18 rfl <| PF rfl rfl h17 rfl <| AS rfl rfl <| ND <| CF rfl rfl <| SK <| IB <| SQ <| RG <| AS rfl rfl <| ND <| ret_cv Try.func116 (res1 Try.func116 rfl (rv_tmp rfl)) <| ?_
                simp_all []
        · refine OF rfl rfl h15 rfl <| OF rfl rfl h15 rfl <| OF rfl rfl h15 rfl <| ON rfl rfl h14 <| PF rfl rfl h15 rfl <| PF rfl rfl h14 rfl <| AS rfl rfl <| ND <| CF rfl rfl <| SQ <| RG <| FA rfl tyF_impl_Sender_7 rfl <| LD (i := 0) rfl tyP_int rfl rfl rfl <| rw_gtr rfl rfl rfl <| MV rfl rfl <| ?_
          refine rw_case (j := 39) rfl (fun h20 => ?_) (fun h20 => ?_)
          · refine OF rfl rfl h20 rfl <| OF rfl rfl h20 rfl <| OF rfl rfl h20 rfl <| OF rfl rfl h20 rfl <| OU rfl rfl rfl <| OU rfl rfl rfl <| OU rfl rfl rfl <| OF rfl rfl h20 rfl <| PT rfl rfl h20 rfl <| AS rfl rfl <| ND <| CT rfl rfl <| SQ <| RG <| AS rfl rfl <| ND <| ret_cv Try.func116 (res1 Try.func116 rfl (rv_tmp rfl)) <| ?_
            simp [following, h1, h13, h15, h20]
          · refine ON rfl rfl h20 <| FA rfl tyF_impl_Sender_6 rfl <| ON rfl rfl h20 <| LD (i := 0) rfl tyP_int rfl rfl rfl <| ON rfl rfl h20 <| EQ1 rfl rfl rfl <| ON rfl rfl h20 <| MV rfl rfl <| ?_
            refine rw_case (j := 43) rfl (fun h21 => ?_) (fun h21 => ?_)
            · refine ON rfl rfl h21 <| FA rfl tyF_impl_Sender_0 rfl <| ON rfl rfl h21 <| LD (i := 0) rfl tyP_int rfl rfl rfl <| ON rfl rfl h21 <| EQ1 rfl rfl rfl <| ON rfl rfl h20 <| PT rfl rfl h21 rfl <| PF rfl rfl h20 rfl <| AS rfl rfl <| ND <| ?_
              refine gw_cond rfl (fun h22 => ?_) (fun h22 => ?_)
              · refine SQ <| RG <| AS rfl rfl <| ND <| ret_cv Try.func116 (res1 Try.func116 rfl (rv_tmp rfl)) <| ?_
                simp_all []
              · refine SK <| IB <| SQ <| RG <| AS rfl rfl <| ND <| ret_cv Try.func116 (res1 Try.func116 rfl (rv_tmp rfl)) <| ?_
                simp [following, h1, h13, h15, h20, h22]
            · refine OF rfl rfl h21 rfl <| OF rfl rfl h21 rfl <| OF rfl rfl h21 rfl <| ON rfl rfl h20 <| PF rfl rfl h21 rfl <| PF rfl rfl h20 rfl <| AS rfl rfl <| ND <| CF rfl rfl <| SK <| IB <| SQ <| RG <| AS rfl rfl <| ND <| ret_cv Try.func116 (res1 Try.func116 rfl (rv_tmp rfl)) <| ?_
              simp [following, h1, h13, h15, h20]

set_option maxHeartbeats 2000000 in
set_option maxRecDepth 20000 in
theorem impl_IsSender {w : World} {cs : List Value} {x : Sender} (hv : RdSender w cs x) (hb : x.le 1048576) : CV Try.prog 138 [.agg cs.toArray] w (.bool (isSender x)) := by
  obtain ⟨v0, v1, v2, v3, rfl, k0, k1, k2, k3⟩ := hv
  obtain ⟨A0, c0, rfl, hA0⟩ := k0
  obtain ⟨A1, c1, rfl, hA1⟩ := k1
  obtain ⟨A2, c2, rfl, hA2⟩ := k2
  obtain ⟨A3, c3, rfl, hA3⟩ := k3
  obtain ⟨hb0, hb1, hb2, hb3⟩ := hb
  refine cv_of Try.func138 rfl rfl rfl <| SQ <| RG <| BX [_, _, _, _, _, _, _, _, _, _, _, _] rfl rfl rfl <| fun b1 => AS rfl rfl <| ND <| SQ <| SQ <| RG <| FA rfl tyF_impl_Sender_1 rfl <| LS (i := 0) [_, _, _, _] rfl tyS_impl_Ring rfl rfl rfl rfl <| CV1 rfl fun_impl_IsRing rfl (fun w hs => impl_IsRing ⟨_, rfl, (hA0.s Pl.keeps hs)⟩ (show _ ≤ _ from hb0)) <| NT rfl rfl <| MV rfl rfl <| ?_
  refine rw_case (j := 9) rfl (fun h1 => ?_) (fun h1 => ?_)
  · replace h1 := of_not_T h1
    refine OF rfl rfl (not_F h1) rfl <| OF rfl rfl (not_F h1) rfl <| OF rfl rfl (not_F h1) rfl <| OF rfl rfl (not_F h1) rfl <| PT rfl rfl (not_F h1) rfl <| MV rfl rfl <| OF rfl rfl rfl rfl <| OF rfl rfl rfl rfl <| OF rfl rfl rfl rfl <| OF rfl rfl rfl rfl <| PT rfl rfl rfl rfl <| MV rfl rfl <| OF rfl rfl rfl rfl <| OF rfl rfl rfl rfl <| OF rfl rfl rfl rfl <| OF rfl rfl rfl rfl <| PT rfl rfl rfl rfl <| MV rfl rfl <| OF rfl rfl rfl rfl <| OF rfl rfl rfl rfl <| ?_
    refine OF rfl rfl rfl rfl <| OF rfl rfl rfl rfl <| OF rfl rfl rfl rfl <| OF rfl rfl rfl rfl <| OF rfl rfl rfl rfl <| PT rfl rfl rfl rfl <| MV rfl rfl <| OF rfl rfl rfl rfl <| OF rfl rfl rfl rfl <| OF rfl rfl rfl rfl <| OF rfl rfl rfl rfl <| PT rfl rfl rfl rfl <| MV rfl rfl <| OF rfl rfl rfl rfl <| OF rfl rfl rfl rfl <| OF rfl rfl rfl rfl <| OF rfl rfl rfl rfl <| PT rfl rfl rfl rfl <| ND <| CT rfl rfl <| SQ <| RG <| AS rfl rfl <| ?_
    refine ND <| ret_cv Try.func138 (res1 Try.func138 rfl (rv_tmp rfl)) <| ?_
    simp [isSender, senderBase, senderReset, h1]
  · replace h1 := of_not_F h1
    refine ON rfl rfl (not_T h1) <| FA rfl tyF_impl_Sender_2 rfl <| ON rfl rfl (not_T h1) <| LD (i := 0) rfl tyP_S_impl_Range rfl rfl rfl <| ON rfl rfl (not_T h1) <| CV1 rfl fun_impl_IsRanges rfl (fun w hs => impl_IsRanges (hA1.s Pl.keeps hs) (by omega)) <| ON rfl rfl (not_T h1) <| NT rfl rfl <| PF rfl rfl (not_T h1) rfl <| MV rfl rfl <| ?_
    refine rw_case (j := 15) rfl (fun h2 => ?_) (fun h2 => ?_)
    · replace h2 := of_not_T h2
      refine OF rfl rfl (not_F h2) rfl <| OF rfl rfl (not_F h2) rfl <| OF rfl rfl (not_F h2) rfl <| OF rfl rfl (not_F h2) rfl <| PT rfl rfl (not_F h2) rfl <| MV rfl rfl <| OF rfl rfl rfl rfl <| OF rfl rfl rfl rfl <| OF rfl rfl rfl rfl <| OF rfl rfl rfl rfl <| PT rfl rfl rfl rfl <| MV rfl rfl <| OF rfl rfl rfl rfl <| OF rfl rfl rfl rfl <| OF rfl rfl rfl rfl <| OF rfl rfl rfl rfl <| OF rfl rfl rfl rfl <| OF rfl rfl rfl rfl <| OF rfl rfl rfl rfl <| ?_
      refine PT rfl rfl rfl rfl <| MV rfl rfl <| OF rfl rfl rfl rfl <| OF rfl rfl rfl rfl <| OF rfl rfl rfl rfl <| OF rfl rfl rfl rfl <| PT rfl rfl rfl rfl <| MV rfl rfl <| OF rfl rfl rfl rfl <| OF rfl rfl rfl rfl <| OF rfl rfl rfl rfl <| OF rfl rfl rfl rfl <| PT rfl rfl rfl rfl <| ND <| CT rfl rfl <| SQ <| RG <| AS rfl rfl <| ND <| ret_cv Try.func138 (res1 Try.func138 rfl (rv_tmp rfl)) <| ?_
      simp [isSender, senderBase, senderReset, h1, h2]
    · replace h2 := of_not_F h2
      refine ON rfl rfl (not_T h2) <| FA rfl tyF_impl_Sender_3 rfl <| ON rfl rfl (not_T h2) <| LD (i := 0) rfl tyP_S_impl_Range rfl rfl rfl <| ON rfl rfl (not_T h2) <| CV1 rfl fun_impl_IsRanges rfl (fun w hs => impl_IsRanges (hA2.s Pl.keeps hs) (by omega)) <| ON rfl rfl (not_T h2) <| NT rfl rfl <| PF rfl rfl (not_T h2) rfl <| MV rfl rfl <| ?_
      refine rw_case (j := 21) rfl (fun h3 => ?_) (fun h3 => ?_)
      · replace h3 := of_not_T h3
        refine OF rfl rfl (not_F h3) rfl <| OF rfl rfl (not_F h3) rfl <| OF rfl rfl (not_F h3) rfl <| OF rfl rfl (not_F h3) rfl <| PT rfl rfl (not_F h3) rfl <| MV rfl rfl <| OF rfl rfl rfl rfl <| OF rfl rfl rfl rfl <| OF rfl rfl rfl rfl <| OF rfl rfl rfl rfl <| OF rfl rfl rfl rfl <| OF rfl rfl rfl rfl <| OF rfl rfl rfl rfl <| PT rfl rfl rfl rfl <| MV rfl rfl <| OF rfl rfl rfl rfl <| OF rfl rfl rfl rfl <| OF rfl rfl rfl rfl <| OF rfl rfl rfl rfl <| ?_
        refine PT rfl rfl rfl rfl <| MV rfl rfl <| OF rfl rfl rfl rfl <| OF rfl rfl rfl rfl <| OF rfl rfl rfl rfl <| OF rfl rfl rfl rfl <| PT rfl rfl rfl rfl <| ND <| CT rfl rfl <| SQ <| RG <| AS rfl rfl <| ND <| ret_cv Try.func138 (res1 Try.func138 rfl (rv_tmp rfl)) <| ?_
        simp [isSender, senderBase, senderReset, h1, h2, h3]
      · replace h3 := of_not_F h3
        refine ON rfl rfl (not_T h3) <| FA rfl tyF_impl_Sender_4 rfl <| ON rfl rfl (not_T h3) <| LD (i := 0) rfl tyP_S_impl_Range rfl rfl rfl <| ON rfl rfl (not_T h3) <| CV1 rfl fun_impl_IsRanges rfl (fun w hs => impl_IsRanges (hA3.s Pl.keeps hs) (by omega)) <| ON rfl rfl (not_T h3) <| NT rfl rfl <| PF rfl rfl (not_T h3) rfl <| MV rfl rfl <| ?_
        refine rw_case (j := 27) rfl (fun h4 => ?_) (fun h4 => ?_)
        · replace h4 := of_not_T h4
          refine OF rfl rfl (not_F h4) rfl <| OF rfl rfl (not_F h4) rfl <| OF rfl rfl (not_F h4) rfl <| OF rfl rfl (not_F h4) rfl <| OF rfl rfl (not_F h4) rfl <| OF rfl rfl (not_F h4) rfl <| OF rfl rfl (not_F h4) rfl <| PT rfl rfl (not_F h4) rfl <| MV rfl rfl <| OF rfl rfl rfl rfl <| OF rfl rfl rfl rfl <| OF rfl rfl rfl rfl <| OF rfl rfl rfl rfl <| PT rfl rfl rfl rfl <| MV rfl rfl <| OF rfl rfl rfl rfl <| OF rfl rfl rfl rfl <| OF rfl rfl rfl rfl <| OF rfl rfl rfl rfl <| ?_
          refine PT rfl rfl rfl rfl <| ND <| CT rfl rfl <| SQ <| RG <| AS rfl rfl <| ND <| ret_cv Try.func138 (res1 Try.func138 rfl (rv_tmp rfl)) <| ?_
          simp [isSender, senderBase, senderReset, h1, h2, h3, h4]
        · replace h4 := of_not_F h4
          refine ON rfl rfl (not_T h4) <| FA rfl tyF_impl_Sender_7 rfl <| ON rfl rfl (not_T h4) <| LD (i := 0) rfl tyP_int rfl rfl rfl <| ON rfl rfl (not_T h4) <| FA rfl tyF_impl_Sender_1 rfl <| ON rfl rfl (not_T h4) <| FA rfl tyF_impl_Ring_2 rfl <| ON rfl rfl (not_T h4) <| LD (i := 0) rfl tyP_int rfl rfl rfl <| ON rfl rfl (not_T h4) <| CV1 rfl fun_impl_within rfl (fun w hs => impl_within _ _ _ w) <| ON rfl rfl (not_T h4) <| NT rfl rfl <| PF rfl rfl (not_T h4) rfl <| MV rfl rfl <| ?_
          refine rw_case (j := 36) rfl (fun h5 => ?_) (fun h5 => ?_)
          · replace h5 := of_not_T h5
            refine OF rfl rfl (not_F h5) rfl <| OF rfl rfl (not_F h5) rfl <| OF rfl rfl (not_F h5) rfl <| OF rfl rfl (not_F h5) rfl <| PT rfl rfl (not_F h5) rfl <| MV rfl rfl <| OF rfl rfl rfl rfl <| OF rfl rfl rfl rfl <| OF rfl rfl rfl rfl <| OF rfl rfl rfl rfl <| PT rfl rfl rfl rfl <| ND <| CT rfl rfl <| SQ <| RG <| AS rfl rfl <| ND <| ret_cv Try.func138 (res1 Try.func138 rfl (rv_tmp rfl)) <| ?_
            simp [isSender, senderBase, senderReset, h1, h2, h3, h4, h5]
          · replace h5 := of_not_F h5
            refine ON rfl rfl (not_T h5) <| FA rfl tyF_impl_Sender_8 rfl <| ON rfl rfl (not_T h5) <| LD (i := 0) rfl tyP_int rfl rfl rfl <| ON rfl rfl (not_T h5) <| CV1 rfl fun_impl_isQuic rfl (fun w hs => impl_isQuic _ w) <| ON rfl rfl (not_T h5) <| NT rfl rfl <| PF rfl rfl (not_T h5) rfl <| MV rfl rfl <| ?_
            refine rw_case (j := 42) rfl (fun h6 => ?_) (fun h6 => ?_)
            · replace h6 := of_not_T h6
              refine OF rfl rfl (not_F h6) rfl <| OF rfl rfl (not_F h6) rfl <| OF rfl rfl (not_F h6) rfl <| OF rfl rfl (not_F h6) rfl <| PT rfl rfl (not_F h6) rfl <| ND <| CT rfl rfl <| SQ <| RG <| AS rfl rfl <| ND <| ret_cv Try.func138 (res1 Try.func138 rfl (rv_tmp rfl)) <| ?_
              simp [isSender, senderBase, senderReset, h1, h2, h3, h4, h5, h6]
            · replace h6 := of_not_F h6
              refine ON rfl rfl (not_T h6) <| FA rfl tyF_impl_Sender_6 rfl <| ON rfl rfl (not_T h6) <| LD (i := 0) rfl tyP_int rfl rfl rfl <| ON rfl rfl (not_T h6) <| CV1 rfl fun_impl_within rfl (fun w hs => impl_within _ _ _ w) <| ON rfl rfl (not_T h6) <| NT rfl rfl <| PF rfl rfl (not_T h6) rfl <| ND <| ?_
              refine gw_cond rfl (fun h7 => ?_) (fun h7 => ?_)
              · replace h7 := of_not_T h7
                refine SQ <| RG <| AS rfl rfl <| ND <| ret_cv Try.func138 (res1 Try.func138 rfl (rv_tmp rfl)) <| ?_
                simp [isSender, senderBase, senderReset, h1, h2, h3, h4, h5, h6, h7]
              · replace h7 := of_not_F h7
                refine SK <| SQ <| SQ <| RG <| FA rfl tyF_impl_Sender_0 rfl <| LD (i := 0) rfl tyP_int rfl rfl rfl <| EQ1 rfl rfl rfl <| MV rfl rfl <| ?_
                refine rw_case (j := 51) rfl (fun h8 => ?_) (fun h8 => ?_)
                · refine OF rfl rfl h8 rfl <| OF rfl rfl h8 rfl <| OF rfl rfl h8 rfl <| PT rfl rfl h8 rfl <| ND <| CT rfl rfl <| SQ <| RG <| FA rfl tyF_impl_Sender_2 rfl <| LD (i := 0) rfl tyP_S_impl_Range rfl rfl rfl <| rw_len rfl tyE_S_impl_Range rfl <| EQ1 rfl rfl rfl <| MV rfl rfl <| ?_
                  refine rw_case (j := 60) rfl (fun h9 => ?_) (fun h9 => ?_)
                  · have hnil1 := nil_of_eq h9
                    refine ON rfl rfl h9 <| FA rfl tyF_impl_Sender_3 rfl <| ON rfl rfl h9 <| LD (i := 0) rfl tyP_S_impl_Range rfl rfl rfl <| ON rfl rfl h9 <| rw_len rfl tyE_S_impl_Range rfl <| ON rfl rfl h9 <| EQ1 rfl rfl rfl <| PT rfl rfl h9 rfl <| MV rfl rfl <| ?_
                    refine rw_case (j := 66) rfl (fun h10 => ?_) (fun h10 => ?_)
                    · have hnil2 := nil_of_eq h10
                      refine ON rfl rfl h10 <| FA rfl tyF_impl_Sender_4 rfl <| ON rfl rfl h10 <| LD (i := 0) rfl tyP_S_impl_Range rfl rfl rfl <| ON rfl rfl h10 <| rw_len rfl tyE_S_impl_Range rfl <| ON rfl rfl h10 <| EQ1 rfl rfl rfl <| PT rfl rfl h10 rfl <| AS rfl rfl <| ND <| SQ <| RG <| MV rfl rfl <| MV rfl rfl <| ?_
                      refine rw_case (j := 73) rfl (fun h11 => ?_) (fun h11 => ?_)
                      · have hnil3 := nil_of_eq h11
                        refine ON rfl rfl h11 <| FA rfl tyF_impl_Sender_1 rfl <| ON rfl rfl h11 <| FA rfl tyF_impl_Ring_1 rfl <| ON rfl rfl h11 <| LD (i := 0) rfl tyP_int rfl rfl rfl <| ON rfl rfl h11 <| FA rfl tyF_impl_Sender_1 rfl <| ON rfl rfl h11 <| FA rfl tyF_impl_Ring_2 rfl <| ON rfl rfl h11 <| LD (i := 0) rfl tyP_int rfl rfl rfl <| ON rfl rfl h11 <| EQ1 rfl rfl rfl <| PT rfl rfl h11 rfl <| MV rfl rfl <| ?_
                        refine rw_case (j := 82) rfl (fun h12 => ?_) (fun h12 => ?_)
                        · refine ON rfl rfl h12 <| FA rfl tyF_impl_Sender_5 rfl <| ON rfl rfl h12 <| LD (i := 0) rfl tyP_int rfl rfl rfl <| ON rfl rfl h12 <| FA rfl tyF_impl_Sender_7 rfl <| ON rfl rfl h12 <| LD (i := 0) rfl tyP_int rfl rfl rfl <| ON rfl rfl h12 <| EQ1 rfl rfl rfl <| PT rfl rfl h12 rfl <| MV rfl rfl <| ?_
                          refine rw_case (j := 89) rfl (fun h13 => ?_) (fun h13 => ?_)
                          · refine ON rfl rfl h13 <| FA rfl tyF_impl_Sender_7 rfl <| ON rfl rfl h13 <| LD (i := 0) rfl tyP_int rfl rfl rfl <| ON rfl rfl h13 <| FA rfl tyF_impl_Sender_1 rfl <| ON rfl rfl h13 <| FA rfl tyF_impl_Ring_2 rfl <| ON rfl rfl h13 <| LD (i := 0) rfl tyP_int rfl rfl rfl <| ON rfl rfl h13 <| EQ1 rfl rfl rfl <| PT rfl rfl h13 rfl <| MV rfl rfl <| ?_
                            refine rw_case (j := 97) rfl (fun h14 => ?_) (fun h14 => ?_)
                            · refine ON rfl rfl h14 <| FA rfl tyF_impl_Sender_6 rfl <| ON rfl rfl h14 <| LD (i := 0) rfl tyP_int rfl rfl rfl <| ON rfl rfl h14 <| EQ1 rfl rfl rfl <| PT rfl rfl h14 rfl <| AS rfl rfl <| ND <| ret_cv Try.func138 (res1 Try.func138 rfl (rv_tmp rfl)) <| ?_
                              simp [isSender, senderBase, senderReset, h1, h2, h3, h4, h5, h6, h7, h8, h9, h10, h11, h12, h13, h14]
                            · refine OF rfl rfl h14 rfl <| OF rfl rfl h14 rfl <| OF rfl rfl h14 rfl <| PF rfl rfl h14 rfl <| AS rfl rfl <| ND <| ret_cv Try.func138 (res1 Try.func138 rfl (rv_tmp rfl)) <| ?_
                              simp [isSender, senderBase, senderReset, h1, h2, h3, h4, h5, h6, h7, h8, h9, h10, h11, h12, h13, h14]
                          · refine OF rfl rfl h13 rfl <| OF rfl rfl h13 rfl <| OF rfl rfl h13 rfl <| OF rfl rfl h13 rfl <| OF rfl rfl h13 rfl <| OF rfl rfl h13 rfl <| PF rfl rfl h13 rfl <| MV rfl rfl <| OF rfl rfl rfl rfl <| OF rfl rfl rfl rfl <| OF rfl rfl rfl rfl <| PF rfl rfl rfl rfl <| AS rfl rfl <| ND <| ret_cv Try.func138 (res1 Try.func138 rfl (rv_tmp rfl)) <| ?_
                            simp [isSender, senderBase, senderReset, h1, h2, h3, h4, h5, h6, h7, h8, h9, h10, h11, h12, h13]
                        · refine OF rfl rfl h12 rfl <| OF rfl rfl h12 rfl <| OF rfl rfl h12 rfl <| OF rfl rfl h12 rfl <| OF rfl rfl h12 rfl <| PF rfl rfl h12 rfl <| MV rfl rfl <| OF rfl rfl rfl rfl <| OF rfl rfl rfl rfl <| OF rfl rfl rfl rfl <| OF rfl rfl rfl rfl <| OF rfl rfl rfl rfl <| OF rfl rfl rfl rfl <| PF rfl rfl rfl rfl <| MV rfl rfl <| OF rfl rfl rfl rfl <| OF rfl rfl rfl rfl <| OF rfl rfl rfl rfl <| PF rfl rfl rfl rfl <| AS rfl rfl <| ND <| ?_
                          refine ret_cv Try.func138 (res1 Try.func138 rfl (rv_tmp rfl)) <| ?_
                          simp [isSender, senderBase, senderReset, h1, h2, h3, h4, h5, h6, h7, h8, h9, h10, h11, h12]
                      · have hpos4 := pos_of_ne h11
                        refine OF rfl rfl h11 rfl <| OF rfl rfl h11 rfl <| OF rfl rfl h11 rfl <| OF rfl rfl h11 rfl <| OF rfl rfl h11 rfl <| OF rfl rfl h11 rfl <| OF rfl rfl h11 rfl <| PF rfl rfl h11 rfl <| MV rfl rfl <| OF rfl rfl rfl rfl <| OF rfl rfl rfl rfl <| OF rfl rfl rfl rfl <| OF rfl rfl rfl rfl <| OF rfl rfl rfl rfl <| PF rfl rfl rfl rfl <| MV rfl rfl <| OF rfl rfl rfl rfl <| OF rfl rfl rfl rfl <| OF rfl rfl rfl rfl <| OF rfl rfl rfl rfl <| ?_
                        refine OF rfl rfl rfl rfl <| OF rfl rfl rfl rfl <| PF rfl rfl rfl rfl <| MV rfl rfl <| OF rfl rfl rfl rfl <| OF rfl rfl rfl rfl <| OF rfl rfl rfl rfl <| PF rfl rfl rfl rfl <| AS rfl rfl <| ND <| ret_cv Try.func138 (res1 Try.func138 rfl (rv_tmp rfl)) <| ?_
                        simp [isSender, senderBase, senderReset, h1, h2, h3, h4, h5, h6, h7, h8, h9, h10, h11]
                    · have hpos5 := pos_of_ne h10
                      refine OF rfl rfl h10 rfl <| OF rfl rfl h10 rfl <| OF rfl rfl h10 rfl <| OF rfl rfl h10 rfl <| PF rfl rfl h10 rfl <| AS rfl rfl <| ND <| SQ <| RG <| MV rfl rfl <| MV rfl rfl <| OF rfl rfl rfl rfl <| OF rfl rfl rfl rfl <| OF rfl rfl rfl rfl <| OF rfl rfl rfl rfl <| OF rfl rfl rfl rfl <| OF rfl rfl rfl rfl <| OF rfl rfl rfl rfl <| PF rfl rfl rfl rfl <| MV rfl rfl <| OF rfl rfl rfl rfl <| OF rfl rfl rfl rfl <| OF rfl rfl rfl rfl <| ?_
                      refine OF rfl rfl rfl rfl <| OF rfl rfl rfl rfl <| PF rfl rfl rfl rfl <| MV rfl rfl <| OF rfl rfl rfl rfl <| OF rfl rfl rfl rfl <| OF rfl rfl rfl rfl <| OF rfl rfl rfl rfl <| OF rfl rfl rfl rfl <| OF rfl rfl rfl rfl <| PF rfl rfl rfl rfl <| MV rfl rfl <| OF rfl rfl rfl rfl <| OF rfl rfl rfl rfl <| OF rfl rfl rfl rfl <| PF rfl rfl rfl rfl <| AS rfl rfl <| ND <| ret_cv Try.func138 (res1 Try.func138 rfl (rv_tmp rfl)) <| ?_
                      simp [isSender, senderBase, senderReset, h1, h2, h3, h4, h5, h6, h7, h8, h9, h10]
                  · have hpos6 := pos_of_ne h9
                    refine OF rfl rfl h9 rfl <| OF rfl rfl h9 rfl <| OF rfl rfl h9 rfl <| OF rfl rfl h9 rfl <| PF rfl rfl h9 rfl <| MV rfl rfl <| OF rfl rfl rfl rfl <| OF rfl rfl rfl rfl <| OF rfl rfl rfl rfl <| OF rfl rfl rfl rfl <| PF rfl rfl rfl rfl <| AS rfl rfl <| ND <| SQ <| RG <| MV rfl rfl <| MV rfl rfl <| OF rfl rfl rfl rfl <| OF rfl rfl rfl rfl <| OF rfl rfl rfl rfl <| OF rfl rfl rfl rfl <| OF rfl rfl rfl rfl <| OF rfl rfl rfl rfl <| ?_
                    refine OF rfl rfl rfl rfl <| PF rfl rfl rfl rfl <| MV rfl rfl <| OF rfl rfl rfl rfl <| OF rfl rfl rfl rfl <| OF rfl rfl rfl rfl <| OF rfl rfl rfl rfl <| OF rfl rfl rfl rfl <| PF rfl rfl rfl rfl <| MV rfl rfl <| OF rfl rfl rfl rfl <| OF rfl rfl rfl rfl <| OF rfl rfl rfl rfl <| OF rfl rfl rfl rfl <| OF rfl rfl rfl rfl <| OF rfl rfl rfl rfl <| PF rfl rfl rfl rfl <| MV rfl rfl <| OF rfl rfl rfl rfl <| OF rfl rfl rfl rfl <| OF rfl rfl rfl rfl <| ?_
                    refine PF rfl rfl rfl rfl <| AS rfl rfl <| ND <| ret_cv Try.func138 (res1 Try.func138 rfl (rv_tmp rfl)) <| ?_
                    simp [isSender, senderBase, senderReset, h1, h2, h3, h4, h5, h6, h7, h8, h9]
                · refine ON rfl rfl h8 <| FA rfl tyF_impl_Sender_0 rfl <| ON rfl rfl h8 <| LD (i := 0) rfl tyP_int rfl rfl rfl <| ON rfl rfl h8 <| EQ1 rfl rfl rfl <| PF rfl rfl h8 rfl <| ND <| ?_
                  refine gw_cond rfl (fun h15 => ?_) (fun h15 => ?_)
                  · refine SQ <| RG <| FA rfl tyF_impl_Sender_2 rfl <| LD (i := 0) rfl tyP_S_impl_Range rfl rfl rfl <| rw_len rfl tyE_S_impl_Range rfl <| EQ1 rfl rfl rfl <| MV rfl rfl <| ?_
                    refine rw_case (j := 60) rfl (fun h16 => ?_) (fun h16 => ?_)
                    · have hnil7 := nil_of_eq h16
                      refine ON rfl rfl h16 <| FA rfl tyF_impl_Sender_3 rfl <| ON rfl rfl h16 <| LD (i := 0) rfl tyP_S_impl_Range rfl rfl rfl <| ON rfl rfl h16 <| rw_len rfl tyE_S_impl_Range rfl <| ON rfl rfl h16 <| EQ1 rfl rfl rfl <| PT rfl rfl h16 rfl <| MV rfl rfl <| ?_
                      refine rw_case (j := 66) rfl (fun h17 => ?_) (fun h17 => ?_)
                      · have hnil8 := nil_of_eq h17
                        refine ON rfl rfl h17 <| FA rfl tyF_impl_Sender_4 rfl <| ON rfl rfl h17 <| LD (i := 0) rfl tyP_S_impl_Range rfl rfl rfl <| ON rfl rfl h17 <| rw_len rfl tyE_S_impl_Range rfl <| ON rfl rfl h17 <| EQ1 rfl rfl rfl <| PT rfl rfl h17 rfl <| AS rfl rfl <| ND <| SQ <| RG <| MV rfl rfl <| MV rfl rfl <| ?_
                        refine rw_case (j := 73) rfl (fun h18 => ?_) (fun h18 => ?_)
                        · have hnil9 := nil_of_eq h18
                          refine ON rfl rfl h18 <| FA rfl tyF_impl_Sender_1 rfl <| ON rfl rfl h18 <| FA rfl tyF_impl_Ring_1 rfl <| ON rfl rfl h18 <| LD (i := 0) rfl tyP_int rfl rfl rfl <| ON rfl rfl h18 <| FA rfl tyF_impl_Sender_1 rfl <| ON rfl rfl h18 <| FA rfl tyF_impl_Ring_2 rfl <| ON rfl rfl h18 <| LD (i := 0) rfl tyP_int rfl rfl rfl <| ON rfl rfl h18 <| EQ1 rfl rfl rfl <| PT rfl rfl h18 rfl <| MV rfl rfl <| ?_
                          refine rw_case (j := 82) rfl (fun h19 => ?_) (fun h19 => ?_)
                          · refine ON rfl rfl h19 <| FA rfl tyF_impl_Sender_5 rfl <| ON rfl rfl h19 <| LD (i := 0) rfl tyP_int rfl rfl rfl <| ON rfl rfl h19 <| FA rfl tyF_impl_Sender_7 rfl <| ON rfl rfl h19 <| LD (i := 0) rfl tyP_int rfl rfl rfl <| ON rfl rfl h19 <| EQ1 rfl rfl rfl <| PT rfl rfl h19 rfl <| MV rfl rfl <| ?_
                            refine rw_case (j := 89) rfl (fun h20 => ?_) (fun h20 => ?_)
                            · refine ON rfl rfl h20 <| FA rfl tyF_impl_Sender_7 rfl <| ON rfl rfl h20 <| LD (i := 0) rfl tyP_int rfl rfl rfl <| ON rfl rfl h20 <| FA rfl tyF_impl_Sender_1 rfl <| ON rfl rfl h20 <| FA rfl tyF_impl_Ring_2 rfl <| ON rfl rfl h20 <| LD (i := 0) rfl tyP_int rfl rfl rfl <| ON rfl rfl h20 <| EQ1 rfl rfl rfl <| PT rfl rfl h20 rfl <| MV rfl rfl <| ?_
                              refine rw_case (j := 97) rfl (fun h21 => ?_) (fun h21 => ?_)
                              · refine ON rfl rfl h21 <| FA rfl tyF_impl_Sender_6 rfl <| ON rfl rfl h21 <| LD (i := 0) rfl tyP_int rfl rfl rfl <| ON rfl rfl h21 <| EQ1 rfl rfl rfl <| PT rfl rfl h21 rfl <| AS rfl rfl <| ND <| ret_cv Try.func138 (res1 Try.func138 rfl (rv_tmp rfl)) <| ?_
                                simp [isSender, senderBase, senderReset, h1, h2, h3, h4, h5, h6, h7, h8, h15, h16, h17, h18, h19, h20, h21]
                              · refine OF rfl rfl h21 rfl <| OF rfl rfl h21 rfl <| OF rfl rfl h21 rfl <| PF rfl rfl h21 rfl <| AS rfl rfl <| ND <| ret_cv Try.func138 (res1 Try.func138 rfl (rv_tmp rfl)) <| ?_
                                simp [isSender, senderBase, senderReset, h1, h2, h3, h4, h5, h6, h7, h8, h15, h16, h17, h18, h19, h20, h21]
                            · refine OF rfl rfl h20 rfl <| OF rfl rfl h20 rfl <| OF rfl rfl h20 rfl <| OF rfl rfl h20 rfl <| OF rfl rfl h20 rfl <| OF rfl rfl h20 rfl <| PF rfl rfl h20 rfl <| MV rfl rfl <| OF rfl rfl rfl rfl <| OF rfl rfl rfl rfl <| OF rfl rfl rfl rfl <| PF rfl rfl rfl rfl <| AS rfl rfl <| ND <| ret_cv Try.func138 (res1 Try.func138 rfl (rv_tmp rfl)) <| ?_
                              simp [isSender, senderBase, senderReset, h1, h2, h3, h4, h5, h6, h7, h8, h15, h16, h17, h18, h19, h20]
                          · refine OF rfl rfl h19 rfl <| OF rfl rfl h19 rfl <| OF rfl rfl h19 rfl <| OF rfl rfl h19 rfl <| OF rfl rfl h19 rfl <| PF rfl rfl h19 rfl <| MV rfl rfl <| OF rfl rfl rfl rfl <| OF rfl rfl rfl rfl <| OF rfl rfl rfl rfl <| OF rfl rfl rfl rfl <| OF rfl rfl rfl rfl <| OF rfl rfl rfl rfl <| PF rfl rfl rfl rfl <| MV rfl rfl <| OF rfl rfl rfl rfl <| OF rfl rfl rfl rfl <| OF rfl rfl rfl rfl <| PF rfl rfl rfl rfl <| AS rfl rfl <| ND <| ?_
                            refine ret_cv Try.func138 (res1 Try.func138 rfl (rv_tmp rfl)) <| ?_
                            simp [isSender, senderBase, senderReset, h1, h2, h3, h4, h5, h6, h7, h8, h15, h16, h17, h18, h19]
                        · have hpos10 := pos_of_ne h18
                          refine OF rfl rfl h18 rfl <| OF rfl rfl h18 rfl <| OF rfl rfl h18 rfl <| OF rfl rfl h18 rfl <| OF rfl rfl h18 rfl <| OF rfl rfl h18 rfl <| OF rfl rfl h18 rfl <| PF rfl rfl h18 rfl <| MV rfl rfl <| OF rfl rfl rfl rfl <| OF rfl rfl rfl rfl <| OF rfl rfl rfl rfl <| OF rfl rfl rfl rfl <| OF rfl rfl rfl rfl <| PF rfl rfl rfl rfl <| MV rfl rfl <| OF rfl rfl rfl rfl <| OF rfl rfl rfl rfl <| OF rfl rfl rfl rfl <| OF rfl rfl rfl rfl <| ?_
                          refine OF rfl rfl rfl rfl <| OF rfl rfl rfl rfl <| PF rfl rfl rfl rfl <| MV rfl rfl <| OF rfl rfl rfl rfl <| OF rfl rfl rfl rfl <| OF rfl rfl rfl rfl <| PF rfl rfl rfl rfl <| AS rfl rfl <| ND <| ret_cv Try.func138 (res1 Try.func138 rfl (rv_tmp rfl)) <| ?_
                          simp [isSender, senderBase, senderReset, h1, h2, h3, h4, h5, h6, h7, h8, h15, h16, h17, h18]
                      · have hpos11 := pos_of_ne h17
                        refine OF rfl rfl h17 rfl <| OF rfl rfl h17 rfl <| OF rfl rfl h17 rfl <| OF rfl rfl h17 rfl <| PF rfl rfl h17 rfl <| AS rfl rfl <| ND <| SQ <| RG <| MV rfl rfl <| MV rfl rfl <| OF rfl rfl rfl rfl <| OF rfl rfl rfl rfl <| OF rfl rfl rfl rfl <| OF rfl rfl rfl rfl <| OF rfl rfl rfl rfl <| OF rfl rfl rfl rfl <| OF rfl rfl rfl rfl <| PF rfl rfl rfl rfl <| MV rfl rfl <| OF rfl rfl rfl rfl <| OF rfl rfl rfl rfl <| OF rfl rfl rfl rfl <| ?_
                        refine OF rfl rfl rfl rfl <| OF rfl rfl rfl rfl <| PF rfl rfl rfl rfl <| MV rfl rfl <| OF rfl rfl rfl rfl <| OF rfl rfl rfl rfl <| OF rfl rfl rfl rfl <| OF rfl rfl rfl rfl <| OF rfl rfl rfl rfl <| OF rfl rfl rfl rfl <| PF rfl rfl rfl rfl <| MV rfl rfl <| OF rfl rfl rfl rfl <| OF rfl rfl rfl rfl <| OF rfl rfl rfl rfl <| PF rfl rfl rfl rfl <| AS rfl rfl <| ND <| ret_cv Try.func138 (res1 Try.func138 rfl (rv_tmp rfl)) <| ?_
                        simp [isSender, senderBase, senderReset, h1, h2, h3, h4, h5, h6, h7, h8, h15, h16, h17]
                    · have hpos12 := pos_of_ne h16
                      refine OF rfl rfl h16 rfl <| OF rfl rfl h16 rfl <| OF rfl rfl h16 rfl <| OF rfl rfl h16 rfl <| PF rfl rfl h16 rfl <| MV rfl rfl <| OF rfl rfl rfl rfl <| OF rfl rfl rfl rfl <| OF rfl rfl rfl rfl <| OF rfl rfl rfl rfl <| PF rfl rfl rfl rfl <| AS rfl rfl <| ND <| SQ <| RG <| MV rfl rfl <| MV rfl rfl <| OF rfl rfl rfl rfl <| OF rfl rfl rfl rfl <| OF rfl rfl rfl rfl <| OF rfl rfl rfl rfl <| OF rfl rfl rfl rfl <| OF rfl rfl rfl rfl <| ?_
                      refine OF rfl rfl rfl rfl <| PF rfl rfl rfl rfl <| MV rfl rfl <| OF rfl rfl rfl rfl <| OF rfl rfl rfl rfl <| OF rfl rfl rfl rfl <| OF rfl rfl rfl rfl <| OF rfl rfl rfl rfl <| PF rfl rfl rfl rfl <| MV rfl rfl <| OF rfl rfl rfl rfl <| OF rfl rfl rfl rfl <| OF rfl rfl rfl rfl <| OF rfl rfl rfl rfl <| OF rfl rfl rfl rfl <| OF rfl rfl rfl rfl <| PF rfl rfl rfl rfl <| MV rfl rfl <| OF rfl rfl rfl rfl <| OF rfl rfl rfl rfl <| OF rfl rfl rfl rfl <| ?_
                      refine PF rfl rfl rfl rfl <| AS rfl rfl <| ND <| ret_cv Try.func138 (res1 Try.func138 rfl (rv_tmp rfl)) <| ?_
                      simp [isSender, senderBase, senderReset, h1, h2, h3, h4, h5, h6, h7, h8, h15, h16]
                  · refine SK <| SQ <| RG <| FA rfl tyF_impl_Sender_1 rfl <| FA rfl tyF_impl_Ring_2 rfl <| LD (i := 0) rfl tyP_int rfl rfl rfl <| AS rfl rfl <| ND <| SQ <| SQ <| RG <| FA rfl tyF_impl_Sender_6 rfl <| LD (i := 0) rfl tyP_int rfl rfl rfl <| EQ1 rfl rfl rfl <| ND <| ?_
                    refine gw_cond rfl (fun h22 => ?_) (fun h22 => ?_)
                    · refine RG <| AS rfl rfl <| ND <| SQ <| gw_draw' [(0, .det), (1, .det), (2, .det), (3, .det), (4, .det), (5, .det), (6, .det), (7, .det), (8, .det), (9, .det), (10, .det), (11, .det), (12, .det), (13, .det), (14, .det), (15, .det), (16, .det), (17, .det), (18, .det), (19, .det), (20, .det), (21, .det), (22, .det), (23, .det), (24, .det), (25, .det), (26, .det), (27, .det), (28, .det), (29, .det), (30, .det), (31, .det), (32, .det), (33, .det), (34, .det), (35, .det), (36, .det), (37, .det), (38, .det), (39, .det), (40, .det), (41, .det), (42, .det), (43, .det), (44, .det), (45, .det), (46, .det), (47, .det), (48, .det), (49, .det), (50, .det)] [51, 52, 53] mixed rfl (free_det (free_det (free_det (free_det (free_det (free_det (free_det (free_det (free_det (free_det (free_det (free_det (free_det (free_det (free_det (free_det (free_det (free_det (free_det (free_det (free_det (free_det (free_det (free_det (free_det (free_det (free_det (free_det (free_det (free_det (free_det (free_det (free_det (free_det (free_det (free_det (free_det (free_det (free_det (free_det (free_det (free_det (free_det (free_det (free_det (free_det (free_det (free_det (free_det (free_det (free_det free_nil))))))))))))))))))))))))))))))))))))))))))))))))))) (ts := [_, _, _]) rfl <| ?_
                      refine DT rfl rfl (fun K hk => FA rfl tyF_impl_Sender_2 rfl hk) <| DT rfl rfl (fun K hk => LD (i := 0) rfl tyP_S_impl_Range rfl rfl rfl hk) <| DT rfl rfl (fun K hk => FA rfl tyF_impl_Sender_3 rfl hk) <| DT rfl rfl (fun K hk => LD (i := 0) rfl tyP_S_impl_Range rfl rfl rfl hk) <| DT rfl rfl (fun K hk => FA rfl tyF_impl_Sender_4 rfl hk) <| DT rfl rfl (fun K hk => LD (i := 0) rfl tyP_S_impl_Range rfl rfl rfl hk) <| DT rfl rfl (fun K hk => FA rfl tyF_impl_Sender_1 rfl hk) <| DT rfl rfl (fun K hk => FA rfl tyF_impl_Ring_2 rfl hk) <| ?_
                      refine DT rfl rfl (fun K hk => LD (i := 0) rfl tyP_int rfl rfl rfl hk) <| DT rfl rfl (fun K hk => CV1 rfl fun_impl_areWhole rfl (fun w hs => impl_areWhole (hA1.s Pl.keeps hs) (by omega) (hA2.s Pl.keeps hs) (by omega) (hA3.s Pl.keeps hs) (by omega) _) hk) <| DT rfl rfl (fun K hk => MV rfl rfl hk) <| ?_
                      refine dw_case (i := 118) rfl (fun h23 => ?_) (fun h23 => ?_)
                      · refine DT rfl rfl (fun K hk => ON rfl rfl h23 (FA rfl tyF_impl_Sender_4 rfl hk)) <| DT rfl rfl (fun K hk => ON rfl rfl h23 (LD (i := 0) rfl tyP_S_impl_Range rfl rfl rfl hk)) <| DT rfl rfl (fun K hk => ON rfl rfl h23 (CV1 rfl fun_impl_FirstGap rfl (fun w hs => impl_FirstGap (hA3.s Pl.keeps hs) (by omega) _) hk)) <| DT rfl rfl (fun K hk => ON rfl rfl h23 (FA rfl tyF_impl_Sender_1 rfl hk)) <| DT rfl rfl (fun K hk => ON rfl rfl h23 (FA rfl tyF_impl_Ring_1 rfl hk)) <| ?_
                        refine DT rfl rfl (fun K hk => ON rfl rfl h23 (LD (i := 0) rfl tyP_int rfl rfl rfl hk)) <| DT rfl rfl (fun K hk => ON rfl rfl h23 (EQ1 rfl rfl rfl hk)) <| DT rfl rfl (fun K hk => PT rfl rfl h23 rfl hk) <| DT rfl rfl (fun K hk => MV rfl rfl hk) <| ?_
                        refine dw_case (i := 127) rfl (fun h24 => ?_) (fun h24 => ?_)
                        · refine DT rfl rfl (fun K hk => ON rfl rfl h24 (FA rfl tyF_impl_Sender_3 rfl hk)) <| DT rfl rfl (fun K hk => ON rfl rfl h24 (LD (i := 0) rfl tyP_S_impl_Range rfl rfl rfl hk)) <| DT rfl rfl (fun K hk => ON rfl rfl h24 (FA rfl tyF_impl_Sender_7 rfl hk)) <| DT rfl rfl (fun K hk => ON rfl rfl h24 (LD (i := 0) rfl tyP_int rfl rfl rfl hk)) <| DT rfl rfl (fun K hk => ON rfl rfl h24 (CV1 rfl fun_impl_endsBehind rfl (fun w hs => impl_endsBehind (hA2.s Pl.keeps hs) (by omega) _) hk)) <| ?_
                          refine DT rfl rfl (fun K hk => ON rfl rfl h24 (NT rfl rfl hk)) <| DT rfl rfl (fun K hk => PT rfl rfl h24 rfl hk) <| DT rfl rfl (fun K hk => MV rfl rfl hk) <| ?_
                          refine dw_case (i := 135) rfl (fun h25 => ?_) (fun h25 => ?_)
                          · replace h25 := of_not_T h25
                            refine DT rfl rfl (fun K hk => ON rfl rfl (not_F h25) (FA rfl tyF_impl_Sender_4 rfl hk)) <| DT rfl rfl (fun K hk => ON rfl rfl (not_F h25) (LD (i := 0) rfl tyP_S_impl_Range rfl rfl rfl hk)) <| DT rfl rfl (fun K hk => ON rfl rfl (not_F h25) (FA rfl tyF_impl_Sender_7 rfl hk)) <| DT rfl rfl (fun K hk => ON rfl rfl (not_F h25) (LD (i := 0) rfl tyP_int rfl rfl rfl hk)) <| DT rfl rfl (fun K hk => ON rfl rfl (not_F h25) (CV1 rfl fun_impl_endsBehind rfl (fun w hs => impl_endsBehind (hA3.s Pl.keeps hs) (by omega) _) hk)) <| ?_
                            refine DT rfl rfl (fun K hk => ON rfl rfl (not_F h25) (NT rfl rfl hk)) <| DT rfl rfl (fun K hk => PT rfl rfl (not_F h25) rfl hk) <| DT rfl rfl (fun K hk => MV rfl rfl hk) <| ?_
                            refine dw_case (i := 143) rfl (fun h26 => ?_) (fun h26 => ?_)
                            · replace h26 := of_not_T h26
                              refine DT rfl rfl (fun K hk => ON rfl rfl (not_F h26) (FA rfl tyF_impl_Sender_8 rfl hk)) <| DT rfl rfl (fun K hk => ON rfl rfl (not_F h26) (LD (i := 0) rfl tyP_int rfl rfl rfl hk)) <| DT rfl rfl (fun K hk => ON rfl rfl (not_F h26) (EQ1 rfl rfl rfl hk)) <| DT rfl rfl (fun K hk => PT rfl rfl (not_F h26) rfl hk) <| DT rfl rfl (fun K hk => MV rfl rfl hk) <| ?_
                              refine dw_case (i := 148) rfl (fun h27 => ?_) (fun h27 => ?_)
                              · refine DT rfl rfl (fun K hk => ON rfl rfl h27 (FA rfl tyF_impl_Sender_5 rfl hk)) <| DT rfl rfl (fun K hk => ON rfl rfl h27 (LD (i := 0) rfl tyP_int rfl rfl rfl hk)) <| DT rfl rfl (fun K hk => ON rfl rfl h27 (MV rfl rfl hk)) <| DT rfl rfl (fun K hk => ON rfl rfl h27 (EQ1 rfl rfl rfl hk)) <| DT rfl rfl (fun K hk => PT rfl rfl h27 rfl hk) <| DT rfl rfl (fun K hk => MV rfl rfl hk) <| ?_
                                refine dw_case (i := 154) rfl (fun h28 => ?_) (fun h28 => ?_)
                                · refine DT rfl rfl (fun K hk => ON rfl rfl h28 (FA rfl tyF_impl_Sender_0 rfl hk)) <| DT rfl rfl (fun K hk => ON rfl rfl h28 (LD (i := 0) rfl tyP_int rfl rfl rfl hk)) <| DT rfl rfl (fun K hk => ON rfl rfl h28 (LS (i := 0) [_, _, _, _, _, _, _, _, _, _, _, _] rfl tyS_impl_Sender rfl rfl rfl rfl hk)) <| DT rfl rfl (fun K hk => ON rfl rfl h28 (CV1 rfl fun_impl_following rfl (fun w hs => impl_following ⟨_, _, _, _, rfl, (hA0.s Pl.keeps hs), (hA1.s Pl.keeps hs), (hA2.s Pl.keeps hs), (hA3.s Pl.keeps hs)⟩) hk)) <| ?_
                                  refine dw_nil <| ON rfl rfl h28 <| EQ1 rfl rfl rfl <| PT rfl rfl h28 rfl <| AS rfl rfl <| ND <| ret_cv Try.func138 (res1 Try.func138 rfl (rv_tmp rfl)) <| ?_
                                  simp [isSender, senderBase, senderReset, h1, h2, h3, h4, h5, h6, h7, h8, h15, h22, h23, h24, h25, h26, h27, h28]
                                · refine DT rfl rfl (fun K hk => OF rfl rfl h28 rfl hk) <| DT rfl rfl (fun K hk => OF rfl rfl h28 rfl hk) <| DT rfl rfl (fun K hk => OF rfl rfl h28 rfl hk) <| DT rfl rfl (fun K hk => OF rfl rfl h28 rfl hk) <| dw_nil <| OF rfl rfl h28 rfl <| PF rfl rfl h28 rfl <| AS rfl rfl <| ND <| ret_cv Try.func138 (res1 Try.func138 rfl (rv_tmp rfl)) <| ?_
                                  simp [isSender, senderBase, senderReset, h1, h2, h3, h4, h5, h6, h7, h8, h15, h22, h23, h24, h25, h26, h27, h28]
                              · refine DT rfl rfl (fun K hk => OF rfl rfl h27 rfl hk) <| DT rfl rfl (fun K hk => OF rfl rfl h27 rfl hk) <| DT rfl rfl (fun K hk => OF rfl rfl h27 rfl hk) <| DT rfl rfl (fun K hk => OF rfl rfl h27 rfl hk) <| DT rfl rfl (fun K hk => PF rfl rfl h27 rfl hk) <| DT rfl rfl (fun K hk => MV rfl rfl hk) <| DT rfl rfl (fun K hk => OF rfl rfl rfl rfl hk) <| DT rfl rfl (fun K hk => OF rfl rfl rfl rfl hk) <| DT rfl rfl (fun K hk => OF rfl rfl rfl rfl hk) <| DT rfl rfl (fun K hk => OF rfl rfl rfl rfl hk) <| ?_
                                refine dw_nil <| OF rfl rfl rfl rfl <| PF rfl rfl rfl rfl <| AS rfl rfl <| ND <| ret_cv Try.func138 (res1 Try.func138 rfl (rv_tmp rfl)) <| ?_
                                simp [isSender, senderBase, senderReset, h1, h2, h3, h4, h5, h6, h7, h8, h15, h22, h23, h24, h25, h26, h27]
                            · replace h26 := of_not_F h26
                              refine DT rfl rfl (fun K hk => OF rfl rfl (not_T h26) rfl hk) <| DT rfl rfl (fun K hk => OF rfl rfl (not_T h26) rfl hk) <| DT rfl rfl (fun K hk => OF rfl rfl (not_T h26) rfl hk) <| DT rfl rfl (fun K hk => PF rfl rfl (not_T h26) rfl hk) <| DT rfl rfl (fun K hk => MV rfl rfl hk) <| DT rfl rfl (fun K hk => OF rfl rfl rfl rfl hk) <| DT rfl rfl (fun K hk => OF rfl rfl rfl rfl hk) <| DT rfl rfl (fun K hk => OF rfl rfl rfl rfl hk) <| DT rfl rfl (fun K hk => OF rfl rfl rfl rfl hk) <| DT rfl rfl (fun K hk => PF rfl rfl rfl rfl hk) <| ?_
                              refine DT rfl rfl (fun K hk => MV rfl rfl hk) <| DT rfl rfl (fun K hk => OF rfl rfl rfl rfl hk) <| DT rfl rfl (fun K hk => OF rfl rfl rfl rfl hk) <| DT rfl rfl (fun K hk => OF rfl rfl rfl rfl hk) <| DT rfl rfl (fun K hk => OF rfl rfl rfl rfl hk) <| dw_nil <| OF rfl rfl rfl rfl <| PF rfl rfl rfl rfl <| AS rfl rfl <| ND <| ret_cv Try.func138 (res1 Try.func138 rfl (rv_tmp rfl)) <| ?_
                              simp [isSender, senderBase, senderReset, h1, h2, h3, h4, h5, h6, h7, h8, h15, h22, h23, h24, h25, h26]
                          · replace h25 := of_not_F h25
                            refine DT rfl rfl (fun K hk => OF rfl rfl (not_T h25) rfl hk) <| DT rfl rfl (fun K hk => OF rfl rfl (not_T h25) rfl hk) <| DT rfl rfl (fun K hk => OF rfl rfl (not_T h25) rfl hk) <| DT rfl rfl (fun K hk => OF rfl rfl (not_T h25) rfl hk) <| DT rfl rfl (fun K hk => OF rfl rfl (not_T h25) rfl hk) <| DT rfl rfl (fun K hk => OF rfl rfl (not_T h25) rfl hk) <| DT rfl rfl (fun K hk => PF rfl rfl (not_T h25) rfl hk) <| DT rfl rfl (fun K hk => MV rfl rfl hk) <| DT rfl rfl (fun K hk => OF rfl rfl rfl rfl hk) <| ?_
                            refine DT rfl rfl (fun K hk => OF rfl rfl rfl rfl hk) <| DT rfl rfl (fun K hk => OF rfl rfl rfl rfl hk) <| DT rfl rfl (fun K hk => PF rfl rfl rfl rfl hk) <| DT rfl rfl (fun K hk => MV rfl rfl hk) <| DT rfl rfl (fun K hk => OF rfl rfl rfl rfl hk) <| DT rfl rfl (fun K hk => OF rfl rfl rfl rfl hk) <| DT rfl rfl (fun K hk => OF rfl rfl rfl rfl hk) <| DT rfl rfl (fun K hk => OF rfl rfl rfl rfl hk) <| DT rfl rfl (fun K hk => PF rfl rfl rfl rfl hk) <| DT rfl rfl (fun K hk => MV rfl rfl hk) <| ?_
                            refine DT rfl rfl (fun K hk => OF rfl rfl rfl rfl hk) <| DT rfl rfl (fun K hk => OF rfl rfl rfl rfl hk) <| DT rfl rfl (fun K hk => OF rfl rfl rfl rfl hk) <| DT rfl rfl (fun K hk => OF rfl rfl rfl rfl hk) <| dw_nil <| OF rfl rfl rfl rfl <| PF rfl rfl rfl rfl <| AS rfl rfl <| ND <| ret_cv Try.func138 (res1 Try.func138 rfl (rv_tmp rfl)) <| ?_
                            simp [isSender, senderBase, senderReset, h1, h2, h3, h4, h5, h6, h7, h8, h15, h22, h23, h24, h25]
                        · refine DT rfl rfl (fun K hk => OF rfl rfl h24 rfl hk) <| DT rfl rfl (fun K hk => OF rfl rfl h24 rfl hk) <| DT rfl rfl (fun K hk => OF rfl rfl h24 rfl hk) <| DT rfl rfl (fun K hk => OF rfl rfl h24 rfl hk) <| DT rfl rfl (fun K hk => OF rfl rfl h24 rfl hk) <| DT rfl rfl (fun K hk => OF rfl rfl h24 rfl hk) <| DT rfl rfl (fun K hk => PF rfl rfl h24 rfl hk) <| DT rfl rfl (fun K hk => MV rfl rfl hk) <| DT rfl rfl (fun K hk => OF rfl rfl rfl rfl hk) <| DT rfl rfl (fun K hk => OF rfl rfl rfl rfl hk) <| ?_
                          refine DT rfl rfl (fun K hk => OF rfl rfl rfl rfl hk) <| DT rfl rfl (fun K hk => OF rfl rfl rfl rfl hk) <| DT rfl rfl (fun K hk => OF rfl rfl rfl rfl hk) <| DT rfl rfl (fun K hk => OF rfl rfl rfl rfl hk) <| DT rfl rfl (fun K hk => PF rfl rfl rfl rfl hk) <| DT rfl rfl (fun K hk => MV rfl rfl hk) <| DT rfl rfl (fun K hk => OF rfl rfl rfl rfl hk) <| DT rfl rfl (fun K hk => OF rfl rfl rfl rfl hk) <| DT rfl rfl (fun K hk => OF rfl rfl rfl rfl hk) <| DT rfl rfl (fun K hk => PF rfl rfl rfl rfl hk) <| ?_
                          refine DT rfl rfl (fun K hk => MV rfl rfl hk) <| DT rfl rfl (fun K hk => OF rfl rfl rfl rfl hk) <| DT rfl rfl (fun K hk => OF rfl rfl rfl rfl hk) <| DT rfl rfl (fun K hk => OF rfl rfl rfl rfl hk) <| DT rfl rfl (fun K hk => OF rfl rfl rfl rfl hk) <| DT rfl rfl (fun K hk => PF rfl rfl rfl rfl hk) <| DT rfl rfl (fun K hk => MV rfl rfl hk) <| DT rfl rfl (fun K hk => OF rfl rfl rfl rfl hk) <| DT rfl rfl (fun K hk => OF rfl rfl rfl rfl hk) <| DT rfl rfl (fun K hk => OF rfl rfl rfl rfl hk) <| ?_
                          refine DT rfl rfl (fun K hk => OF rfl rfl rfl rfl hk) <| dw_nil <| OF rfl rfl rfl rfl <| PF rfl rfl rfl rfl <| AS rfl rfl <| ND <| ret_cv Try.func138 (res1 Try.func138 rfl (rv_tmp rfl)) <| ?_
                          simp [isSender, senderBase, senderReset, h1, h2, h3, h4, h5, h6, h7, h8, h15, h22, h23, h24]
                      · refine DT rfl rfl (fun K hk => OF rfl rfl h23 rfl hk) <| DT rfl rfl (fun K hk => OF rfl rfl h23 rfl hk) <| DT rfl rfl (fun K hk => OF rfl rfl h23 rfl hk) <| DT rfl rfl (fun K hk => OF rfl rfl h23 rfl hk) <| DT rfl rfl (fun K hk => OF rfl rfl h23 rfl hk) <| DT rfl rfl (fun K hk => OF rfl rfl h23 rfl hk) <| DT rfl rfl (fun K hk => OF rfl rfl h23 rfl hk) <| DT rfl rfl (fun K hk => PF rfl rfl h23 rfl hk) <| DT rfl rfl (fun K hk => MV rfl rfl hk) <| DT rfl rfl (fun K hk => OF rfl rfl rfl rfl hk) <| ?_
                        refine DT rfl rfl (fun K hk => OF rfl rfl rfl rfl hk) <| DT rfl rfl (fun K hk => OF rfl rfl rfl rfl hk) <| DT rfl rfl (fun K hk => OF rfl rfl rfl rfl hk) <| DT rfl rfl (fun K hk => OF rfl rfl rfl rfl hk) <| DT rfl rfl (fun K hk => OF rfl rfl rfl rfl hk) <| DT rfl rfl (fun K hk => PF rfl rfl rfl rfl hk) <| DT rfl rfl (fun K hk => MV rfl rfl hk) <| DT rfl rfl (fun K hk => OF rfl rfl rfl rfl hk) <| DT rfl rfl (fun K hk => OF rfl rfl rfl rfl hk) <| DT rfl rfl (fun K hk => OF rfl rfl rfl rfl hk) <| ?_
                        refine DT rfl rfl (fun K hk => OF rfl rfl rfl rfl hk) <| DT rfl rfl (fun K hk => OF rfl rfl rfl rfl hk) <| DT rfl rfl (fun K hk => OF rfl rfl rfl rfl hk) <| DT rfl rfl (fun K hk => PF rfl rfl rfl rfl hk) <| DT rfl rfl (fun K hk => MV rfl rfl hk) <| DT rfl rfl (fun K hk => OF rfl rfl rfl rfl hk) <| DT rfl rfl (fun K hk => OF rfl rfl rfl rfl hk) <| DT rfl rfl (fun K hk => OF rfl rfl rfl rfl hk) <| DT rfl rfl (fun K hk => PF rfl rfl rfl rfl hk) <| DT rfl rfl (fun K hk => MV rfl rfl hk) <| ?_
                        refine DT rfl rfl (fun K hk => OF rfl rfl rfl rfl hk) <| DT rfl rfl (fun K hk => OF rfl rfl rfl rfl hk) <| DT rfl rfl (fun K hk => OF rfl rfl rfl rfl hk) <| DT rfl rfl (fun K hk => OF rfl rfl rfl rfl hk) <| DT rfl rfl (fun K hk => PF rfl rfl rfl rfl hk) <| DT rfl rfl (fun K hk => MV rfl rfl hk) <| DT rfl rfl (fun K hk => OF rfl rfl rfl rfl hk) <| DT rfl rfl (fun K hk => OF rfl rfl rfl rfl hk) <| DT rfl rfl (fun K hk => OF rfl rfl rfl rfl hk) <| DT rfl rfl (fun K hk => OF rfl rfl rfl rfl hk) <| ?_
                        refine dw_nil <| OF rfl rfl rfl rfl <| PF rfl rfl rfl rfl <| AS rfl rfl <| ND <| ret_cv Try.func138 (res1 Try.func138 rfl (rv_tmp rfl)) <| ?_
                        simp [isSender, senderBase, senderReset, h1, h2, h3, h4, h5, h6, h7, h8, h15, h22, h23]
                    · refine SK <| SQ <| gw_draw' [(0, .det), (1, .det), (2, .det), (3, .det), (4, .det), (5, .det), (6, .det), (7, .det), (8, .det), (9, .det), (10, .det), (11, .det), (12, .det), (13, .det), (14, .det), (15, .det), (16, .det), (17, .det), (18, .det), (19, .det), (20, .det), (21, .det), (22, .det), (23, .det), (24, .det), (25, .det), (26, .det), (27, .det), (28, .det), (29, .det), (30, .det), (31, .det), (32, .det), (33, .det), (34, .det), (35, .det), (36, .det), (37, .det), (38, .det), (39, .det), (40, .det), (41, .det), (42, .det), (43, .det), (44, .det), (45, .det), (46, .det), (47, .det), (48, .det), (49, .det), (50, .det)] [51, 52, 53] mixed rfl (free_det (free_det (free_det (free_det (free_det (free_det (free_det (free_det (free_det (free_det (free_det (free_det (free_det (free_det (free_det (free_det (free_det (free_det (free_det (free_det (free_det (free_det (free_det (free_det (free_det (free_det (free_det (free_det (free_det (free_det (free_det (free_det (free_det (free_det (free_det (free_det (free_det (free_det (free_det (free_det (free_det (free_det (free_det (free_det (free_det (free_det (free_det (free_det (free_det (free_det (free_det free_nil))))))))))))))))))))))))))))))))))))))))))))))))))) (ts := [_, _, _]) rfl <| ?_
                      refine DT rfl rfl (fun K hk => FA rfl tyF_impl_Sender_2 rfl hk) <| DT rfl rfl (fun K hk => LD (i := 0) rfl tyP_S_impl_Range rfl rfl rfl hk) <| DT rfl rfl (fun K hk => FA rfl tyF_impl_Sender_3 rfl hk) <| DT rfl rfl (fun K hk => LD (i := 0) rfl tyP_S_impl_Range rfl rfl rfl hk) <| DT rfl rfl (fun K hk => FA rfl tyF_impl_Sender_4 rfl hk) <| DT rfl rfl (fun K hk => LD (i := 0) rfl tyP_S_impl_Range rfl rfl rfl hk) <| DT rfl rfl (fun K hk => FA rfl tyF_impl_Sender_1 rfl hk) <| DT rfl rfl (fun K hk => FA rfl tyF_impl_Ring_2 rfl hk) <| ?_
                      refine DT rfl rfl (fun K hk => LD (i := 0) rfl tyP_int rfl rfl rfl hk) <| DT rfl rfl (fun K hk => CV1 rfl fun_impl_areWhole rfl (fun w hs => impl_areWhole (hA1.s Pl.keeps hs) (by omega) (hA2.s Pl.keeps hs) (by omega) (hA3.s Pl.keeps hs) (by omega) _) hk) <| DT rfl rfl (fun K hk => MV rfl rfl hk) <| ?_
                      refine dw_case (i := 118) rfl (fun h29 => ?_) (fun h29 => ?_)
                      · refine DT rfl rfl (fun K hk => ON rfl rfl h29 (FA rfl tyF_impl_Sender_4 rfl hk)) <| DT rfl rfl (fun K hk => ON rfl rfl h29 (LD (i := 0) rfl tyP_S_impl_Range rfl rfl rfl hk)) <| DT rfl rfl (fun K hk => ON rfl rfl h29 (CV1 rfl fun_impl_FirstGap rfl (fun w hs => impl_FirstGap (hA3.s Pl.keeps hs) (by omega) _) hk)) <| DT rfl rfl (fun K hk => ON rfl rfl h29 (FA rfl tyF_impl_Sender_1 rfl hk)) <| DT rfl rfl (fun K hk => ON rfl rfl h29 (FA rfl tyF_impl_Ring_1 rfl hk)) <| ?_
                        refine DT rfl rfl (fun K hk => ON rfl rfl h29 (LD (i := 0) rfl tyP_int rfl rfl rfl hk)) <| DT rfl rfl (fun K hk => ON rfl rfl h29 (EQ1 rfl rfl rfl hk)) <| DT rfl rfl (fun K hk => PT rfl rfl h29 rfl hk) <| DT rfl rfl (fun K hk => MV rfl rfl hk) <| ?_
                        refine dw_case (i := 127) rfl (fun h30 => ?_) (fun h30 => ?_)
                        · refine DT rfl rfl (fun K hk => ON rfl rfl h30 (FA rfl tyF_impl_Sender_3 rfl hk)) <| DT rfl rfl (fun K hk => ON rfl rfl h30 (LD (i := 0) rfl tyP_S_impl_Range rfl rfl rfl hk)) <| DT rfl rfl (fun K hk => ON rfl rfl h30 (FA rfl tyF_impl_Sender_7 rfl hk)) <| DT rfl rfl (fun K hk => ON rfl rfl h30 (LD (i := 0) rfl tyP_int rfl rfl rfl hk)) <| DT rfl rfl (fun K hk => ON rfl rfl h30 (CV1 rfl fun_impl_endsBehind rfl (fun w hs => impl_endsBehind (hA2.s Pl.keeps hs) (by omega) _) hk)) <| ?_
                          refine DT rfl rfl (fun K hk => ON rfl rfl h30 (NT rfl rfl hk)) <| DT rfl rfl (fun K hk => PT rfl rfl h30 rfl hk) <| DT rfl rfl (fun K hk => MV rfl rfl hk) <| ?_
                          refine dw_case (i := 135) rfl (fun h31 => ?_) (fun h31 => ?_)
                          · replace h31 := of_not_T h31
                            refine DT rfl rfl (fun K hk => ON rfl rfl (not_F h31) (FA rfl tyF_impl_Sender_4 rfl hk)) <| DT rfl rfl (fun K hk => ON rfl rfl (not_F h31) (LD (i := 0) rfl tyP_S_impl_Range rfl rfl rfl hk)) <| DT rfl rfl (fun K hk => ON rfl rfl (not_F h31) (FA rfl tyF_impl_Sender_7 rfl hk)) <| DT rfl rfl (fun K hk => ON rfl rfl (not_F h31) (LD (i := 0) rfl tyP_int rfl rfl rfl hk)) <| DT rfl rfl (fun K hk => ON rfl rfl (not_F h31) (CV1 rfl fun_impl_endsBehind rfl (fun w hs => impl_endsBehind (hA3.s Pl.keeps hs) (by omega) _) hk)) <| ?_
                            refine DT rfl rfl (fun K hk => ON rfl rfl (not_F h31) (NT rfl rfl hk)) <| DT rfl rfl (fun K hk => PT rfl rfl (not_F h31) rfl hk) <| DT rfl rfl (fun K hk => MV rfl rfl hk) <| ?_
                            refine dw_case (i := 143) rfl (fun h32 => ?_) (fun h32 => ?_)
                            · replace h32 := of_not_T h32
                              refine DT rfl rfl (fun K hk => ON rfl rfl (not_F h32) (FA rfl tyF_impl_Sender_8 rfl hk)) <| DT rfl rfl (fun K hk => ON rfl rfl (not_F h32) (LD (i := 0) rfl tyP_int rfl rfl rfl hk)) <| DT rfl rfl (fun K hk => ON rfl rfl (not_F h32) (EQ1 rfl rfl rfl hk)) <| DT rfl rfl (fun K hk => PT rfl rfl (not_F h32) rfl hk) <| DT rfl rfl (fun K hk => MV rfl rfl hk) <| ?_
                              refine dw_case (i := 148) rfl (fun h33 => ?_) (fun h33 => ?_)
                              · refine DT rfl rfl (fun K hk => ON rfl rfl h33 (FA rfl tyF_impl_Sender_5 rfl hk)) <| DT rfl rfl (fun K hk => ON rfl rfl h33 (LD (i := 0) rfl tyP_int rfl rfl rfl hk)) <| DT rfl rfl (fun K hk => ON rfl rfl h33 (MV rfl rfl hk)) <| DT rfl rfl (fun K hk => ON rfl rfl h33 (EQ1 rfl rfl rfl hk)) <| DT rfl rfl (fun K hk => PT rfl rfl h33 rfl hk) <| DT rfl rfl (fun K hk => MV rfl rfl hk) <| ?_
                                refine dw_case (i := 154) rfl (fun h34 => ?_) (fun h34 => ?_)
                                · refine DT rfl rfl (fun K hk => ON rfl rfl h34 (FA rfl tyF_impl_Sender_0 rfl hk)) <| DT rfl rfl (fun K hk => ON rfl rfl h34 (LD (i := 0) rfl tyP_int rfl rfl rfl hk)) <| DT rfl rfl (fun K hk => ON rfl rfl h34 (LS (i := 0) [_, _, _, _, _, _, _, _, _, _, _, _] rfl tyS_impl_Sender rfl rfl rfl rfl hk)) <| DT rfl rfl (fun K hk => ON rfl rfl h34 (CV1 rfl fun_impl_following rfl (fun w hs => impl_following ⟨_, _, _, _, rfl, (hA0.s Pl.keeps hs), (hA1.s Pl.keeps hs), (hA2.s Pl.keeps hs), (hA3.s Pl.keeps hs)⟩) hk)) <| ?_
                                  refine dw_nil <| ON rfl rfl h34 <| EQ1 rfl rfl rfl <| PT rfl rfl h34 rfl <| AS rfl rfl <| ND <| ret_cv Try.func138 (res1 Try.func138 rfl (rv_tmp rfl)) <| ?_
                                  simp [isSender, senderBase, senderReset, h1, h2, h3, h4, h5, h6, h7, h8, h15, h22, h29, h30, h31, h32, h33, h34]
                                · refine DT rfl rfl (fun K hk => OF rfl rfl h34 rfl hk) <| DT rfl rfl (fun K hk => OF rfl rfl h34 rfl hk) <| DT rfl rfl (fun K hk => OF rfl rfl h34 rfl hk) <| DT rfl rfl (fun K hk => OF rfl rfl h34 rfl hk) <| dw_nil <| OF rfl rfl h34 rfl <| PF rfl rfl h34 rfl <| AS rfl rfl <| ND <| ret_cv Try.func138 (res1 Try.func138 rfl (rv_tmp rfl)) <| ?_
                                  simp [isSender, senderBase, senderReset, h1, h2, h3, h4, h5, h6, h7, h8, h15, h22, h29, h30, h31, h32, h33, h34]
                              · refine DT rfl rfl (fun K hk => OF rfl rfl h33 rfl hk) <| DT rfl rfl (fun K hk => OF rfl rfl h33 rfl hk) <| DT rfl rfl (fun K hk => OF rfl rfl h33 rfl hk) <| DT rfl rfl (fun K hk => OF rfl rfl h33 rfl hk) <| DT rfl rfl (fun K hk => PF rfl rfl h33 rfl hk) <| DT rfl rfl (fun K hk => MV rfl rfl hk) <| DT rfl rfl (fun K hk => OF rfl rfl rfl rfl hk) <| DT rfl rfl (fun K hk => OF rfl rfl rfl rfl hk) <| DT rfl rfl (fun K hk => OF rfl rfl rfl rfl hk) <| DT rfl rfl (fun K hk => OF rfl rfl rfl rfl hk) <| ?_
                                refine dw_nil <| OF rfl rfl rfl rfl <| PF rfl rfl rfl rfl <| AS rfl rfl <| ND <| ret_cv Try.func138 (res1 Try.func138 rfl (rv_tmp rfl)) <| ?_
                                simp [isSender, senderBase, senderReset, h1, h2, h3, h4, h5, h6, h7, h8, h15, h22, h29, h30, h31, h32, h33]
                            · replace h32 := of_not_F h32
                              refine DT rfl rfl (fun K hk => OF rfl rfl (not_T h32) rfl hk) <| DT rfl rfl (fun K hk => OF rfl rfl (not_T h32) rfl hk) <| DT rfl rfl (fun K hk => OF rfl rfl (not_T h32) rfl hk) <| DT rfl rfl (fun K hk => PF rfl rfl (not_T h32) rfl hk) <| DT rfl rfl (fun K hk => MV rfl rfl hk) <| DT rfl rfl (fun K hk => OF rfl rfl rfl rfl hk) <| DT rfl rfl (fun K hk => OF rfl rfl rfl rfl hk) <| DT rfl rfl (fun K hk => OF rfl rfl rfl rfl hk) <| DT rfl rfl (fun K hk => OF rfl rfl rfl rfl hk) <| DT rfl rfl (fun K hk => PF rfl rfl rfl rfl hk) <| ?_
                              refine DT rfl rfl (fun K hk => MV rfl rfl hk) <| DT rfl rfl (fun K hk => OF rfl rfl rfl rfl hk) <| DT rfl rfl (fun K hk => OF rfl rfl rfl rfl hk) <| DT rfl rfl (fun K hk => OF rfl rfl rfl rfl hk) <| DT rfl rfl (fun K hk => OF rfl rfl rfl rfl hk) <| dw_nil <| OF rfl rfl rfl rfl <| PF rfl rfl rfl rfl <| AS rfl rfl <| ND <| ret_cv Try.func138 (res1 Try.func138 rfl (rv_tmp rfl)) <| ?_
                              simp [isSender, senderBase, senderReset, h1, h2, h3, h4, h5, h6, h7, h8, h15, h22, h29, h30, h31, h32]
                          · replace h31 := of_not_F h31
                            refine DT rfl rfl (fun K hk => OF rfl rfl (not_T h31) rfl hk) <| DT rfl rfl (fun K hk => OF rfl rfl (not_T h31) rfl hk) <| DT rfl rfl (fun K hk => OF rfl rfl (not_T h31) rfl hk) <| DT rfl rfl (fun K hk => OF rfl rfl (not_T h31) rfl hk) <| DT rfl rfl (fun K hk => OF rfl rfl (not_T h31) rfl hk) <| DT rfl rfl (fun K hk => OF rfl rfl (not_T h31) rfl hk) <| DT rfl rfl (fun K hk => PF rfl rfl (not_T h31) rfl hk) <| DT rfl rfl (fun K hk => MV rfl rfl hk) <| DT rfl rfl (fun K hk => OF rfl rfl rfl rfl hk) <| ?_
                            refine DT rfl rfl (fun K hk => OF rfl rfl rfl rfl hk) <| DT rfl rfl (fun K hk => OF rfl rfl rfl rfl hk) <| DT rfl rfl (fun K hk => PF rfl rfl rfl rfl hk) <| DT rfl rfl (fun K hk => MV rfl rfl hk) <| DT rfl rfl (fun K hk => OF rfl rfl rfl rfl hk) <| DT rfl rfl (fun K hk => OF rfl rfl rfl rfl hk) <| DT rfl rfl (fun K hk => OF rfl rfl rfl rfl hk) <| DT rfl rfl (fun K hk => OF rfl rfl rfl rfl hk) <| DT rfl rfl (fun K hk => PF rfl rfl rfl rfl hk) <| DT rfl rfl (fun K hk => MV rfl rfl hk) <| ?_
                            refine DT rfl rfl (fun K hk => OF rfl rfl rfl rfl hk) <| DT rfl rfl (fun K hk => OF rfl rfl rfl rfl hk) <| DT rfl rfl (fun K hk => OF rfl rfl rfl rfl hk) <| DT rfl rfl (fun K hk => OF rfl rfl rfl rfl hk) <| dw_nil <| OF rfl rfl rfl rfl <| PF rfl rfl rfl rfl <| AS rfl rfl <| ND <| ret_cv Try.func138 (res1 Try.func138 rfl (rv_tmp rfl)) <| ?_
                            simp [isSender, senderBase, senderReset, h1, h2, h3, h4, h5, h6, h7, h8, h15, h22, h29, h30, h31]
                        · refine DT rfl rfl (fun K hk => OF rfl rfl h30 rfl hk) <| DT rfl rfl (fun K hk => OF rfl rfl h30 rfl hk) <| DT rfl rfl (fun K hk => OF rfl rfl h30 rfl hk) <| DT rfl rfl (fun K hk => OF rfl rfl h30 rfl hk) <| DT rfl rfl (fun K hk => OF rfl rfl h30 rfl hk) <| DT rfl rfl (fun K hk => OF rfl rfl h30 rfl hk) <| DT rfl rfl (fun K hk => PF rfl rfl h30 rfl hk) <| DT rfl rfl (fun K hk => MV rfl rfl hk) <| DT rfl rfl (fun K hk => OF rfl rfl rfl rfl hk) <| DT rfl rfl (fun K hk => OF rfl rfl rfl rfl hk) <| ?_
                          refine DT rfl rfl (fun K hk => OF rfl rfl rfl rfl hk) <| DT rfl rfl (fun K hk => OF rfl rfl rfl rfl hk) <| DT rfl rfl (fun K hk => OF rfl rfl rfl rfl hk) <| DT rfl rfl (fun K hk => OF rfl rfl rfl rfl hk) <| DT rfl rfl (fun K hk => PF rfl rfl rfl rfl hk) <| DT rfl rfl (fun K hk => MV rfl rfl hk) <| DT rfl rfl (fun K hk => OF rfl rfl rfl rfl hk) <| DT rfl rfl (fun K hk => OF rfl rfl rfl rfl hk) <| DT rfl rfl (fun K hk => OF rfl rfl rfl rfl hk) <| DT rfl rfl (fun K hk => PF rfl rfl rfl rfl hk) <| ?_
                          refine DT rfl rfl (fun K hk => MV rfl rfl hk) <| DT rfl rfl (fun K hk => OF rfl rfl rfl rfl hk) <| DT rfl rfl (fun K hk => OF rfl rfl rfl rfl hk) <| DT rfl rfl (fun K hk => OF rfl rfl rfl rfl hk) <| DT rfl rfl (fun K hk => OF rfl rfl rfl rfl hk) <| DT rfl rfl (fun K hk => PF rfl rfl rfl rfl hk) <| DT rfl rfl (fun K hk => MV rfl rfl hk) <| DT rfl rfl (fun K hk => OF rfl rfl rfl rfl hk) <| DT rfl rfl (fun K hk => OF rfl rfl rfl rfl hk) <| DT rfl rfl (fun K hk => OF rfl rfl rfl rfl hk) <| ?_
                          refine DT rfl rfl (fun K hk => OF rfl rfl rfl rfl hk) <| dw_nil <| OF rfl rfl rfl rfl <| PF rfl rfl rfl rfl <| AS rfl rfl <| ND <| ret_cv Try.func138 (res1 Try.func138 rfl (rv_tmp rfl)) <| ?_
                          simp [isSender, senderBase, senderReset, h1, h2, h3, h4, h5, h6, h7, h8, h15, h22, h29, h30]
                      · refine DT rfl rfl (fun K hk => OF rfl rfl h29 rfl hk) <| DT rfl rfl (fun K hk => OF rfl rfl h29 rfl hk) <| DT rfl rfl (fun K hk => OF rfl rfl h29 rfl hk) <| DT rfl rfl (fun K hk => OF rfl rfl h29 rfl hk) <| DT rfl rfl (fun K hk => OF rfl rfl h29 rfl hk) <| DT rfl rfl (fun K hk => OF rfl rfl h29 rfl hk) <| DT rfl rfl (fun K hk => OF rfl rfl h29 rfl hk) <| DT rfl rfl (fun K hk => PF rfl rfl h29 rfl hk) <| DT rfl rfl (fun K hk => MV rfl rfl hk) <| DT rfl rfl (fun K hk => OF rfl rfl rfl rfl hk) <| ?_
                        refine DT rfl rfl (fun K hk => OF rfl rfl rfl rfl hk) <| DT rfl rfl (fun K hk => OF rfl rfl rfl rfl hk) <| DT rfl rfl (fun K hk => OF rfl rfl rfl rfl hk) <| DT rfl rfl (fun K hk => OF rfl rfl rfl rfl hk) <| DT rfl rfl (fun K hk => OF rfl rfl rfl rfl hk) <| DT rfl rfl (fun K hk => PF rfl rfl rfl rfl hk) <| DT rfl rfl (fun K hk => MV rfl rfl hk) <| DT rfl rfl (fun K hk => OF rfl rfl rfl rfl hk) <| DT rfl rfl (fun K hk => OF rfl rfl rfl rfl hk) <| DT rfl rfl (fun K hk => OF rfl rfl rfl rfl hk) <| ?_
                        refine DT rfl rfl (fun K hk => OF rfl rfl rfl rfl hk) <| DT rfl rfl (fun K hk => OF rfl rfl rfl rfl hk) <| DT rfl rfl (fun K hk => OF rfl rfl rfl rfl hk) <| DT rfl rfl (fun K hk => PF rfl rfl rfl rfl hk) <| DT rfl rfl (fun K hk => MV rfl rfl hk) <| DT rfl rfl (fun K hk => OF rfl rfl rfl rfl hk) <| DT rfl rfl (fun K hk => OF rfl rfl rfl rfl hk) <| DT rfl rfl (fun K hk => OF rfl rfl rfl rfl hk) <| DT rfl rfl (fun K hk => PF rfl rfl rfl rfl hk) <| DT rfl rfl (fun K hk => MV rfl rfl hk) <| ?_
                        refine DT rfl rfl (fun K hk => OF rfl rfl rfl rfl hk) <| DT rfl rfl (fun K hk => OF rfl rfl rfl rfl hk) <| DT rfl rfl (fun K hk => OF rfl rfl rfl rfl hk) <| DT rfl rfl (fun K hk => OF rfl rfl rfl rfl hk) <| DT rfl rfl (fun K hk => PF rfl rfl rfl rfl hk) <| DT rfl rfl (fun K hk => MV rfl rfl hk) <| DT rfl rfl (fun K hk => OF rfl rfl rfl rfl hk) <| DT rfl rfl (fun K hk => OF rfl rfl rfl rfl hk) <| DT rfl rfl (fun K hk => OF rfl rfl rfl rfl hk) <| DT rfl rfl (fun K hk => OF rfl rfl rfl rfl hk) <| ?_
                        refine dw_nil <| OF rfl rfl rfl rfl <| PF rfl rfl rfl rfl <| AS rfl rfl <| ND <| ret_cv Try.func138 (res1 Try.func138 rfl (rv_tmp rfl)) <| ?_
                        simp [isSender, senderBase, senderReset, h1, h2, h3, h4, h5, h6, h7, h8, h15, h22, h29]

theorem impl_IsCredit (c : Credit) (w : World) : CV Try.prog 139 [.agg c.cells.toArray] w (.bool (isCredit c)) := by
  refine cv_of Try.func139 rfl rfl rfl <| SQ <| RG <| BX [_, _, _, _] rfl rfl rfl <| fun b1 => AS rfl rfl <| ND <| SQ <| RG <| FA rfl tyF_impl_Credit_0 rfl <| LD (i := 0) rfl tyP_int rfl rfl rfl <| CV1 rfl fun_impl_isQuic rfl (fun w hs => impl_isQuic _ w) <| MV rfl rfl <| ?_
  refine rw_case (j := 6) rfl (fun h1 => ?_) (fun h1 => ?_)
  · refine ON rfl rfl h1 <| FA rfl tyF_impl_Credit_1 rfl <| ON rfl rfl h1 <| LD (i := 0) rfl tyP_int rfl rfl rfl <| ON rfl rfl h1 <| FA rfl tyF_impl_Credit_0 rfl <| ON rfl rfl h1 <| LD (i := 0) rfl tyP_int rfl rfl rfl <| ON rfl rfl h1 <| CV1 rfl fun_impl_within rfl (fun w hs => impl_within _ _ _ w) <| PT rfl rfl h1 rfl <| MV rfl rfl <| ?_
    refine rw_case (j := 13) rfl (fun h2 => ?_) (fun h2 => ?_)
    · refine ON rfl rfl h2 <| FA rfl tyF_impl_Credit_2 rfl <| ON rfl rfl h2 <| LD (i := 0) rfl tyP_int rfl rfl rfl <| ON rfl rfl h2 <| FA rfl tyF_impl_Credit_0 rfl <| ON rfl rfl h2 <| LD (i := 0) rfl tyP_int rfl rfl rfl <| ON rfl rfl h2 <| CV1 rfl fun_impl_within rfl (fun w hs => impl_within _ _ _ w) <| PT rfl rfl h2 rfl <| MV rfl rfl <| ?_
      refine rw_case (j := 20) rfl (fun h3 => ?_) (fun h3 => ?_)
      · refine ON rfl rfl h3 <| FA rfl tyF_impl_Credit_3 rfl <| ON rfl rfl h3 <| LD (i := 0) rfl tyP_int rfl rfl rfl <| ON rfl rfl h3 <| FA rfl tyF_impl_Credit_0 rfl <| ON rfl rfl h3 <| LD (i := 0) rfl tyP_int rfl rfl rfl <| ON rfl rfl h3 <| CV1 rfl fun_impl_within rfl (fun w hs => impl_within _ _ _ w) <| PT rfl rfl h3 rfl <| AS rfl rfl <| ND <| ret_cv Try.func139 (res1 Try.func139 rfl (rv_tmp rfl)) <| ?_
        simp [isCredit, h1, h2, h3]
      · refine OF rfl rfl h3 rfl <| OF rfl rfl h3 rfl <| OF rfl rfl h3 rfl <| OF rfl rfl h3 rfl <| OF rfl rfl h3 rfl <| PF rfl rfl h3 rfl <| AS rfl rfl <| ND <| ret_cv Try.func139 (res1 Try.func139 rfl (rv_tmp rfl)) <| ?_
        simp [isCredit, h1, h2, h3]
    · refine OF rfl rfl h2 rfl <| OF rfl rfl h2 rfl <| OF rfl rfl h2 rfl <| OF rfl rfl h2 rfl <| OF rfl rfl h2 rfl <| PF rfl rfl h2 rfl <| MV rfl rfl <| OF rfl rfl rfl rfl <| OF rfl rfl rfl rfl <| OF rfl rfl rfl rfl <| OF rfl rfl rfl rfl <| OF rfl rfl rfl rfl <| PF rfl rfl rfl rfl <| AS rfl rfl <| ND <| ret_cv Try.func139 (res1 Try.func139 rfl (rv_tmp rfl)) <| ?_
      simp [isCredit, h1, h2]
  · refine OF rfl rfl h1 rfl <| OF rfl rfl h1 rfl <| OF rfl rfl h1 rfl <| OF rfl rfl h1 rfl <| OF rfl rfl h1 rfl <| PF rfl rfl h1 rfl <| MV rfl rfl <| OF rfl rfl rfl rfl <| OF rfl rfl rfl rfl <| OF rfl rfl rfl rfl <| OF rfl rfl rfl rfl <| OF rfl rfl rfl rfl <| PF rfl rfl rfl rfl <| MV rfl rfl <| OF rfl rfl rfl rfl <| OF rfl rfl rfl rfl <| OF rfl rfl rfl rfl <| OF rfl rfl rfl rfl <| OF rfl rfl rfl rfl <| PF rfl rfl rfl rfl <| AS rfl rfl <| ?_
    refine ND <| ret_cv Try.func139 (res1 Try.func139 rfl (rv_tmp rfl)) <| ?_
    simp [isCredit, h1]

theorem impl_Chunk_end (c : Chunk) (w : World) : CV Try.prog 186 [.agg c.cells.toArray] w (.int .i64 (chunkEnd c)) := by
  refine cv_of Try.func186 rfl rfl rfl <| SQ <| RG <| BX [_, _] rfl rfl rfl <| fun b1 => AS rfl rfl <| ND <| SQ <| RG <| FA rfl tyF_impl_Chunk_0 rfl <| LD (i := 0) rfl tyP_int rfl rfl rfl <| FA rfl tyF_impl_Chunk_1 rfl <| LD (i := 0) rfl tyP_string rfl rfl rfl <| rw_lenS rfl (by kernel_rfl) rfl <| rw_add rfl rfl rfl <| AS rfl rfl <| ND <| ret_cv Try.func186 (res1 Try.func186 rfl (rv_tmp rfl)) <| ?_
  rfl

theorem impl_IsBuffer {w : World} {cs : List Value} {x : Buffer} (hv : RdBuffer w cs x) (hb : x.le 1048576) : CV Try.prog 183 [.agg cs.toArray] w (.bool (isBuffer x)) := by
  obtain ⟨v0, rfl, k0⟩ := hv
  obtain ⟨A0, c0, rfl, hA0⟩ := k0
  obtain ⟨hb0, hb1⟩ := hb
  refine cv_of Try.func183 rfl rfl rfl <| SQ <| RG <| BX [_, _] rfl rfl rfl <| fun b1 => AS rfl rfl <| ND <| SQ <| SQ <| RG <| FA rfl tyF_impl_Buffer_0 rfl <| LD (i := 0) rfl tyP_int rfl rfl rfl <| CV1 rfl fun_impl_isQuic rfl (fun w hs => impl_isQuic _ w) <| NT rfl rfl <| ND <| ?_
  refine gw_cond rfl (fun h1 => ?_) (fun h1 => ?_)
  · replace h1 := of_not_T h1
    refine SQ <| RG <| AS rfl rfl <| ND <| ret_cv Try.func183 (res1 Try.func183 rfl (rv_tmp rfl)) <| ?_
    simp [isBuffer, h1]
  · replace h1 := of_not_F h1
    refine SK <| SQ <| RG <| FA rfl tyF_impl_Buffer_0 rfl <| LD (i := 0) rfl tyP_int rfl rfl rfl <| AS rfl rfl <| ND <| SQ <| SQ <| RG <| FA rfl tyF_impl_Buffer_1 rfl <| LD (i := 0) rfl tyP_S_impl_Chunk rfl rfl rfl <| rw_len rfl tyE_S_impl_Chunk rfl <| MV rfl rfl <| ND <| BK <| ?_
    refine gw_loopC (α := Nat × Int) (fun z_ => z_.1 ≤ x.chunks.length ∧ isBuffer x = bufFrom z_.2 (x.chunks.drop z_.1)) (fun z_ => x.chunks.length - z_.1) (fun e z_ => (15, .int .i64 (z_.1 : Int)) :: (3, .int .i64 z_.2) :: e) (0, x.next) [(13, _), (14, _)] (Sub.consE rfl rfl (Sub.consE rfl rfl (Sub.cons (i := 13) rfl (Sub.cons (i := 14) rfl (Sub.nil _))))) ?_ ?_
    · exact ⟨Nat.zero_le _, by simp [isBuffer, h1]⟩
    · rintro ⟨i, e⟩ hI1 ih1
      dsimp only at hI1
      dsimp only
      obtain ⟨hle, hI⟩ := hI1
      refine SQ <| RG <| rw_lss rfl rfl rfl <| ND <| SQ <| ?_
      refine gw_cond rfl (fun h2 => ?_) (fun h2 => ?_)
      · have hi2 := lt_of_dec h2
        obtain ⟨x3, hx3⟩ := get_of_lt hi2
        have hd3 := drop_cons hx3
        refine SK <| SQ <| BK <| SQ <| RG <| ?_
        have hq4 := hA0.plain hx3
        refine rw_indexAddr (i) rfl tyE_S_impl_Chunk rfl rfl rfl (hA0.some hi2) hi2 <| rw_loadX_s [_, _] rfl tyS_impl_Chunk rfl rfl (fun w hs => hq4.lds0 (n := 2) hs rfl) <| AL rfl tyZ_impl_Chunk <| fun b2 => ST (i := 0) [_, _] [_, _] tyS_impl_Chunk.sz rfl rfl rfl rfl rfl rfl rfl rfl <| ND <| SQ <| SQ <| RG <| FA rfl tyF_impl_Chunk_1 rfl <| LD (i := 0) rfl tyP_string rfl rfl rfl <| rw_lenS rfl (by kernel_rfl) rfl <| EQ1 rfl rfl rfl <| MV rfl rfl <| ?_
        refine rw_case (j := 23) rfl (fun h3 => ?_) (fun h3 => ?_)
        · refine OF rfl rfl h3 rfl <| OF rfl rfl h3 rfl <| OF rfl rfl h3 rfl <| OF rfl rfl h3 rfl <| PT rfl rfl h3 rfl <| MV rfl rfl <| OF rfl rfl rfl rfl <| OF rfl rfl rfl rfl <| OF rfl rfl rfl rfl <| OF rfl rfl rfl rfl <| OF rfl rfl rfl rfl <| OF rfl rfl rfl rfl <| OF rfl rfl rfl rfl <| PT rfl rfl rfl rfl <| ND <| CT rfl rfl <| SQ <| RG <| AS rfl rfl <| ND <| ret_cv Try.func183 (res1 Try.func183 rfl (rv_tmp rfl)) <| ?_
          rw [hI, hd3]; simp [bufFrom, maxQuic, h3]
        · refine ON rfl rfl h3 <| FA rfl tyF_impl_Chunk_0 rfl <| ON rfl rfl h3 <| LD (i := 0) rfl tyP_int rfl rfl rfl <| ON rfl rfl h3 <| MV rfl rfl <| ON rfl rfl h3 <| rw_lss rfl rfl rfl <| PF rfl rfl h3 rfl <| MV rfl rfl <| ?_
          refine rw_case (j := 29) rfl (fun h4 => ?_) (fun h4 => ?_)
          · refine OF rfl rfl h4 rfl <| OF rfl rfl h4 rfl <| OF rfl rfl h4 rfl <| OF rfl rfl h4 rfl <| OF rfl rfl h4 rfl <| OF rfl rfl h4 rfl <| OF rfl rfl h4 rfl <| PT rfl rfl h4 rfl <| ND <| CT rfl rfl <| SQ <| RG <| AS rfl rfl <| ND <| ret_cv Try.func183 (res1 Try.func183 rfl (rv_tmp rfl)) <| ?_
            rw [hI, hd3]; simp [bufFrom, maxQuic, h3, h4]
          · refine ON rfl rfl h4 <| FA rfl tyF_impl_Chunk_0 rfl <| ON rfl rfl h4 <| LD (i := 0) rfl tyP_int rfl rfl rfl <| ON rfl rfl h4 <| FA rfl tyF_impl_Chunk_1 rfl <| ON rfl rfl h4 <| LD (i := 0) rfl tyP_string rfl rfl rfl <| ON rfl rfl h4 <| rw_lenS rfl (by kernel_rfl) rfl <| ON rfl rfl h4 <| rw_sub rfl rfl rfl <| ON rfl rfl h4 <| rw_gtr rfl rfl rfl <| PF rfl rfl h4 rfl <| ND <| ?_
            refine gw_cond rfl (fun h5 => ?_) (fun h5 => ?_)
            · refine SQ <| RG <| AS rfl rfl <| ND <| ret_cv Try.func183 (res1 Try.func183 rfl (rv_tmp rfl)) <| ?_
              rw [hI, hd3]; simp [bufFrom, maxQuic, h3, h4, h5]
            · refine SK <| RG <| LS (i := 0) [_, _] rfl tyS_impl_Chunk rfl rfl rfl rfl <| CV1 rfl fun_impl_Chunk_end rfl (fun w hs => impl_Chunk_end _ w) <| rw_add rfl rfl rfl <| AS rfl rfl <| ND <| IB <| RG <| rw_add rfl rfl rfl <| MV rfl rfl <| ND <| gw_dropN 1 <| ?_
              refine gw_sub (Sub.consE (i := 15) rfl (int_succ (by omega)) (Sub.consE (i := 3) rfl rfl (Sub.cons (i := 13) rfl (Sub.cons (i := 14) rfl (Sub.nil _))))) (ih1 (i + 1, w64 (chunkEnd x3 + 1)) ?_ ?_)
              · exact ⟨by omega, by rw [hI, hd3]; simp [bufFrom, maxQuic, h3, h4, h5]⟩
              · show x.chunks.length - (i + 1) < x.chunks.length - i; omega
      · have hn5 := nil_of_dec h2
        refine EX rfl <| SQ <| RG <| AS rfl rfl <| ND <| ret_cv Try.func183 (res1 Try.func183 rfl (rv_tmp rfl)) <| ?_
        rw [hI, hn5]; rfl

theorem impl_EndOf {w : World} {cs : List Value} {x : Buffer} (hv : RdBuffer w cs x) (hb : x.le 1048576) : CV Try.prog 184 [.agg cs.toArray] w (.int .i64 (endOf x)) := by
  obtain ⟨v0, rfl, k0⟩ := hv
  obtain ⟨A0, c0, rfl, hA0⟩ := k0
  obtain ⟨hb0, hb1⟩ := hb
  refine cv_of Try.func184 rfl rfl rfl <| SQ <| RG <| BX [_, _] rfl rfl rfl <| fun b1 => AS rfl rfl <| ND <| SQ <| SQ <| RG <| LS (i := 0) [_, _] rfl tyS_impl_Buffer rfl rfl rfl rfl <| CV1 rfl fun_impl_IsBuffer rfl (fun w hs => impl_IsBuffer ⟨_, rfl, (hA0.s Pl.keeps hs)⟩ ⟨hb0, hb1⟩) <| NT rfl rfl <| MV rfl rfl <| ?_
  refine rw_case (j := 6) rfl (fun h1 => ?_) (fun h1 => ?_)
  · replace h1 := of_not_T h1
    refine OF rfl rfl (not_F h1) rfl <| OF rfl rfl (not_F h1) rfl <| OF rfl rfl (not_F h1) rfl <| OF rfl rfl (not_F h1) rfl <| PT rfl rfl (not_F h1) rfl <| ND <| CT rfl rfl <| SQ <| RG <| FA rfl tyF_impl_Buffer_0 rfl <| LD (i := 0) rfl tyP_int rfl rfl rfl <| AS rfl rfl <| ND <| ret_cv Try.func184 (res1 Try.func184 rfl (rv_tmp rfl)) <| ?_
    simp [endOf, chunkEnd, h1]
  · replace h1 := of_not_F h1
    refine ON rfl rfl (not_T h1) <| FA rfl tyF_impl_Buffer_1 rfl <| ON rfl rfl (not_T h1) <| LD (i := 0) rfl tyP_S_impl_Chunk rfl rfl rfl <| ON rfl rfl (not_T h1) <| rw_len rfl tyE_S_impl_Chunk rfl <| ON rfl rfl (not_T h1) <| EQ1 rfl rfl rfl <| PF rfl rfl (not_T h1) rfl <| ND <| ?_
    refine gw_cond rfl (fun h2 => ?_) (fun h2 => ?_)
    · have hnil1 := nil_of_eq h2
      refine SQ <| RG <| FA rfl tyF_impl_Buffer_0 rfl <| LD (i := 0) rfl tyP_int rfl rfl rfl <| AS rfl rfl <| ND <| ret_cv Try.func184 (res1 Try.func184 rfl (rv_tmp rfl)) <| ?_
      simp [endOf, h1, hnil1]
    · have hpos2 := pos_of_ne h2
      refine SK <| SQ <| RG <| FA rfl tyF_impl_Buffer_1 rfl <| LD (i := 0) rfl tyP_S_impl_Chunk rfl rfl rfl <| FA rfl tyF_impl_Buffer_1 rfl <| LD (i := 0) rfl tyP_S_impl_Chunk rfl rfl rfl <| rw_len rfl tyE_S_impl_Chunk rfl <| rw_sub rfl rfl rfl <| ?_
      have hi3 : x.chunks.length - 1 < x.chunks.length := by omega
      obtain ⟨x4, hx4⟩ := get_of_lt hi3
      have hd4 := drop_cons hx4
      have hq5 := hA0.plain hx4
      refine rw_indexAddr (x.chunks.length - 1) rfl tyE_S_impl_Chunk rfl rfl (lenpred_of (by omega) (by omega)) (hA0.some hi3) hi3 <| rw_loadX_s [_, _] rfl tyS_impl_Chunk rfl rfl (fun w hs => hq5.lds0 (n := 2) hs rfl) <| CV1 rfl fun_impl_Chunk_end rfl (fun w hs => impl_Chunk_end _ w) <| AS rfl rfl <| ND <| ret_cv Try.func184 (res1 Try.func184 rfl (rv_tmp rfl)) <| ?_
      simp [endOf, chunkEnd, h1, hx4]

theorem impl_ReadyBytes {w : World} {cs : List Value} {x : Buffer} (hv : RdBuffer w cs x) (hb : x.le 1048576) : CV Try.prog 190 [.agg cs.toArray] w (.int .i64 (readyBytes x)) := by
  obtain ⟨v0, rfl, k0⟩ := hv
  obtain ⟨A0, c0, rfl, hA0⟩ := k0
  obtain ⟨hb0, hb1⟩ := hb
  refine cv_of Try.func190 rfl rfl rfl <| SQ <| RG <| BX [_, _] rfl rfl rfl <| fun b1 => AS rfl rfl <| ND <| SQ <| SQ <| gw_draw' [(0, .det), (1, .det), (2, .det), (3, .det), (4, .det), (5, .det), (6, .det), (7, .det), (8, .det), (9, .det), (10, .det), (11, .det), (12, .det), (13, .det), (14, .det), (15, .det), (16, .det)] [17, 18] mixed rfl (free_det (free_det (free_det (free_det (free_det (free_det (free_det (free_det (free_det (free_det (free_det (free_det (free_det (free_det (free_det (free_det (free_det free_nil))))))))))))))))) (ts := [_, _]) rfl <| DT rfl rfl (fun K hk => LS (i := 0) [_, _] rfl tyS_impl_Buffer rfl rfl rfl rfl hk) <| ?_
  refine DT rfl rfl (fun K hk => CV1 rfl fun_impl_IsBuffer rfl (fun w hs => impl_IsBuffer ⟨_, rfl, (hA0.s Pl.keeps hs)⟩ ⟨hb0, hb1⟩) hk) <| DT rfl rfl (fun K hk => NT rfl rfl hk) <| DT rfl rfl (fun K hk => MV rfl rfl hk) <| ?_
  refine dw_case (i := 6) rfl (fun h1 => ?_) (fun h1 => ?_)
  · replace h1 := of_not_T h1
    refine DT rfl rfl (fun K hk => OF rfl rfl (not_F h1) rfl hk) <| DT rfl rfl (fun K hk => OF rfl rfl (not_F h1) rfl hk) <| DT rfl rfl (fun K hk => OF rfl rfl (not_F h1) rfl hk) <| DT rfl rfl (fun K hk => OF rfl rfl (not_F h1) rfl hk) <| DT rfl rfl (fun K hk => PT rfl rfl (not_F h1) rfl hk) <| DT rfl rfl (fun K hk => MV rfl rfl hk) <| DT rfl rfl (fun K hk => OF rfl rfl rfl rfl hk) <| DT rfl rfl (fun K hk => OF rfl rfl rfl rfl hk) <| DT rfl rfl (fun K hk => OF rfl rfl rfl rfl hk) <| DT rfl rfl (fun K hk => OF rfl rfl rfl rfl hk) <| ?_
    refine DT rfl rfl (fun K hk => OF rfl rfl rfl rfl hk) <| DT rfl rfl (fun K hk => OF rfl rfl rfl rfl hk) <| DT rfl rfl (fun K hk => OF rfl rfl rfl rfl hk) <| dw_nil <| OF rfl rfl rfl rfl <| PT rfl rfl rfl rfl <| ND <| CT rfl rfl <| SQ <| RG <| AS rfl rfl <| ND <| ret_cv Try.func190 (res1 Try.func190 rfl (rv_tmp rfl)) <| ?_
    simp [readyBytes, h1]
  · replace h1 := of_not_F h1
    refine DT rfl rfl (fun K hk => ON rfl rfl (not_T h1) (FA rfl tyF_impl_Buffer_1 rfl hk)) <| DT rfl rfl (fun K hk => ON rfl rfl (not_T h1) (LD (i := 0) rfl tyP_S_impl_Chunk rfl rfl rfl hk)) <| DT rfl rfl (fun K hk => ON rfl rfl (not_T h1) (rw_len rfl tyE_S_impl_Chunk rfl hk)) <| DT rfl rfl (fun K hk => ON rfl rfl (not_T h1) (EQ1 rfl rfl rfl hk)) <| DT rfl rfl (fun K hk => PF rfl rfl (not_T h1) rfl hk) <| DT rfl rfl (fun K hk => MV rfl rfl hk) <| ?_
    refine dw_case (i := 12) rfl (fun h2 => ?_) (fun h2 => ?_)
    · have hnil1 := nil_of_eq h2
      refine DT rfl rfl (fun K hk => OF rfl rfl h2 rfl hk) <| DT rfl rfl (fun K hk => OF rfl rfl h2 rfl hk) <| DT rfl rfl (fun K hk => OF rfl rfl h2 rfl hk) <| DT rfl rfl (fun K hk => OF rfl rfl h2 rfl hk) <| DT rfl rfl (fun K hk => OF rfl rfl h2 rfl hk) <| DT rfl rfl (fun K hk => OF rfl rfl h2 rfl hk) <| DT rfl rfl (fun K hk => OF rfl rfl h2 rfl hk) <| dw_nil <| OF rfl rfl h2 rfl <| PT rfl rfl h2 rfl <| ND <| CT rfl rfl <| SQ <| RG <| AS rfl rfl <| ND <| ret_cv Try.func190 (res1 Try.func190 rfl (rv_tmp rfl)) <| ?_
      simp [readyBytes, h1, hnil1]
    · have hpos2 := pos_of_ne h2
      refine DT rfl rfl (fun K hk => ON rfl rfl h2 (FA rfl tyF_impl_Buffer_1 rfl hk)) <| DT rfl rfl (fun K hk => ON rfl rfl h2 (LD (i := 0) rfl tyP_S_impl_Chunk rfl rfl rfl hk)) <| ?_
      have hi3 : 0 < x.chunks.length := by omega
      obtain ⟨x4, hx4⟩ := get_of_lt hi3
      have hd4 := drop_cons hx4
      have hq5 := hA0.plain hx4
      refine DT rfl rfl (fun K hk => ON rfl rfl h2 (rw_indexAddr (0) rfl tyE_S_impl_Chunk rfl rfl rfl (hA0.some hi3) hi3 hk)) <| DT rfl rfl (fun K hk => ON rfl rfl h2 (FX rfl tyF_impl_Chunk_0 rfl hk)) <| DT rfl rfl (fun K hk => ON rfl rfl h2 (rw_loadX _ rfl tyP_int rfl (fun w hs => hq5.ld hs rfl) hk)) <| DT rfl rfl (fun K hk => ON rfl rfl h2 (FA rfl tyF_impl_Buffer_0 rfl hk)) <| DT rfl rfl (fun K hk => ON rfl rfl h2 (LD (i := 0) rfl tyP_int rfl rfl rfl hk)) <| dw_nil <| ON rfl rfl h2 <| ?_
      refine rw_neq rfl rfl rfl <| PF rfl rfl h2 rfl <| ND <| ?_
      refine gw_cond rfl (fun h3 => ?_) (fun h3 => ?_)
      · replace h3 := of_not_T h3
        refine SQ <| RG <| AS rfl rfl <| ND <| ret_cv Try.func190 (res1 Try.func190 rfl (rv_tmp rfl)) <| ?_
        simp [readyBytes, h1, h3, hx4]
      · replace h3 := of_not_F h3
        refine SK <| SQ <| RG <| FA rfl tyF_impl_Buffer_1 rfl <| LD (i := 0) rfl tyP_S_impl_Chunk rfl rfl rfl <| rw_indexAddr (0) rfl tyE_S_impl_Chunk rfl rfl rfl (hA0.some hi3) hi3 <| FX rfl tyF_impl_Chunk_1 rfl <| rw_loadX _ rfl tyP_string rfl (fun w hs => hq5.ld hs rfl) <| rw_lenS rfl (by kernel_rfl) rfl <| AS rfl rfl <| ND <| ret_cv Try.func190 (res1 Try.func190 rfl (rv_tmp rfl)) <| ?_
        simp [readyBytes, h1, h3, hx4]

theorem impl_readyEnd {w : World} {cs : List Value} {x : Buffer} (hv : RdBuffer w cs x) (hb : x.le 1048576) : CV Try.prog 123 [.agg cs.toArray] w (.int .i64 (w64 (x.next + readyBytes x))) := by
  obtain ⟨v0, rfl, k0⟩ := hv
  obtain ⟨A0, c0, rfl, hA0⟩ := k0
  obtain ⟨hb0, hb1⟩ := hb
  refine cv_of Try.func123 rfl rfl rfl <| SQ <| RG <| BX [_, _] rfl rfl rfl <| fun b1 => AS rfl rfl <| ND <| SQ <| gw_draw' [(0, .det), (1, .det), (2, .det), (3, .det)] [4, 5] mixed rfl (free_det (free_det (free_det (free_det free_nil)))) (ts := [_, _]) rfl <| DT rfl rfl (fun K hk => FA rfl tyF_impl_Buffer_0 rfl hk) <| DT rfl rfl (fun K hk => LD (i := 0) rfl tyP_int rfl rfl rfl hk) <| DT rfl rfl (fun K hk => LS (i := 0) [_, _] rfl tyS_impl_Buffer rfl rfl rfl rfl hk) <| DT rfl rfl (fun K hk => CV1 rfl fun_impl_ReadyBytes rfl (fun w hs => impl_ReadyBytes ⟨_, rfl, (hA0.s Pl.keeps hs)⟩ ⟨hb0, hb1⟩) hk) <| ?_
  refine dw_nil <| rw_add rfl rfl rfl <| AS rfl rfl <| ND <| ret_cv Try.func123 (res1 Try.func123 rfl (rv_tmp rfl)) <| ?_
  rfl
end Go.Proofs.Ytildklpahfbnpaa
