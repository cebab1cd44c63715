/- Facts on types and functions of this translation. -/
import Derived.Test.YtmoegjhihjgmgaaSh
import Derived.Test.YtmoegjhihjgmgaaSlf
import Derived.Test.YtmoegjhihjgmgaaFactsE
import Derived.Test.YtmoegjhihjgmgaaProg
import Derived.KernelRfl
namespace Go.Proofs.Ytmoegjhihjgmgaa
open SL
theorem fun_impl_CanReceiveOn : Fun Try.prog 83 := ⟨by kernel_rfl⟩
theorem fun_impl_CanSendOn : Fun Try.prog 82 := ⟨by kernel_rfl⟩
theorem fun_impl_DefaultPriority : Fun Try.prog 81 := ⟨by kernel_rfl⟩
theorem fun_impl_IsOwn : Fun Try.prog 148 := ⟨by kernel_rfl⟩
theorem fun_impl_IsServerId : Fun Try.prog 192 := ⟨by kernel_rfl⟩
theorem fun_impl_IsStreamId : Fun Try.prog 78 := ⟨by kernel_rfl⟩
theorem fun_impl_IsUniId : Fun Try.prog 147 := ⟨by kernel_rfl⟩
theorem fun_impl_NewReceiver : Fun Try.prog 80 := ⟨by kernel_rfl⟩
theorem fun_impl_NewRing : Fun Try.prog 149 := ⟨by kernel_rfl⟩
theorem fun_impl_NewSender : Fun Try.prog 84 := ⟨by kernel_rfl⟩
theorem fun_impl_NewStream : Fun Try.prog 27 := ⟨by kernel_rfl⟩
theorem fun_laws_heldBuffer : Fun Try.prog 153 := ⟨by kernel_rfl⟩
theorem fun_laws_heldChunkS : Fun Try.prog 129 := ⟨by kernel_rfl⟩
theorem fun_laws_heldIntS : Fun Try.prog 127 := ⟨by kernel_rfl⟩
theorem fun_laws_heldRangeS : Fun Try.prog 128 := ⟨by kernel_rfl⟩
theorem fun_laws_heldReceiver : Fun Try.prog 90 := ⟨by kernel_rfl⟩
theorem fun_laws_heldRing : Fun Try.prog 152 := ⟨by kernel_rfl⟩
theorem fun_laws_heldSender : Fun Try.prog 89 := ⟨by kernel_rfl⟩
theorem fun_laws_heldStream : Fun Try.prog 29 := ⟨by kernel_rfl⟩
theorem fun_laws_markBuffer : Fun Try.prog 151 := ⟨by kernel_rfl⟩
theorem fun_laws_markChunkS : Fun Try.prog 126 := ⟨by kernel_rfl⟩
theorem fun_laws_markIntS : Fun Try.prog 124 := ⟨by kernel_rfl⟩
theorem fun_laws_markRangeS : Fun Try.prog 125 := ⟨by kernel_rfl⟩
theorem fun_laws_markReceiver : Fun Try.prog 88 := ⟨by kernel_rfl⟩
theorem fun_laws_markRing : Fun Try.prog 150 := ⟨by kernel_rfl⟩
theorem fun_laws_markSender : Fun Try.prog 87 := ⟨by kernel_rfl⟩
theorem fun_laws_markStream : Fun Try.prog 28 := ⟨by kernel_rfl⟩
theorem fun_spec_CanReceiveOn : Fun Try.prog 74 := ⟨by kernel_rfl⟩
theorem fun_spec_CanSendOn : Fun Try.prog 73 := ⟨by kernel_rfl⟩
theorem fun_spec_DefaultPriority : Fun Try.prog 71 := ⟨by kernel_rfl⟩
theorem fun_spec_IsOwn : Fun Try.prog 142 := ⟨by kernel_rfl⟩
theorem fun_spec_IsServerId : Fun Try.prog 191 := ⟨by kernel_rfl⟩
theorem fun_spec_IsUniId : Fun Try.prog 141 := ⟨by kernel_rfl⟩
theorem fun_spec_NewReceiver : Fun Try.prog 72 := ⟨by kernel_rfl⟩
theorem fun_spec_NewRing : Fun Try.prog 143 := ⟨by kernel_rfl⟩
theorem fun_spec_NewSender : Fun Try.prog 75 := ⟨by kernel_rfl⟩
theorem fun_spec_NewStream : Fun Try.prog 25 := ⟨by kernel_rfl⟩
theorem tyB_impl_Priority : TyB Try.prog 54 [(0, 1), (1, 1)] := ⟨by kernel_rfl⟩
theorem tyB_impl_Receiver : TyB Try.prog 52 [(0, 1), (1, 2), (3, 1), (4, 1), (5, 1)] := ⟨by kernel_rfl⟩
theorem tyB_impl_Ring : TyB Try.prog 43 [(0, 1), (1, 1), (2, 1), (3, 1)] := ⟨by kernel_rfl⟩
theorem tyB_impl_Sender : TyB Try.prog 46 [(0, 1), (1, 4), (5, 1), (6, 1), (7, 1), (8, 1), (9, 1), (10, 1), (11, 1)] := ⟨by kernel_rfl⟩
theorem tyB_impl_Stream : TyB Try.prog 56 [(0, 1), (1, 12), (13, 4), (17, 6), (23, 6), (29, 2), (31, 1), (32, 1), (33, 1), (34, 1), (35, 1), (36, 1), (37, 1), (38, 1)] := ⟨by kernel_rfl⟩
end Go.Proofs.Ytmoegjhihjgmgaa
