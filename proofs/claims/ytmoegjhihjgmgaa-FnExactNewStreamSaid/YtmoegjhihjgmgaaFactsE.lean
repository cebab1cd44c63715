/- Facts on types and functions of this translation. -/
import Derived.Test.YtmoegjhihjgmgaaSh
import Derived.Test.YtmoegjhihjgmgaaSlf
import Derived.Test.YtmoegjhihjgmgaaFactsD
import Derived.Test.YtmoegjhihjgmgaaProg
import Derived.KernelRfl
namespace Go.Proofs.Ytmoegjhihjgmgaa
open SL
theorem fun_impl_IsConf : Fun Try.prog 79 := ⟨by kernel_rfl⟩
theorem fun_impl_NewAllow : Fun Try.prog 116 := ⟨by kernel_rfl⟩
theorem fun_impl_NewConn : Fun Try.prog 48 := ⟨by kernel_rfl⟩
theorem fun_impl_NewCount : Fun Try.prog 115 := ⟨by kernel_rfl⟩
theorem fun_impl_NewCredit : Fun Try.prog 85 := ⟨by kernel_rfl⟩
theorem fun_impl_NewWindow : Fun Try.prog 86 := ⟨by kernel_rfl⟩
theorem fun_impl_isRingSize : Fun Try.prog 145 := ⟨by kernel_rfl⟩
theorem fun_laws_heldConn : Fun Try.prog 50 := ⟨by kernel_rfl⟩
theorem fun_laws_heldPacketS : Fun Try.prog 118 := ⟨by kernel_rfl⟩
theorem fun_laws_heldStreamS : Fun Try.prog 54 := ⟨by kernel_rfl⟩
theorem fun_laws_markConn : Fun Try.prog 49 := ⟨by kernel_rfl⟩
theorem fun_laws_markPacketS : Fun Try.prog 117 := ⟨by kernel_rfl⟩
theorem fun_laws_markStreamS : Fun Try.prog 53 := ⟨by kernel_rfl⟩
theorem fun_spec_IsConf : Fun Try.prog 70 := ⟨by kernel_rfl⟩
theorem fun_spec_NewAllow : Fun Try.prog 114 := ⟨by kernel_rfl⟩
theorem fun_spec_NewConn : Fun Try.prog 47 := ⟨by kernel_rfl⟩
theorem fun_spec_NewCount : Fun Try.prog 113 := ⟨by kernel_rfl⟩
theorem fun_spec_NewCredit : Fun Try.prog 76 := ⟨by kernel_rfl⟩
theorem fun_spec_NewWindow : Fun Try.prog 77 := ⟨by kernel_rfl⟩
theorem fun_spec_l8Power : Fun Try.prog 140 := ⟨by kernel_rfl⟩
theorem tyB_impl_Allow : TyB Try.prog 87 [(0, 1), (1, 1), (2, 1), (3, 1)] := ⟨by kernel_rfl⟩
theorem tyB_impl_Conn : TyB Try.prog 90 [(0, 1), (1, 8), (9, 8), (17, 1), (18, 4), (22, 6), (28, 3), (31, 3), (34, 4), (38, 4), (42, 1), (43, 1), (44, 1), (45, 1), (46, 1), (47, 1), (48, 1), (49, 1)] := ⟨by kernel_rfl⟩
theorem tyB_impl_Count : TyB Try.prog 86 [(0, 1), (1, 1), (2, 1)] := ⟨by kernel_rfl⟩
theorem tyB_impl_Credit : TyB Try.prog 47 [(0, 1), (1, 1), (2, 1), (3, 1)] := ⟨by kernel_rfl⟩
theorem tyB_impl_Window : TyB Try.prog 53 [(0, 1), (1, 1), (2, 1), (3, 1), (4, 1), (5, 1)] := ⟨by kernel_rfl⟩
end Go.Proofs.Ytmoegjhihjgmgaa
