/- Facts on types and functions of this translation. -/
import Derived.Test.YtmjdcdimkkabmaaDoorSls
import Derived.Test.YtmjdcdimkkabmaaDoorProg
import Derived.KernelRfl
namespace Go.Proofs.YtmjdcdimkkabmaaDoor
open SL
theorem fun_impl_DefaultPriority : Fun Tryd.prog 12 := ⟨by kernel_rfl⟩
theorem fun_impl_IsPriority : Fun Tryd.prog 16 := ⟨by kernel_rfl⟩
theorem fun_impl_MergePriority : Fun Tryd.prog 10 := ⟨by kernel_rfl⟩
theorem fun_impl_ParsePriority : Fun Tryd.prog 6 := ⟨by kernel_rfl⟩
theorem fun_impl_within : Fun Tryd.prog 20 := ⟨by kernel_rfl⟩
theorem fun_laws_eqPriority : Fun Tryd.prog 7 := ⟨by kernel_rfl⟩
theorem fun_laws_toPriority : Fun Tryd.prog 9 := ⟨by kernel_rfl⟩
theorem fun_spec_DefaultPriority : Fun Tryd.prog 11 := ⟨by kernel_rfl⟩
theorem fun_spec_IsPriority : Fun Tryd.prog 13 := ⟨by kernel_rfl⟩
theorem fun_spec_MergePriority : Fun Tryd.prog 8 := ⟨by kernel_rfl⟩
theorem fun_spec_ParsePriority : Fun Tryd.prog 5 := ⟨by kernel_rfl⟩
theorem fun_spec_l13Cut : Fun Tryd.prog 14 := ⟨by kernel_rfl⟩
theorem fun_spec_l13Trim : Fun Tryd.prog 15 := ⟨by kernel_rfl⟩
theorem fun_spec_l1In : Fun Tryd.prog 19 := ⟨by kernel_rfl⟩
theorem fun_strings_Split : Fun Tryd.prog 17 := ⟨by kernel_rfl⟩
theorem fun_strings_Trim : Fun Tryd.prog 18 := ⟨by kernel_rfl⟩
theorem tyB_impl_Priority : TyB Tryd.prog 23 [(0, 1), (1, 1)] := ⟨by kernel_rfl⟩
theorem tyCI_uint8_int : TyCI Tryd.prog 5 3 .i64 := ⟨by kernel_rfl, by kernel_rfl⟩
theorem tyE_S_string : TyE Tryd.prog 33 9 1 := ⟨by kernel_rfl, by kernel_rfl⟩
theorem tyF_impl_Priority_0 : TyF Tryd.prog 23 0 0 := ⟨by kernel_rfl⟩
theorem tyF_impl_Priority_1 : TyF Tryd.prog 23 1 1 := ⟨by kernel_rfl⟩
theorem tyF_laws_Priority_0 : TyF Tryd.prog 27 0 0 := ⟨by kernel_rfl⟩
theorem tyF_laws_Priority_1 : TyF Tryd.prog 27 1 1 := ⟨by kernel_rfl⟩
theorem tyM_S_string : TyM Tryd.prog 33 9 1 16 [.string ByteArray.empty] := ⟨by kernel_rfl, by kernel_rfl, rfl, rfl, rfl⟩
theorem tyP_bool : TyP Tryd.prog 4 := ⟨by kernel_rfl, by kernel_rfl⟩
theorem tyP_int : TyP Tryd.prog 3 := ⟨by kernel_rfl, by kernel_rfl⟩
theorem tyP_string : TyP Tryd.prog 9 := ⟨by kernel_rfl, by kernel_rfl⟩
theorem tyS_impl_Priority : TyS Tryd.prog 23 2 := ⟨by kernel_rfl, by kernel_rfl⟩
theorem tyS_laws_Priority : TyS Tryd.prog 27 2 := ⟨by kernel_rfl, by kernel_rfl⟩
theorem tyStr_string : Tryd.prog.underlying 9 = some .string := by kernel_rfl
theorem tyZ_impl_Priority : TyZ Tryd.prog 23 [.int .i64 0, .bool false] := ⟨by kernel_rfl⟩
end Go.Proofs.YtmjdcdimkkabmaaDoor
