/- Facts on types and functions of this translation. -/
import Derived.Test.YtajcfmibcnibpaaDoorSls
import Derived.Test.YtajcfmibcnibpaaDoorProg
import Derived.KernelRfl
namespace Go.Proofs.YtajcfmibcnibpaaDoor
open SL
theorem fun_impl_FormatInt : Fun Tryd.prog 10 := ⟨by kernel_rfl⟩
theorem fun_impl_FormatPriority : Fun Tryd.prog 6 := ⟨by kernel_rfl⟩
theorem fun_impl_IsPriority : Fun Tryd.prog 9 := ⟨by kernel_rfl⟩
theorem fun_impl_within : Fun Tryd.prog 12 := ⟨by kernel_rfl⟩
theorem fun_internal_strconv_FormatInt : Fun Tryd.prog 15 := ⟨by kernel_rfl⟩
theorem fun_internal_strconv_Itoa : Fun Tryd.prog 14 := ⟨by kernel_rfl⟩
theorem fun_internal_strconv_small : Fun Tryd.prog 16 := ⟨by kernel_rfl⟩
theorem fun_laws_toPriority : Fun Tryd.prog 5 := ⟨by kernel_rfl⟩
theorem fun_spec_FormatInt : Fun Tryd.prog 8 := ⟨by kernel_rfl⟩
theorem fun_spec_FormatPriority : Fun Tryd.prog 4 := ⟨by kernel_rfl⟩
theorem fun_spec_IsPriority : Fun Tryd.prog 7 := ⟨by kernel_rfl⟩
theorem fun_spec_l1In : Fun Tryd.prog 11 := ⟨by kernel_rfl⟩
theorem fun_strconv_Itoa : Fun Tryd.prog 13 := ⟨by kernel_rfl⟩
theorem tyCB_S_uint8_string : TyCB Tryd.prog 31 9 5 := ⟨by kernel_rfl, by kernel_rfl, by kernel_rfl⟩
theorem tyCI_int_uint8 : TyCI Tryd.prog 3 5 .u8 := ⟨by kernel_rfl, by kernel_rfl⟩
theorem tyF_impl_Priority_0 : TyF Tryd.prog 25 0 0 := ⟨by kernel_rfl⟩
theorem tyF_impl_Priority_1 : TyF Tryd.prog 25 1 1 := ⟨by kernel_rfl⟩
theorem tyF_laws_Priority_0 : TyF Tryd.prog 23 0 0 := ⟨by kernel_rfl⟩
theorem tyF_laws_Priority_1 : TyF Tryd.prog 23 1 1 := ⟨by kernel_rfl⟩
theorem tyM_S_uint8 : TyM Tryd.prog 31 5 1 1 [.int .u8 0] := ⟨by kernel_rfl, by kernel_rfl, rfl, rfl, rfl⟩
theorem tyP_bool : TyP Tryd.prog 4 := ⟨by kernel_rfl, by kernel_rfl⟩
theorem tyP_int : TyP Tryd.prog 3 := ⟨by kernel_rfl, by kernel_rfl⟩
theorem tyS_impl_Priority : TyS Tryd.prog 25 2 := ⟨by kernel_rfl, by kernel_rfl⟩
theorem tyS_laws_Priority : TyS Tryd.prog 23 2 := ⟨by kernel_rfl, by kernel_rfl⟩
theorem tyStr_string : Tryd.prog.underlying 9 = some .string := by kernel_rfl
theorem tyZ_impl_Priority : TyZ Tryd.prog 25 [.int .i64 0, .bool false] := ⟨by kernel_rfl⟩
end Go.Proofs.YtajcfmibcnibpaaDoor
