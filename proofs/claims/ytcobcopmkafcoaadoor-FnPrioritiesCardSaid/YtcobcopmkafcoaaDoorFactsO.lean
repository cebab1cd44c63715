/- Facts on types and functions of this translation. -/
import Derived.Test.YtcobcopmkafcoaaDoorSls
import Derived.Test.YtcobcopmkafcoaaDoorProg
import Derived.KernelRfl
namespace Go.Proofs.YtcobcopmkafcoaaDoor
open SL
theorem fun_impl_DefaultPriority : Fun Tryd.prog 16 := ⟨by kernel_rfl⟩
theorem fun_impl_FormatInt : Fun Tryd.prog 20 := ⟨by kernel_rfl⟩
theorem fun_impl_FormatPriority : Fun Tryd.prog 6 := ⟨by kernel_rfl⟩
theorem fun_impl_IsPriority : Fun Tryd.prog 8 := ⟨by kernel_rfl⟩
theorem fun_impl_MergePriority : Fun Tryd.prog 13 := ⟨by kernel_rfl⟩
theorem fun_impl_ParsePriority : Fun Tryd.prog 10 := ⟨by kernel_rfl⟩
theorem fun_impl_within : Fun Tryd.prog 22 := ⟨by kernel_rfl⟩
theorem fun_internal_strconv_FormatInt : Fun Tryd.prog 51 := ⟨by kernel_rfl⟩
theorem fun_internal_strconv_Itoa : Fun Tryd.prog 43 := ⟨by kernel_rfl⟩
theorem fun_internal_strconv_small : Fun Tryd.prog 58 := ⟨by kernel_rfl⟩
theorem fun_laws_big : Fun Tryd.prog 4 := ⟨by kernel_rfl⟩
theorem fun_spec_DefaultPriority : Fun Tryd.prog 17 := ⟨by kernel_rfl⟩
theorem fun_spec_DrawFormatPriority : Fun Tryd.prog 5 := ⟨by kernel_rfl⟩
theorem fun_spec_DrawMergePriority : Fun Tryd.prog 12 := ⟨by kernel_rfl⟩
theorem fun_spec_DrawParsePriority : Fun Tryd.prog 11 := ⟨by kernel_rfl⟩
theorem fun_spec_FormatInt : Fun Tryd.prog 21 := ⟨by kernel_rfl⟩
theorem fun_spec_FormatPriority : Fun Tryd.prog 7 := ⟨by kernel_rfl⟩
theorem fun_spec_IsPriority : Fun Tryd.prog 9 := ⟨by kernel_rfl⟩
theorem fun_spec_MergePriority : Fun Tryd.prog 15 := ⟨by kernel_rfl⟩
theorem fun_spec_ParsePriority : Fun Tryd.prog 14 := ⟨by kernel_rfl⟩
theorem fun_spec_l13Any : Fun Tryd.prog 18 := ⟨by kernel_rfl⟩
theorem fun_spec_l13Cut : Fun Tryd.prog 28 := ⟨by kernel_rfl⟩
theorem fun_spec_l13Priority : Fun Tryd.prog 30 := ⟨by kernel_rfl⟩
theorem fun_spec_l13Trim : Fun Tryd.prog 29 := ⟨by kernel_rfl⟩
theorem fun_spec_l1Below : Fun Tryd.prog 24 := ⟨by kernel_rfl⟩
theorem fun_spec_l1Byte : Fun Tryd.prog 34 := ⟨by kernel_rfl⟩
theorem fun_spec_l1In : Fun Tryd.prog 23 := ⟨by kernel_rfl⟩
theorem fun_spec_l1New : Fun Tryd.prog 19 := ⟨by kernel_rfl⟩
theorem fun_spec_l1Once : Fun Tryd.prog 31 := ⟨by kernel_rfl⟩
theorem fun_spec_l1Pick : Fun Tryd.prog 25 := ⟨by kernel_rfl⟩
theorem fun_spec_l1PickInt : Fun Tryd.prog 32 := ⟨by kernel_rfl⟩
theorem fun_strconv_Itoa : Fun Tryd.prog 33 := ⟨by kernel_rfl⟩
theorem fun_strings_Split : Fun Tryd.prog 26 := ⟨by kernel_rfl⟩
theorem fun_strings_Trim : Fun Tryd.prog 27 := ⟨by kernel_rfl⟩
theorem mixed : Tryd.prog.follows .mixedOrders = true := by kernel_rfl
theorem tyB_impl_Priority : TyB Tryd.prog 25 [(0, 1), (1, 1)] := ⟨by kernel_rfl⟩
theorem tyB_spec_l1Cur : TyB Tryd.prog 51 [(0, 1), (1, 1), (2, 1)] := ⟨by kernel_rfl⟩
theorem tyCB_S_uint8_string : TyCB Tryd.prog 22 9 5 := ⟨by kernel_rfl, by kernel_rfl, by kernel_rfl⟩
theorem tyCI_int_uint8 : TyCI Tryd.prog 3 5 .u8 := ⟨by kernel_rfl, by kernel_rfl⟩
theorem tyCI_uint8_int : TyCI Tryd.prog 5 3 .i64 := ⟨by kernel_rfl, by kernel_rfl⟩
theorem tyE_S_int : TyE Tryd.prog 49 3 1 := ⟨by kernel_rfl, by kernel_rfl⟩
theorem tyE_S_string : TyE Tryd.prog 42 9 1 := ⟨by kernel_rfl, by kernel_rfl⟩
theorem tyE_S_uint8 : TyE Tryd.prog 22 5 1 := ⟨by kernel_rfl, by kernel_rfl⟩
theorem tyF_impl_Priority_0 : TyF Tryd.prog 25 0 0 := ⟨by kernel_rfl⟩
theorem tyF_impl_Priority_1 : TyF Tryd.prog 25 1 1 := ⟨by kernel_rfl⟩
theorem tyF_spec_l1Cur_0 : TyF Tryd.prog 51 0 0 := ⟨by kernel_rfl⟩
theorem tyF_spec_l1Cur_1 : TyF Tryd.prog 51 1 1 := ⟨by kernel_rfl⟩
theorem tyF_spec_l1Cur_2 : TyF Tryd.prog 51 2 2 := ⟨by kernel_rfl⟩
theorem tyM_S_int : TyM Tryd.prog 49 3 1 8 [.int .i64 0] := ⟨by kernel_rfl, by kernel_rfl, rfl, rfl, rfl⟩
theorem tyM_S_string : TyM Tryd.prog 42 9 1 16 [.string ByteArray.empty] := ⟨by kernel_rfl, by kernel_rfl, rfl, rfl, rfl⟩
theorem tyM_S_uint8 : TyM Tryd.prog 22 5 1 1 [.int .u8 0] := ⟨by kernel_rfl, by kernel_rfl, rfl, rfl, rfl⟩
theorem tyP_S_uint8 : TyP Tryd.prog 22 := ⟨by kernel_rfl, by kernel_rfl⟩
theorem tyP_bool : TyP Tryd.prog 4 := ⟨by kernel_rfl, by kernel_rfl⟩
theorem tyP_int : TyP Tryd.prog 3 := ⟨by kernel_rfl, by kernel_rfl⟩
theorem tyP_string : TyP Tryd.prog 9 := ⟨by kernel_rfl, by kernel_rfl⟩
theorem tyP_uint8 : TyP Tryd.prog 5 := ⟨by kernel_rfl, by kernel_rfl⟩
theorem tyQ_impl_Priority : TyQ Tryd.prog 25 [0, 1] := ⟨by kernel_rfl, by kernel_rfl, by kernel_rfl, by kernel_rfl⟩
theorem tyS_impl_Priority : TyS Tryd.prog 25 2 := ⟨by kernel_rfl, by kernel_rfl⟩
theorem tyStr_string : Tryd.prog.underlying 9 = some .string := by kernel_rfl
theorem tyZ_impl_Priority : TyZ Tryd.prog 25 [.int .i64 0, .bool false] := ⟨by kernel_rfl⟩
theorem tyZ_spec_l1Cur : TyZ Tryd.prog 51 [.slice none 0 0, .int .i64 0, .int .i64 0] := ⟨by kernel_rfl⟩
end Go.Proofs.YtcobcopmkafcoaaDoor
