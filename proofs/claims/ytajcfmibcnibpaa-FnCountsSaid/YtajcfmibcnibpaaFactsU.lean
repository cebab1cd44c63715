/- Facts on types and functions of this translation. -/
import Derived.Test.YtajcfmibcnibpaaSls
import Derived.Test.YtajcfmibcnibpaaProg
import Derived.KernelRfl
namespace Go.Proofs.Ytajcfmibcnibpaa
open SL
theorem fun_impl_CloseOne : Fun Try.prog 35 := ⟨by kernel_rfl⟩
theorem fun_impl_IsAllow : Fun Try.prog 33 := ⟨by kernel_rfl⟩
theorem fun_impl_IsCount : Fun Try.prog 24 := ⟨by kernel_rfl⟩
theorem fun_impl_MustAllow : Fun Try.prog 46 := ⟨by kernel_rfl⟩
theorem fun_impl_NewAllow : Fun Try.prog 44 := ⟨by kernel_rfl⟩
theorem fun_impl_NewCount : Fun Try.prog 41 := ⟨by kernel_rfl⟩
theorem fun_impl_OpenNext : Fun Try.prog 22 := ⟨by kernel_rfl⟩
theorem fun_impl_RaiseAllow : Fun Try.prog 38 := ⟨by kernel_rfl⟩
theorem fun_impl_RaiseCount : Fun Try.prog 27 := ⟨by kernel_rfl⟩
theorem fun_impl_SeeIndex : Fun Try.prog 30 := ⟨by kernel_rfl⟩
theorem fun_impl_within : Fun Try.prog 57 := ⟨by kernel_rfl⟩
theorem fun_laws_big : Fun Try.prog 20 := ⟨by kernel_rfl⟩
theorem fun_spec_CloseOne : Fun Try.prog 36 := ⟨by kernel_rfl⟩
theorem fun_spec_DrawCloseOne : Fun Try.prog 34 := ⟨by kernel_rfl⟩
theorem fun_spec_DrawNewAllow : Fun Try.prog 43 := ⟨by kernel_rfl⟩
theorem fun_spec_DrawNewCount : Fun Try.prog 40 := ⟨by kernel_rfl⟩
theorem fun_spec_DrawOpenNext : Fun Try.prog 21 := ⟨by kernel_rfl⟩
theorem fun_spec_DrawRaiseAllow : Fun Try.prog 37 := ⟨by kernel_rfl⟩
theorem fun_spec_DrawRaiseCount : Fun Try.prog 26 := ⟨by kernel_rfl⟩
theorem fun_spec_DrawSeeIndex : Fun Try.prog 29 := ⟨by kernel_rfl⟩
theorem fun_spec_IsAllow : Fun Try.prog 32 := ⟨by kernel_rfl⟩
theorem fun_spec_IsCount : Fun Try.prog 25 := ⟨by kernel_rfl⟩
theorem fun_spec_MustAllow : Fun Try.prog 47 := ⟨by kernel_rfl⟩
theorem fun_spec_NewAllow : Fun Try.prog 45 := ⟨by kernel_rfl⟩
theorem fun_spec_NewCount : Fun Try.prog 42 := ⟨by kernel_rfl⟩
theorem fun_spec_OpenNext : Fun Try.prog 23 := ⟨by kernel_rfl⟩
theorem fun_spec_RaiseAllow : Fun Try.prog 39 := ⟨by kernel_rfl⟩
theorem fun_spec_RaiseCount : Fun Try.prog 28 := ⟨by kernel_rfl⟩
theorem fun_spec_SeeIndex : Fun Try.prog 31 := ⟨by kernel_rfl⟩
theorem fun_spec_l12Allow : Fun Try.prog 60 := ⟨by kernel_rfl⟩
theorem fun_spec_l12Count : Fun Try.prog 55 := ⟨by kernel_rfl⟩
theorem fun_spec_l1Below : Fun Try.prog 61 := ⟨by kernel_rfl⟩
theorem fun_spec_l1Byte : Fun Try.prog 69 := ⟨by kernel_rfl⟩
theorem fun_spec_l1In : Fun Try.prog 58 := ⟨by kernel_rfl⟩
theorem fun_spec_l1New : Fun Try.prog 56 := ⟨by kernel_rfl⟩
theorem fun_spec_l1Once : Fun Try.prog 68 := ⟨by kernel_rfl⟩
theorem fun_spec_l1PickInt : Fun Try.prog 59 := ⟨by kernel_rfl⟩
theorem mixed : Try.prog.follows .mixedOrders = true := by kernel_rfl
theorem tyB_impl_Allow : TyB Try.prog 48 [(0, 1), (1, 1), (2, 1), (3, 1)] := ⟨by kernel_rfl⟩
theorem tyB_impl_Count : TyB Try.prog 39 [(0, 1), (1, 1), (2, 1)] := ⟨by kernel_rfl⟩
theorem tyB_spec_l1Cur : TyB Try.prog 85 [(0, 1), (1, 1), (2, 1)] := ⟨by kernel_rfl⟩
theorem tyCI_uint8_int : TyCI Try.prog 5 3 .i64 := ⟨by kernel_rfl, by kernel_rfl⟩
theorem tyE_S_int : TyE Try.prog 24 3 1 := ⟨by kernel_rfl, by kernel_rfl⟩
theorem tyE_S_uint8 : TyE Try.prog 36 5 1 := ⟨by kernel_rfl, by kernel_rfl⟩
theorem tyF_impl_Allow_0 : TyF Try.prog 48 0 0 := ⟨by kernel_rfl⟩
theorem tyF_impl_Allow_1 : TyF Try.prog 48 1 1 := ⟨by kernel_rfl⟩
theorem tyF_impl_Allow_2 : TyF Try.prog 48 2 2 := ⟨by kernel_rfl⟩
theorem tyF_impl_Allow_3 : TyF Try.prog 48 3 3 := ⟨by kernel_rfl⟩
theorem tyF_impl_Count_0 : TyF Try.prog 39 0 0 := ⟨by kernel_rfl⟩
theorem tyF_impl_Count_1 : TyF Try.prog 39 1 1 := ⟨by kernel_rfl⟩
theorem tyF_impl_Count_2 : TyF Try.prog 39 2 2 := ⟨by kernel_rfl⟩
theorem tyF_spec_l1Cur_0 : TyF Try.prog 85 0 0 := ⟨by kernel_rfl⟩
theorem tyF_spec_l1Cur_1 : TyF Try.prog 85 1 1 := ⟨by kernel_rfl⟩
theorem tyF_spec_l1Cur_2 : TyF Try.prog 85 2 2 := ⟨by kernel_rfl⟩
theorem tyM_S_int : TyM Try.prog 24 3 1 8 [.int .i64 0] := ⟨by kernel_rfl, by kernel_rfl, rfl, rfl, rfl⟩
theorem tyP_S_uint8 : TyP Try.prog 36 := ⟨by kernel_rfl, by kernel_rfl⟩
theorem tyP_int : TyP Try.prog 3 := ⟨by kernel_rfl, by kernel_rfl⟩
theorem tyP_uint8 : TyP Try.prog 5 := ⟨by kernel_rfl, by kernel_rfl⟩
theorem tyQ_impl_Allow : TyQ Try.prog 48 [0, 0, 0, 0] := ⟨by kernel_rfl, by kernel_rfl, by kernel_rfl, by kernel_rfl⟩
theorem tyQ_impl_Count : TyQ Try.prog 39 [0, 0, 0] := ⟨by kernel_rfl, by kernel_rfl, by kernel_rfl, by kernel_rfl⟩
theorem tyS_impl_Allow : TyS Try.prog 48 4 := ⟨by kernel_rfl, by kernel_rfl⟩
theorem tyS_impl_Count : TyS Try.prog 39 3 := ⟨by kernel_rfl, by kernel_rfl⟩
theorem tyZ_impl_Allow : TyZ Try.prog 48 [.int .i64 0, .int .i64 0, .int .i64 0, .int .i64 0] := ⟨by kernel_rfl⟩
theorem tyZ_impl_Count : TyZ Try.prog 39 [.int .i64 0, .int .i64 0, .int .i64 0] := ⟨by kernel_rfl⟩
theorem tyZ_spec_l1Cur : TyZ Try.prog 85 [.slice none 0 0, .int .i64 0, .int .i64 0] := ⟨by kernel_rfl⟩
end Go.Proofs.Ytajcfmibcnibpaa
