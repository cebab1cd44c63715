/- Facts on types and functions of this translation. -/
import Derived.Test.YtajcfmibcnibpaaSh
import Derived.Test.YtajcfmibcnibpaaSlf
import Derived.Test.YtajcfmibcnibpaaProg
import Derived.KernelRfl
namespace Go.Proofs.Ytajcfmibcnibpaa
open SL
theorem fun_impl_AreCandidates : Fun Try.prog 50 := ⟨by kernel_rfl⟩
theorem fun_impl_IsPriority : Fun Try.prog 66 := ⟨by kernel_rfl⟩
theorem fun_impl_NextStream : Fun Try.prog 17 := ⟨by kernel_rfl⟩
theorem fun_impl_PlainNext : Fun Try.prog 54 := ⟨by kernel_rfl⟩
theorem fun_impl_isQuic : Fun Try.prog 65 := ⟨by kernel_rfl⟩
theorem fun_impl_urgent : Fun Try.prog 51 := ⟨by kernel_rfl⟩
theorem fun_impl_within : Fun Try.prog 57 := ⟨by kernel_rfl⟩
theorem fun_laws_eqCandidate : Fun Try.prog 52 := ⟨by kernel_rfl⟩
theorem fun_laws_eqCandidateS : Fun Try.prog 12 := ⟨by kernel_rfl⟩
theorem fun_laws_eqPriority : Fun Try.prog 67 := ⟨by kernel_rfl⟩
theorem fun_laws_szCandidateS : Fun Try.prog 7 := ⟨by kernel_rfl⟩
theorem fun_laws_toCandidate : Fun Try.prog 49 := ⟨by kernel_rfl⟩
theorem fun_laws_toCandidateS : Fun Try.prog 9 := ⟨by kernel_rfl⟩
theorem fun_laws_toPriority : Fun Try.prog 64 := ⟨by kernel_rfl⟩
theorem fun_spec_AreCandidates : Fun Try.prog 48 := ⟨by kernel_rfl⟩
theorem fun_spec_IsPriority : Fun Try.prog 63 := ⟨by kernel_rfl⟩
theorem fun_spec_MostUrgent : Fun Try.prog 8 := ⟨by kernel_rfl⟩
theorem fun_spec_NextStream : Fun Try.prog 16 := ⟨by kernel_rfl⟩
theorem fun_spec_l14After : Fun Try.prog 53 := ⟨by kernel_rfl⟩
theorem fun_spec_l1In : Fun Try.prog 58 := ⟨by kernel_rfl⟩
theorem fun_spec_l4Quic : Fun Try.prog 62 := ⟨by kernel_rfl⟩
theorem mixed : Try.prog.follows .mixedOrders = true := by kernel_rfl
theorem tyE_S_impl_Candidate : TyE Try.prog 26 65 3 := ⟨by kernel_rfl, by kernel_rfl⟩
theorem tyE_S_int : TyE Try.prog 24 3 1 := ⟨by kernel_rfl, by kernel_rfl⟩
theorem tyE_S_laws_Candidate : TyE Try.prog 22 69 3 := ⟨by kernel_rfl, by kernel_rfl⟩
theorem tyF_impl_Candidate_0 : TyF Try.prog 65 0 0 := ⟨by kernel_rfl⟩
theorem tyF_impl_Candidate_1 : TyF Try.prog 65 1 1 := ⟨by kernel_rfl⟩
theorem tyF_impl_Priority_0 : TyF Try.prog 63 0 0 := ⟨by kernel_rfl⟩
theorem tyF_impl_Priority_1 : TyF Try.prog 63 1 1 := ⟨by kernel_rfl⟩
theorem tyF_laws_Candidate_0 : TyF Try.prog 69 0 0 := ⟨by kernel_rfl⟩
theorem tyF_laws_Candidate_1 : TyF Try.prog 69 1 1 := ⟨by kernel_rfl⟩
theorem tyF_laws_Priority_0 : TyF Try.prog 67 0 0 := ⟨by kernel_rfl⟩
theorem tyF_laws_Priority_1 : TyF Try.prog 67 1 1 := ⟨by kernel_rfl⟩
theorem tyM_S_impl_Candidate : TyM Try.prog 26 65 3 24 [.int .i64 0, .int .i64 0, .bool false] := ⟨by kernel_rfl, by kernel_rfl, rfl, rfl, rfl⟩
theorem tyM_S_int : TyM Try.prog 24 3 1 8 [.int .i64 0] := ⟨by kernel_rfl, by kernel_rfl, rfl, rfl, rfl⟩
theorem tyP_bool : TyP Try.prog 4 := ⟨by kernel_rfl, by kernel_rfl⟩
theorem tyP_int : TyP Try.prog 3 := ⟨by kernel_rfl, by kernel_rfl⟩
theorem tyS_impl_Candidate : TyS Try.prog 65 3 := ⟨by kernel_rfl, by kernel_rfl⟩
theorem tyS_impl_Priority : TyS Try.prog 63 2 := ⟨by kernel_rfl, by kernel_rfl⟩
theorem tyS_laws_Candidate : TyS Try.prog 69 3 := ⟨by kernel_rfl, by kernel_rfl⟩
theorem tyS_laws_Priority : TyS Try.prog 67 2 := ⟨by kernel_rfl, by kernel_rfl⟩
theorem tyZ_impl_Candidate : TyZ Try.prog 65 [.int .i64 0, .int .i64 0, .bool false] := ⟨by kernel_rfl⟩
theorem tyZ_impl_Priority : TyZ Try.prog 63 [.int .i64 0, .bool false] := ⟨by kernel_rfl⟩
end Go.Proofs.Ytajcfmibcnibpaa
