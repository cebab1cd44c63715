/- Facts on types and functions of this translation. -/
import Derived.Test.YtajcfmibcnibpaaSh
import Derived.Test.YtajcfmibcnibpaaSlf
import Derived.Test.YtajcfmibcnibpaaFactsS
import Derived.Test.YtajcfmibcnibpaaProg
import Derived.KernelRfl
namespace Go.Proofs.Ytajcfmibcnibpaa
open SL
theorem fun_impl_MostUrgent : Fun Try.prog 10 := ⟨by kernel_rfl⟩
theorem fun_impl_ServeOrder : Fun Try.prog 19 := ⟨by kernel_rfl⟩
theorem fun_laws_eqIntS : Fun Try.prog 11 := ⟨by kernel_rfl⟩
theorem fun_laws_heldIntS : Fun Try.prog 15 := ⟨by kernel_rfl⟩
theorem fun_laws_markCandidateS : Fun Try.prog 13 := ⟨by kernel_rfl⟩
theorem fun_laws_markIntS : Fun Try.prog 14 := ⟨by kernel_rfl⟩
theorem fun_spec_ServeOrder : Fun Try.prog 18 := ⟨by kernel_rfl⟩
end Go.Proofs.Ytajcfmibcnibpaa
