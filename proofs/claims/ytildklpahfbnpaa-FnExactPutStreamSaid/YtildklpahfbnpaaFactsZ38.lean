/- Facts on types and functions of this translation. -/
import Derived.Test.YtildklpahfbnpaaSlf
import Derived.Test.YtildklpahfbnpaaSlq
import Derived.Test.YtildklpahfbnpaaSls
import Derived.Test.YtildklpahfbnpaaProg
import Derived.KernelRfl
namespace Go.Proofs.Ytildklpahfbnpaa
open SL
theorem fun_impl_PutStream : Fun Try.prog 20 := ⟨by kernel_rfl⟩
theorem fun_impl_PutStream_1 : Fun Try.prog 73 := ⟨by kernel_rfl⟩
theorem fun_laws_markStream : Fun Try.prog 22 := ⟨by kernel_rfl⟩
theorem fun_slices_Insert_S_impl_Stream_impl_Stream : Fun Try.prog 74 := ⟨by kernel_rfl⟩
theorem fun_spec_PutStream : Fun Try.prog 19 := ⟨by kernel_rfl⟩
end Go.Proofs.Ytildklpahfbnpaa
