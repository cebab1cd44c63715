/- Facts on types and functions of this translation. -/
import Derived.Test.YtildklpahfbnpaaSlf
import Derived.Test.YtildklpahfbnpaaSlq
import Derived.Test.YtildklpahfbnpaaSls
import Derived.Test.YtildklpahfbnpaaProg
import Derived.KernelRfl
namespace Go.Proofs.Ytildklpahfbnpaa
open SL
theorem fun_impl_StreamOf : Fun Try.prog 27 := ⟨by kernel_rfl⟩
theorem fun_laws_eqConn : Fun Try.prog 28 := ⟨by kernel_rfl⟩
theorem fun_laws_heldStream : Fun Try.prog 30 := ⟨by kernel_rfl⟩
theorem fun_laws_markConn : Fun Try.prog 29 := ⟨by kernel_rfl⟩
theorem fun_laws_markStream : Fun Try.prog 22 := ⟨by kernel_rfl⟩
theorem fun_laws_szConn : Fun Try.prog 24 := ⟨by kernel_rfl⟩
theorem fun_laws_toConn : Fun Try.prog 26 := ⟨by kernel_rfl⟩
theorem fun_spec_StreamOf : Fun Try.prog 25 := ⟨by kernel_rfl⟩
theorem tyS_laws_Conn : TyS Try.prog 79 50 := ⟨by kernel_rfl, by kernel_rfl⟩
end Go.Proofs.Ytildklpahfbnpaa
