/- Facts on types and functions of this translation. -/
import Derived.Test.YtildklpahfbnpaaSlf
import Derived.Test.YtildklpahfbnpaaSlq
import Derived.Test.YtildklpahfbnpaaSls
import Derived.Test.YtildklpahfbnpaaProg
import Derived.KernelRfl
namespace Go.Proofs.Ytildklpahfbnpaa
open SL
theorem fun_impl_CloseConn : Fun Try.prog 32 := ⟨by kernel_rfl⟩
theorem fun_impl_copyConn : Fun Try.prog 97 := ⟨by kernel_rfl⟩
theorem fun_impl_within : Fun Try.prog 98 := ⟨by kernel_rfl⟩
theorem fun_laws_eqConn : Fun Try.prog 28 := ⟨by kernel_rfl⟩
theorem fun_laws_heldConn : Fun Try.prog 33 := ⟨by kernel_rfl⟩
theorem fun_laws_markConn : Fun Try.prog 29 := ⟨by kernel_rfl⟩
theorem fun_laws_szConn : Fun Try.prog 24 := ⟨by kernel_rfl⟩
theorem fun_laws_toConn : Fun Try.prog 26 := ⟨by kernel_rfl⟩
theorem fun_spec_CloseConn : Fun Try.prog 31 := ⟨by kernel_rfl⟩
theorem fun_spec_l17Copy : Fun Try.prog 95 := ⟨by kernel_rfl⟩
theorem fun_spec_l17Packets : Fun Try.prog 159 := ⟨by kernel_rfl⟩
theorem fun_spec_l1In : Fun Try.prog 96 := ⟨by kernel_rfl⟩
theorem tyS_laws_Conn : TyS Try.prog 79 50 := ⟨by kernel_rfl, by kernel_rfl⟩
end Go.Proofs.Ytildklpahfbnpaa
