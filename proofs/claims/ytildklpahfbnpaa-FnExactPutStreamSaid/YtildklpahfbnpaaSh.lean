/- Short names. -/
import Derived.Test.YtildklpahfbnpaaSln
namespace Go.Proofs.Ytildklpahfbnpaa
namespace SL
theorem MV : type_of% @rw_move := @rw_move
theorem AS : type_of% @rw_assign := @rw_assign
theorem FA : type_of% @rw_fieldAddr := @rw_fieldAddr
theorem FX : type_of% @rw_fieldAddrX := @rw_fieldAddrX
theorem LD : type_of% @rw_load := @rw_load
theorem LS : type_of% @rw_load_s := @rw_load_s
theorem ST : type_of% @rw_store := @rw_store
theorem ON : type_of% @rw_on := @rw_on
theorem OF : type_of% @rw_off := @rw_off
theorem OU : type_of% @rw_offu := @rw_offu
theorem ND : type_of% @rw_end := @rw_end
theorem SQ : type_of% @gw_seq := @gw_seq
theorem RG : type_of% @gw_region := @gw_region
theorem BK : type_of% @gw_block := @gw_block
theorem IB : type_of% @gw_inBlock := @gw_inBlock
theorem EX : type_of% @gw_exit := @gw_exit
theorem SK : type_of% @gw_skip := @gw_skip
theorem CT : type_of% @gw_condT := @gw_condT
theorem CF : type_of% @gw_condF := @gw_condF
theorem PT : type_of% @rw_pT := @rw_pT
theorem PF : type_of% @rw_pF := @rw_pF
theorem AL : type_of% @rw_alloc := @rw_alloc
theorem BX : type_of% @rw_box := @rw_box
theorem NT : type_of% @rw_not := @rw_not
theorem XT : type_of% @rw_extract := @rw_extract
theorem CV1 : type_of% @rw_cv := @rw_cv
theorem CN1 : type_of% @rw_cn := @rw_cn
theorem DT : type_of% @dw_det := @dw_det
theorem DA : type_of% @dw_add := @dw_add
theorem EQ1 : type_of% @rw_eql := @rw_eql
theorem NS : type_of% @rw_neqSelf := @rw_neqSelf
end SL
end Go.Proofs.Ytildklpahfbnpaa
