/- Facts on types and functions of this translation. -/
import Derived.Test.YtbhnekiclbfmgaaSlf
import Derived.Test.YtbhnekiclbfmgaaSlq
import Derived.Test.YtbhnekiclbfmgaaSls
import Derived.Test.YtbhnekiclbfmgaaProg
import Derived.KernelRfl
namespace Go.Proofs.Ytbhnekiclbfmgaa
open SL
theorem fun_impl_AddRange : Fun Try.prog 22 := ⟨by kernel_rfl⟩
theorem fun_impl_CountNumbers : Fun Try.prog 84 := ⟨by kernel_rfl⟩
theorem fun_impl_FirstGap : Fun Try.prog 67 := ⟨by kernel_rfl⟩
theorem fun_impl_IsRanges : Fun Try.prog 49 := ⟨by kernel_rfl⟩
theorem fun_impl_IsRing : Fun Try.prog 64 := ⟨by kernel_rfl⟩
theorem fun_impl_IsRing_1 : Fun Try.prog 81 := ⟨by kernel_rfl⟩
theorem fun_impl_IsSender : Fun Try.prog 47 := ⟨by kernel_rfl⟩
theorem fun_impl_areWhole : Fun Try.prog 78 := ⟨by kernel_rfl⟩
theorem fun_impl_copyRanges : Fun Try.prog 46 := ⟨by kernel_rfl⟩
theorem fun_impl_endsBehind : Fun Try.prog 79 := ⟨by kernel_rfl⟩
theorem fun_impl_following : Fun Try.prog 35 := ⟨by kernel_rfl⟩
theorem fun_impl_isQuic : Fun Try.prog 71 := ⟨by kernel_rfl⟩
theorem fun_impl_isRange : Fun Try.prog 50 := ⟨by kernel_rfl⟩
theorem fun_impl_isRingSize : Fun Try.prog 44 := ⟨by kernel_rfl⟩
theorem fun_impl_within : Fun Try.prog 63 := ⟨by kernel_rfl⟩
theorem fun_slices_ContainsFunc_S_int_int : Fun Try.prog 80 := ⟨by kernel_rfl⟩
theorem fun_slices_IndexFunc_S_int_int : Fun Try.prog 85 := ⟨by kernel_rfl⟩
theorem mixed : Try.prog.follows .mixedOrders = true := by kernel_rfl
theorem tyB_impl_Range : TyB Try.prog 61 [(0, 1), (1, 1)] := ⟨by kernel_rfl⟩
theorem tyE_S_impl_Range : TyE Try.prog 27 61 2 := ⟨by kernel_rfl, by kernel_rfl⟩
theorem tyE_S_int : TyE Try.prog 24 3 1 := ⟨by kernel_rfl, by kernel_rfl⟩
theorem tyF_impl_Range_0 : TyF Try.prog 61 0 0 := ⟨by kernel_rfl⟩
theorem tyF_impl_Range_1 : TyF Try.prog 61 1 1 := ⟨by kernel_rfl⟩
theorem tyF_impl_Receiver_0 : TyF Try.prog 40 0 0 := ⟨by kernel_rfl⟩
theorem tyF_impl_Receiver_2 : TyF Try.prog 40 2 3 := ⟨by kernel_rfl⟩
theorem tyF_impl_Receiver_3 : TyF Try.prog 40 3 4 := ⟨by kernel_rfl⟩
theorem tyF_impl_Ring_0 : TyF Try.prog 26 0 0 := ⟨by kernel_rfl⟩
theorem tyF_impl_Ring_1 : TyF Try.prog 26 1 1 := ⟨by kernel_rfl⟩
theorem tyF_impl_Ring_2 : TyF Try.prog 26 2 2 := ⟨by kernel_rfl⟩
theorem tyF_impl_Ring_3 : TyF Try.prog 26 3 3 := ⟨by kernel_rfl⟩
theorem tyF_impl_Sender_0 : TyF Try.prog 29 0 0 := ⟨by kernel_rfl⟩
theorem tyF_impl_Sender_1 : TyF Try.prog 29 1 1 := ⟨by kernel_rfl⟩
theorem tyF_impl_Sender_2 : TyF Try.prog 29 2 5 := ⟨by kernel_rfl⟩
theorem tyF_impl_Sender_3 : TyF Try.prog 29 3 6 := ⟨by kernel_rfl⟩
theorem tyF_impl_Sender_4 : TyF Try.prog 29 4 7 := ⟨by kernel_rfl⟩
theorem tyF_impl_Sender_5 : TyF Try.prog 29 5 8 := ⟨by kernel_rfl⟩
theorem tyF_impl_Sender_6 : TyF Try.prog 29 6 9 := ⟨by kernel_rfl⟩
theorem tyF_impl_Sender_7 : TyF Try.prog 29 7 10 := ⟨by kernel_rfl⟩
theorem tyF_impl_Sender_8 : TyF Try.prog 29 8 11 := ⟨by kernel_rfl⟩
theorem tyM_S_impl_Range : TyM Try.prog 27 61 2 16 [.int .i64 0, .int .i64 0] := ⟨by kernel_rfl, by kernel_rfl, rfl, rfl, rfl⟩
theorem tyP_S_impl_Range : TyP Try.prog 27 := ⟨by kernel_rfl, by kernel_rfl⟩
theorem tyP_S_int : TyP Try.prog 24 := ⟨by kernel_rfl, by kernel_rfl⟩
theorem tyP_int : TyP Try.prog 3 := ⟨by kernel_rfl, by kernel_rfl⟩
theorem tyS_impl_Range : TyS Try.prog 61 2 := ⟨by kernel_rfl, by kernel_rfl⟩
theorem tyS_impl_Ring : TyS Try.prog 26 4 := ⟨by kernel_rfl, by kernel_rfl⟩
theorem tyS_impl_Sender : TyS Try.prog 29 12 := ⟨by kernel_rfl, by kernel_rfl⟩
theorem tyZ_impl_Range : TyZ Try.prog 61 [.int .i64 0, .int .i64 0] := ⟨by kernel_rfl⟩
end Go.Proofs.Ytbhnekiclbfmgaa
namespace Go.Proofs.Ytbhnekiclbfmgaa
open SL

end Go.Proofs.Ytbhnekiclbfmgaa
namespace Go.Proofs.Ytbhnekiclbfmgaa
open SL

end Go.Proofs.Ytbhnekiclbfmgaa
namespace Go.Proofs.Ytbhnekiclbfmgaa
open SL
theorem tyF_impl_Piece_0 : TyF Try.prog 44 0 0 := ⟨by kernel_rfl⟩
theorem tyF_impl_Piece_1 : TyF Try.prog 44 1 1 := ⟨by kernel_rfl⟩
theorem tyF_impl_Piece_2 : TyF Try.prog 44 2 2 := ⟨by kernel_rfl⟩
theorem tyP_bool : TyP Try.prog 4 := ⟨by kernel_rfl, by kernel_rfl⟩
theorem tyP_string : TyP Try.prog 9 := ⟨by kernel_rfl, by kernel_rfl⟩
end Go.Proofs.Ytbhnekiclbfmgaa
namespace Go.Proofs.Ytbhnekiclbfmgaa
open SL
theorem fun_impl_copyRing : Fun Try.prog 45 := ⟨by kernel_rfl⟩
theorem tyM_S_int : TyM Try.prog 24 3 1 8 [.int .i64 0] := ⟨by kernel_rfl, by kernel_rfl, rfl, rfl, rfl⟩
theorem tyZ_impl_Ring : TyZ Try.prog 26 [.int .i64 0, .int .i64 0, .int .i64 0, .slice none 0 0] := ⟨by kernel_rfl⟩
end Go.Proofs.Ytbhnekiclbfmgaa
namespace Go.Proofs.Ytbhnekiclbfmgaa
open SL
theorem fun_impl_CommonRanges : Fun Try.prog 33 := ⟨by kernel_rfl⟩
theorem fun_impl_EqualRanges : Fun Try.prog 32 := ⟨by kernel_rfl⟩
theorem fun_impl_RemoveRange : Fun Try.prog 34 := ⟨by kernel_rfl⟩
theorem fun_impl_copySender : Fun Try.prog 19 := ⟨by kernel_rfl⟩
theorem fun_impl_isActive : Fun Try.prog 28 := ⟨by kernel_rfl⟩
theorem fun_impl_isInside : Fun Try.prog 31 := ⟨by kernel_rfl⟩
theorem fun_slices_Equal_S_impl_Range_impl_Range : Fun Try.prog 65 := ⟨by kernel_rfl⟩
theorem tyQ_impl_Range : TyQ Try.prog 61 [0, 0] := ⟨by kernel_rfl, by kernel_rfl, by kernel_rfl, by kernel_rfl⟩
theorem tyS_impl_Piece : TyS Try.prog 44 3 := ⟨by kernel_rfl, by kernel_rfl⟩
theorem tyZ_impl_Sender : TyZ Try.prog 29 [.int .i64 0, .int .i64 0, .int .i64 0, .int .i64 0, .slice none 0 0, .slice none 0 0, .slice none 0 0, .slice none 0 0, .int .i64 0, .int .i64 0, .int .i64 0, .int .i64 0] := ⟨by kernel_rfl⟩
end Go.Proofs.Ytbhnekiclbfmgaa
namespace Go.Proofs.Ytbhnekiclbfmgaa
open SL
theorem fun_impl_DropRing : Fun Try.prog 66 := ⟨by kernel_rfl⟩
theorem fun_impl_settlePiece : Fun Try.prog 36 := ⟨by kernel_rfl⟩
end Go.Proofs.Ytbhnekiclbfmgaa
namespace Go.Proofs.Ytbhnekiclbfmgaa
open SL
theorem fun_impl_RoomOf : Fun Try.prog 48 := ⟨by kernel_rfl⟩
theorem fun_impl_WriteRing : Fun Try.prog 21 := ⟨by kernel_rfl⟩
theorem fun_impl_canWrite : Fun Try.prog 20 := ⟨by kernel_rfl⟩
theorem tyCI_uint8_int : TyCI Try.prog 5 3 .i64 := ⟨by kernel_rfl, by kernel_rfl⟩
theorem tyStr_string : Try.prog.underlying 9 = some .string := by kernel_rfl
end Go.Proofs.Ytbhnekiclbfmgaa
namespace Go.Proofs.Ytbhnekiclbfmgaa
open SL
theorem fun_impl_NewRing : Fun Try.prog 18 := ⟨by kernel_rfl⟩
theorem fun_spec_AddRange : Fun Try.prog 27 := ⟨by kernel_rfl⟩
theorem fun_spec_CountNumbers : Fun Try.prog 58 := ⟨by kernel_rfl⟩
theorem fun_spec_FirstGap : Fun Try.prog 59 := ⟨by kernel_rfl⟩
theorem fun_spec_IsRanges : Fun Try.prog 55 := ⟨by kernel_rfl⟩
theorem fun_spec_IsRing : Fun Try.prog 54 := ⟨by kernel_rfl⟩
theorem fun_spec_NewRing : Fun Try.prog 23 := ⟨by kernel_rfl⟩
theorem fun_spec_RoomOf : Fun Try.prog 61 := ⟨by kernel_rfl⟩
theorem fun_spec_l1In : Fun Try.prog 56 := ⟨by kernel_rfl⟩
theorem fun_spec_l3Copy : Fun Try.prog 53 := ⟨by kernel_rfl⟩
theorem fun_spec_l3Fine : Fun Try.prog 62 := ⟨by kernel_rfl⟩
theorem fun_spec_l4Quic : Fun Try.prog 57 := ⟨by kernel_rfl⟩
theorem fun_spec_l8Copy : Fun Try.prog 52 := ⟨by kernel_rfl⟩
theorem fun_spec_l8Power : Fun Try.prog 51 := ⟨by kernel_rfl⟩
theorem fun_spec_l9State : Fun Try.prog 60 := ⟨by kernel_rfl⟩
theorem tyB_impl_Receiver : TyB Try.prog 40 [(0, 1), (1, 2), (3, 1), (4, 1), (5, 1)] := ⟨by kernel_rfl⟩
theorem tyB_impl_Ring : TyB Try.prog 26 [(0, 1), (1, 1), (2, 1), (3, 1)] := ⟨by kernel_rfl⟩
theorem tyB_impl_Sender : TyB Try.prog 29 [(0, 1), (1, 4), (5, 1), (6, 1), (7, 1), (8, 1), (9, 1), (10, 1), (11, 1)] := ⟨by kernel_rfl⟩
theorem tyS_impl_Receiver : TyS Try.prog 40 6 := ⟨by kernel_rfl, by kernel_rfl⟩
theorem tyZ_impl_Receiver : TyZ Try.prog 40 [.int .i64 0, .int .i64 0, .slice none 0 0, .int .i64 0, .int .i64 0, .int .i64 0] := ⟨by kernel_rfl⟩
end Go.Proofs.Ytbhnekiclbfmgaa
namespace Go.Proofs.Ytbhnekiclbfmgaa
open SL
theorem fun_spec_IsSender : Fun Try.prog 25 := ⟨by kernel_rfl⟩
theorem fun_spec_WriteRing : Fun Try.prog 26 := ⟨by kernel_rfl⟩
theorem fun_spec_l9Copy : Fun Try.prog 24 := ⟨by kernel_rfl⟩
end Go.Proofs.Ytbhnekiclbfmgaa
namespace Go.Proofs.Ytbhnekiclbfmgaa
open SL
theorem fun_impl_InsertData_2 : Fun Try.prog 75 := ⟨by kernel_rfl⟩
theorem fun_math_bits_Len : Fun Try.prog 83 := ⟨by kernel_rfl⟩
theorem fun_math_bits_Len64 : Fun Try.prog 95 := ⟨by kernel_rfl⟩
theorem fun_slices_insertionSortCmpFunc_impl_Chunk : Fun Try.prog 86 := ⟨by kernel_rfl⟩
theorem fun_slices_pdqsortCmpFunc_impl_Chunk : Fun Try.prog 82 := ⟨by kernel_rfl⟩
theorem tyCI_int_uint : TyCI Try.prog 3 103 .u64 := ⟨by kernel_rfl, by kernel_rfl⟩
theorem tyCI_uint64_uint8 : TyCI Try.prog 116 5 .u8 := ⟨by kernel_rfl, by kernel_rfl⟩
theorem tyE_S_impl_Chunk : TyE Try.prog 36 92 2 := ⟨by kernel_rfl, by kernel_rfl⟩
theorem tyF_impl_Chunk_0 : TyF Try.prog 92 0 0 := ⟨by kernel_rfl⟩
theorem tyS_impl_Chunk : TyS Try.prog 92 2 := ⟨by kernel_rfl, by kernel_rfl⟩
end Go.Proofs.Ytbhnekiclbfmgaa
namespace Go.Proofs.Ytbhnekiclbfmgaa
open SL
theorem fun_impl_Chunk_end : Fun Try.prog 73 := ⟨by kernel_rfl⟩
theorem tyF_impl_Chunk_1 : TyF Try.prog 92 1 1 := ⟨by kernel_rfl⟩
theorem tyM_S_impl_Chunk : TyM Try.prog 36 92 2 24 [.int .i64 0, .string ByteArray.empty] := ⟨by kernel_rfl, by kernel_rfl, rfl, rfl, rfl⟩
theorem tyZ_impl_Chunk : TyZ Try.prog 92 [.int .i64 0, .string ByteArray.empty] := ⟨by kernel_rfl⟩
end Go.Proofs.Ytbhnekiclbfmgaa
namespace Go.Proofs.Ytbhnekiclbfmgaa
open SL
theorem tyB_impl_Chunk : TyB Try.prog 92 [(0, 1), (1, 1)] := ⟨by kernel_rfl⟩
theorem tyP_S_impl_Chunk : TyP Try.prog 36 := ⟨by kernel_rfl, by kernel_rfl⟩
end Go.Proofs.Ytbhnekiclbfmgaa
namespace Go.Proofs.Ytbhnekiclbfmgaa
open SL
theorem fun_impl_InsertData_1 : Fun Try.prog 72 := ⟨by kernel_rfl⟩
theorem fun_impl_IsBuffer : Fun Try.prog 69 := ⟨by kernel_rfl⟩
theorem fun_impl_copyBuffer : Fun Try.prog 68 := ⟨by kernel_rfl⟩
theorem fun_impl_joined : Fun Try.prog 76 := ⟨by kernel_rfl⟩
theorem fun_slices_SortFunc_S_impl_Chunk_impl_Chunk : Fun Try.prog 74 := ⟨by kernel_rfl⟩
theorem tyB_impl_Buffer : TyB Try.prog 38 [(0, 1), (1, 1)] := ⟨by kernel_rfl⟩
theorem tyF_impl_Buffer_0 : TyF Try.prog 38 0 0 := ⟨by kernel_rfl⟩
theorem tyF_impl_Buffer_1 : TyF Try.prog 38 1 1 := ⟨by kernel_rfl⟩
theorem tyS_impl_Buffer : TyS Try.prog 38 2 := ⟨by kernel_rfl, by kernel_rfl⟩
theorem tyZ_S_impl_Chunk : TyZ Try.prog 36 [.slice none 0 0] := ⟨by kernel_rfl⟩
theorem tyZ_impl_Buffer : TyZ Try.prog 38 [.int .i64 0, .slice none 0 0] := ⟨by kernel_rfl⟩
theorem tyZ_int : TyZ Try.prog 3 [.int .i64 0] := ⟨by kernel_rfl⟩
end Go.Proofs.Ytbhnekiclbfmgaa
namespace Go.Proofs.Ytbhnekiclbfmgaa
open SL
theorem fun_impl_EndOf : Fun Try.prog 70 := ⟨by kernel_rfl⟩
theorem fun_impl_InsertData : Fun Try.prog 41 := ⟨by kernel_rfl⟩
theorem fun_impl_IsReceiver : Fun Try.prog 38 := ⟨by kernel_rfl⟩
theorem fun_impl_ReadyBytes : Fun Try.prog 77 := ⟨by kernel_rfl⟩
theorem fun_impl_contradicts : Fun Try.prog 39 := ⟨by kernel_rfl⟩
theorem fun_impl_copyReceiver : Fun Try.prog 37 := ⟨by kernel_rfl⟩
theorem fun_impl_readyEnd : Fun Try.prog 42 := ⟨by kernel_rfl⟩
theorem fun_impl_takes : Fun Try.prog 40 := ⟨by kernel_rfl⟩
theorem tyF_impl_Receiver_1 : TyF Try.prog 40 1 1 := ⟨by kernel_rfl⟩
theorem tyF_impl_Receiver_4 : TyF Try.prog 40 4 5 := ⟨by kernel_rfl⟩
end Go.Proofs.Ytbhnekiclbfmgaa
namespace Go.Proofs.Ytbhnekiclbfmgaa
open SL
theorem fun_impl_TakeBytes : Fun Try.prog 43 := ⟨by kernel_rfl⟩
end Go.Proofs.Ytbhnekiclbfmgaa
namespace Go.Proofs.Ytbhnekiclbfmgaa
open SL
theorem fun_impl_PeekRing : Fun Try.prog 30 := ⟨by kernel_rfl⟩
theorem fun_impl_one : Fun Try.prog 29 := ⟨by kernel_rfl⟩
theorem tyB_impl_Piece : TyB Try.prog 44 [(0, 1), (1, 1), (2, 1)] := ⟨by kernel_rfl⟩
theorem tyCB_S_uint8_string : TyCB Try.prog 22 9 5 := ⟨by kernel_rfl, by kernel_rfl, by kernel_rfl⟩
theorem tyCI_int_uint8 : TyCI Try.prog 3 5 .u8 := ⟨by kernel_rfl, by kernel_rfl⟩
theorem tyM_S_uint8 : TyM Try.prog 22 5 1 1 [.int .u8 0] := ⟨by kernel_rfl, by kernel_rfl, rfl, rfl, rfl⟩
theorem tyZ_impl_Piece : TyZ Try.prog 44 [.int .i64 0, .string ByteArray.empty, .bool false] := ⟨by kernel_rfl⟩
end Go.Proofs.Ytbhnekiclbfmgaa
namespace Go.Proofs.Ytbhnekiclbfmgaa
open SL
theorem fun_impl_AckPiece : Fun Try.prog 16 := ⟨by kernel_rfl⟩
theorem fun_impl_CloseSender : Fun Try.prog 10 := ⟨by kernel_rfl⟩
theorem fun_impl_LosePiece : Fun Try.prog 14 := ⟨by kernel_rfl⟩
theorem fun_impl_NewReceiver : Fun Try.prog 11 := ⟨by kernel_rfl⟩
theorem fun_impl_NewSender : Fun Try.prog 5 := ⟨by kernel_rfl⟩
theorem fun_impl_NextPiece : Fun Try.prog 12 := ⟨by kernel_rfl⟩
theorem fun_impl_ReadReceiver : Fun Try.prog 17 := ⟨by kernel_rfl⟩
theorem fun_impl_ReceiveData : Fun Try.prog 15 := ⟨by kernel_rfl⟩
theorem fun_impl_SendPiece : Fun Try.prog 13 := ⟨by kernel_rfl⟩
theorem fun_impl_WriteSender : Fun Try.prog 6 := ⟨by kernel_rfl⟩
theorem fun_laws_at : Fun Try.prog 7 := ⟨by kernel_rfl⟩
theorem fun_laws_big : Fun Try.prog 4 := ⟨by kernel_rfl⟩
theorem fun_spec_NewSender : Fun Try.prog 8 := ⟨by kernel_rfl⟩
theorem fun_spec_WriteSender : Fun Try.prog 9 := ⟨by kernel_rfl⟩
theorem tyE_S_impl_Piece : TyE Try.prog 42 44 3 := ⟨by kernel_rfl, by kernel_rfl⟩
theorem tyE_S_uint8 : TyE Try.prog 22 5 1 := ⟨by kernel_rfl, by kernel_rfl⟩
theorem tyM_S_impl_Piece : TyM Try.prog 42 44 3 32 [.int .i64 0, .string ByteArray.empty, .bool false] := ⟨by kernel_rfl, by kernel_rfl, rfl, rfl, rfl⟩
theorem tyP_uint8 : TyP Try.prog 5 := ⟨by kernel_rfl, by kernel_rfl⟩
end Go.Proofs.Ytbhnekiclbfmgaa
