/- Facts on types and functions of this translation. -/
import Derived.Test.YtbhnekiclbfmgaaGreatSlf
import Derived.Test.YtbhnekiclbfmgaaGreatSlq
import Derived.Test.YtbhnekiclbfmgaaGreatSls
import Derived.Test.YtbhnekiclbfmgaaGreatProg
import Derived.KernelRfl
namespace Go.Proofs.YtbhnekiclbfmgaaGreat
open SL
theorem fun_spec_IsRanges : Fun Tryz.prog 134 := ⟨by kernel_rfl⟩
theorem fun_spec_IsRing : Fun Tryz.prog 133 := ⟨by kernel_rfl⟩
theorem fun_spec_RoomOf : Fun Tryz.prog 201 := ⟨by kernel_rfl⟩
theorem fun_spec_l1In : Fun Tryz.prog 90 := ⟨by kernel_rfl⟩
theorem fun_spec_l3Copy : Fun Tryz.prog 164 := ⟨by kernel_rfl⟩
theorem fun_spec_l3Fine : Fun Tryz.prog 166 := ⟨by kernel_rfl⟩
theorem fun_spec_l8Copy : Fun Tryz.prog 163 := ⟨by kernel_rfl⟩
theorem fun_spec_l8Power : Fun Tryz.prog 89 := ⟨by kernel_rfl⟩
theorem mixed : Tryz.prog.follows .mixedOrders = true := by kernel_rfl
theorem tyB_impl_Range : TyB Tryz.prog 132 [(0, 1), (1, 1)] := ⟨by kernel_rfl⟩
theorem tyB_impl_Ring : TyB Tryz.prog 30 [(0, 1), (1, 1), (2, 1), (3, 1)] := ⟨by kernel_rfl⟩
theorem tyCI_uint8_int : TyCI Tryz.prog 5 3 .i64 := ⟨by kernel_rfl, by kernel_rfl⟩
theorem tyE_S_impl_Range : TyE Tryz.prog 31 132 2 := ⟨by kernel_rfl, by kernel_rfl⟩
theorem tyE_S_int : TyE Tryz.prog 28 3 1 := ⟨by kernel_rfl, by kernel_rfl⟩
theorem tyF_impl_Piece_0 : TyF Tryz.prog 96 0 0 := ⟨by kernel_rfl⟩
theorem tyF_impl_Piece_1 : TyF Tryz.prog 96 1 1 := ⟨by kernel_rfl⟩
theorem tyF_impl_Piece_2 : TyF Tryz.prog 96 2 2 := ⟨by kernel_rfl⟩
theorem tyF_impl_Range_0 : TyF Tryz.prog 132 0 0 := ⟨by kernel_rfl⟩
theorem tyF_impl_Range_1 : TyF Tryz.prog 132 1 1 := ⟨by kernel_rfl⟩
theorem tyF_impl_Ring_0 : TyF Tryz.prog 30 0 0 := ⟨by kernel_rfl⟩
theorem tyF_impl_Ring_1 : TyF Tryz.prog 30 1 1 := ⟨by kernel_rfl⟩
theorem tyF_impl_Ring_2 : TyF Tryz.prog 30 2 2 := ⟨by kernel_rfl⟩
theorem tyF_impl_Ring_3 : TyF Tryz.prog 30 3 3 := ⟨by kernel_rfl⟩
theorem tyF_impl_Sender_1 : TyF Tryz.prog 33 1 1 := ⟨by kernel_rfl⟩
theorem tyF_impl_Sender_5 : TyF Tryz.prog 33 5 8 := ⟨by kernel_rfl⟩
theorem tyM_S_impl_Range : TyM Tryz.prog 31 132 2 16 [.int .i64 0, .int .i64 0] := ⟨by kernel_rfl, by kernel_rfl, rfl, rfl, rfl⟩
theorem tyM_S_int : TyM Tryz.prog 28 3 1 8 [.int .i64 0] := ⟨by kernel_rfl, by kernel_rfl, rfl, rfl, rfl⟩
theorem tyP_S_int : TyP Tryz.prog 28 := ⟨by kernel_rfl, by kernel_rfl⟩
theorem tyP_bool : TyP Tryz.prog 4 := ⟨by kernel_rfl, by kernel_rfl⟩
theorem tyP_int : TyP Tryz.prog 3 := ⟨by kernel_rfl, by kernel_rfl⟩
theorem tyP_string : TyP Tryz.prog 9 := ⟨by kernel_rfl, by kernel_rfl⟩
theorem tyS_impl_Range : TyS Tryz.prog 132 2 := ⟨by kernel_rfl, by kernel_rfl⟩
theorem tyS_impl_Ring : TyS Tryz.prog 30 4 := ⟨by kernel_rfl, by kernel_rfl⟩
theorem tyStr_string : Tryz.prog.underlying 9 = some .string := by kernel_rfl
theorem tyZ_impl_Range : TyZ Tryz.prog 132 [.int .i64 0, .int .i64 0] := ⟨by kernel_rfl⟩
theorem tyZ_impl_Ring : TyZ Tryz.prog 30 [.int .i64 0, .int .i64 0, .int .i64 0, .slice none 0 0] := ⟨by kernel_rfl⟩
end Go.Proofs.YtbhnekiclbfmgaaGreat
namespace Go.Proofs.YtbhnekiclbfmgaaGreat
open SL
theorem fun_spec_l1Below : Fun Tryz.prog 104 := ⟨by kernel_rfl⟩
theorem fun_spec_l1Byte : Fun Tryz.prog 150 := ⟨by kernel_rfl⟩
theorem fun_spec_l1Pick : Fun Tryz.prog 189 := ⟨by kernel_rfl⟩
theorem tyB_spec_l1Cur : TyB Tryz.prog 116 [(0, 1), (1, 1), (2, 1)] := ⟨by kernel_rfl⟩
theorem tyE_S_string : TyE Tryz.prog 172 9 1 := ⟨by kernel_rfl, by kernel_rfl⟩
theorem tyE_S_uint8 : TyE Tryz.prog 22 5 1 := ⟨by kernel_rfl, by kernel_rfl⟩
theorem tyF_spec_l1Cur_0 : TyF Tryz.prog 116 0 0 := ⟨by kernel_rfl⟩
theorem tyF_spec_l1Cur_1 : TyF Tryz.prog 116 1 1 := ⟨by kernel_rfl⟩
theorem tyF_spec_l1Cur_2 : TyF Tryz.prog 116 2 2 := ⟨by kernel_rfl⟩
theorem tyM_S_string : TyM Tryz.prog 172 9 1 16 [.string ByteArray.empty] := ⟨by kernel_rfl, by kernel_rfl, rfl, rfl, rfl⟩
theorem tyP_S_uint8 : TyP Tryz.prog 22 := ⟨by kernel_rfl, by kernel_rfl⟩
theorem tyP_uint8 : TyP Tryz.prog 5 := ⟨by kernel_rfl, by kernel_rfl⟩
theorem tyZ_spec_l1Cur : TyZ Tryz.prog 116 [.slice none 0 0, .int .i64 0, .int .i64 0] := ⟨by kernel_rfl⟩
end Go.Proofs.YtbhnekiclbfmgaaGreat
namespace Go.Proofs.YtbhnekiclbfmgaaGreat
open SL
theorem fun_spec_AddRange : Fun Tryz.prog 135 := ⟨by kernel_rfl⟩
theorem fun_spec_CountNumbers : Fun Tryz.prog 136 := ⟨by kernel_rfl⟩
theorem fun_spec_FirstGap : Fun Tryz.prog 137 := ⟨by kernel_rfl⟩
theorem fun_spec_l4Quic : Fun Tryz.prog 60 := ⟨by kernel_rfl⟩
theorem fun_spec_l9State : Fun Tryz.prog 138 := ⟨by kernel_rfl⟩
theorem tyB_impl_Sender : TyB Tryz.prog 33 [(0, 1), (1, 4), (5, 1), (6, 1), (7, 1), (8, 1), (9, 1), (10, 1), (11, 1)] := ⟨by kernel_rfl⟩
theorem tyF_impl_Sender_0 : TyF Tryz.prog 33 0 0 := ⟨by kernel_rfl⟩
theorem tyF_impl_Sender_2 : TyF Tryz.prog 33 2 5 := ⟨by kernel_rfl⟩
theorem tyF_impl_Sender_3 : TyF Tryz.prog 33 3 6 := ⟨by kernel_rfl⟩
theorem tyF_impl_Sender_4 : TyF Tryz.prog 33 4 7 := ⟨by kernel_rfl⟩
theorem tyF_impl_Sender_6 : TyF Tryz.prog 33 6 9 := ⟨by kernel_rfl⟩
theorem tyF_impl_Sender_7 : TyF Tryz.prog 33 7 10 := ⟨by kernel_rfl⟩
theorem tyF_impl_Sender_8 : TyF Tryz.prog 33 8 11 := ⟨by kernel_rfl⟩
theorem tyP_S_impl_Range : TyP Tryz.prog 31 := ⟨by kernel_rfl, by kernel_rfl⟩
theorem tyS_impl_Sender : TyS Tryz.prog 33 12 := ⟨by kernel_rfl, by kernel_rfl⟩
theorem tyZ_impl_Sender : TyZ Tryz.prog 33 [.int .i64 0, .int .i64 0, .int .i64 0, .int .i64 0, .slice none 0 0, .slice none 0 0, .slice none 0 0, .slice none 0 0, .int .i64 0, .int .i64 0, .int .i64 0, .int .i64 0] := ⟨by kernel_rfl⟩
end Go.Proofs.YtbhnekiclbfmgaaGreat
namespace Go.Proofs.YtbhnekiclbfmgaaGreat
open SL
theorem fun_spec_IsSender : Fun Tryz.prog 79 := ⟨by kernel_rfl⟩
theorem fun_spec_WriteRing : Fun Tryz.prog 193 := ⟨by kernel_rfl⟩
theorem fun_spec_l9Copy : Fun Tryz.prog 131 := ⟨by kernel_rfl⟩
end Go.Proofs.YtbhnekiclbfmgaaGreat
namespace Go.Proofs.YtbhnekiclbfmgaaGreat
open SL
theorem fun_spec_CommonRanges : Fun Tryz.prog 196 := ⟨by kernel_rfl⟩
theorem fun_spec_RemoveRange : Fun Tryz.prog 197 := ⟨by kernel_rfl⟩
theorem fun_spec_l9Piece : Fun Tryz.prog 194 := ⟨by kernel_rfl⟩
theorem fun_spec_l9Range : Fun Tryz.prog 195 := ⟨by kernel_rfl⟩
theorem tyQ_impl_Range : TyQ Tryz.prog 132 [0, 0] := ⟨by kernel_rfl, by kernel_rfl, by kernel_rfl, by kernel_rfl⟩
theorem tyS_impl_Piece : TyS Tryz.prog 96 3 := ⟨by kernel_rfl, by kernel_rfl⟩
end Go.Proofs.YtbhnekiclbfmgaaGreat
namespace Go.Proofs.YtbhnekiclbfmgaaGreat
open SL
theorem fun_spec_DropRing : Fun Tryz.prog 198 := ⟨by kernel_rfl⟩
end Go.Proofs.YtbhnekiclbfmgaaGreat
namespace Go.Proofs.YtbhnekiclbfmgaaGreat
open SL
theorem fun_spec_EncodeFixed : Fun Tryz.prog 180 := ⟨by kernel_rfl⟩
theorem fun_spec_l2Byte : Fun Tryz.prog 167 := ⟨by kernel_rfl⟩
theorem tyCB_S_uint8_string : TyCB Tryz.prog 22 9 5 := ⟨by kernel_rfl, by kernel_rfl, by kernel_rfl⟩
theorem tyCI_int_uint8 : TyCI Tryz.prog 3 5 .u8 := ⟨by kernel_rfl, by kernel_rfl⟩
theorem tyM_S_uint8 : TyM Tryz.prog 22 5 1 1 [.int .u8 0] := ⟨by kernel_rfl, by kernel_rfl, rfl, rfl, rfl⟩
end Go.Proofs.YtbhnekiclbfmgaaGreat
namespace Go.Proofs.YtbhnekiclbfmgaaGreat
open SL
theorem fun_spec_PeekRing : Fun Tryz.prog 142 := ⟨by kernel_rfl⟩
theorem tyB_impl_Piece : TyB Tryz.prog 96 [(0, 1), (1, 1), (2, 1)] := ⟨by kernel_rfl⟩
theorem tyZ_impl_Piece : TyZ Tryz.prog 96 [.int .i64 0, .string ByteArray.empty, .bool false] := ⟨by kernel_rfl⟩
end Go.Proofs.YtbhnekiclbfmgaaGreat
namespace Go.Proofs.YtbhnekiclbfmgaaGreat
open SL
theorem fun_spec_l1Once : Fun Tryz.prog 49 := ⟨by kernel_rfl⟩
end Go.Proofs.YtbhnekiclbfmgaaGreat
namespace Go.Proofs.YtbhnekiclbfmgaaGreat
open SL
theorem fun_spec_AckPiece : Fun Tryz.prog 184 := ⟨by kernel_rfl⟩
theorem fun_spec_CloseSender : Fun Tryz.prog 187 := ⟨by kernel_rfl⟩
theorem fun_spec_LosePiece : Fun Tryz.prog 186 := ⟨by kernel_rfl⟩
theorem fun_spec_NextPiece : Fun Tryz.prog 86 := ⟨by kernel_rfl⟩
theorem fun_spec_ResetSender : Fun Tryz.prog 188 := ⟨by kernel_rfl⟩
theorem fun_spec_SendPiece : Fun Tryz.prog 183 := ⟨by kernel_rfl⟩
theorem fun_spec_WriteSender : Fun Tryz.prog 182 := ⟨by kernel_rfl⟩
theorem fun_spec_l4Data : Fun Tryz.prog 176 := ⟨by kernel_rfl⟩
theorem fun_spec_l9Some : Fun Tryz.prog 185 := ⟨by kernel_rfl⟩
end Go.Proofs.YtbhnekiclbfmgaaGreat
namespace Go.Proofs.YtbhnekiclbfmgaaGreat
open SL
theorem fun_spec_NewRing : Fun Tryz.prog 115 := ⟨by kernel_rfl⟩
end Go.Proofs.YtbhnekiclbfmgaaGreat
namespace Go.Proofs.YtbhnekiclbfmgaaGreat
open SL
theorem fun_spec_NewSender : Fun Tryz.prog 65 := ⟨by kernel_rfl⟩
theorem fun_spec_l1PickInt : Fun Tryz.prog 108 := ⟨by kernel_rfl⟩
theorem fun_spec_l9Step : Fun Tryz.prog 175 := ⟨by kernel_rfl⟩
end Go.Proofs.YtbhnekiclbfmgaaGreat
namespace Go.Proofs.YtbhnekiclbfmgaaGreat
open SL
theorem fun_spec_IsBuffer : Fun Tryz.prog 139 := ⟨by kernel_rfl⟩
theorem tyE_S_impl_Chunk : TyE Tryz.prog 36 141 2 := ⟨by kernel_rfl, by kernel_rfl⟩
theorem tyF_impl_Buffer_0 : TyF Tryz.prog 38 0 0 := ⟨by kernel_rfl⟩
theorem tyF_impl_Buffer_1 : TyF Tryz.prog 38 1 1 := ⟨by kernel_rfl⟩
theorem tyF_impl_Chunk_0 : TyF Tryz.prog 141 0 0 := ⟨by kernel_rfl⟩
theorem tyF_impl_Chunk_1 : TyF Tryz.prog 141 1 1 := ⟨by kernel_rfl⟩
theorem tyP_S_impl_Chunk : TyP Tryz.prog 36 := ⟨by kernel_rfl, by kernel_rfl⟩
theorem tyS_impl_Buffer : TyS Tryz.prog 38 2 := ⟨by kernel_rfl, by kernel_rfl⟩
theorem tyS_impl_Chunk : TyS Tryz.prog 141 2 := ⟨by kernel_rfl, by kernel_rfl⟩
theorem tyZ_impl_Chunk : TyZ Tryz.prog 141 [.int .i64 0, .string ByteArray.empty] := ⟨by kernel_rfl⟩
end Go.Proofs.YtbhnekiclbfmgaaGreat
namespace Go.Proofs.YtbhnekiclbfmgaaGreat
open SL
theorem fun_spec_BufferRanges : Fun Tryz.prog 199 := ⟨by kernel_rfl⟩
theorem fun_spec_ByteAt : Fun Tryz.prog 200 := ⟨by kernel_rfl⟩
theorem fun_spec_l6Copy : Fun Tryz.prog 165 := ⟨by kernel_rfl⟩
theorem tyB_impl_Buffer : TyB Tryz.prog 38 [(0, 1), (1, 1)] := ⟨by kernel_rfl⟩
theorem tyB_impl_Chunk : TyB Tryz.prog 141 [(0, 1), (1, 1)] := ⟨by kernel_rfl⟩
theorem tyM_S_impl_Chunk : TyM Tryz.prog 36 141 2 24 [.int .i64 0, .string ByteArray.empty] := ⟨by kernel_rfl, by kernel_rfl, rfl, rfl, rfl⟩
theorem tyZ_impl_Buffer : TyZ Tryz.prog 38 [.int .i64 0, .slice none 0 0] := ⟨by kernel_rfl⟩
end Go.Proofs.YtbhnekiclbfmgaaGreat
namespace Go.Proofs.YtbhnekiclbfmgaaGreat
open SL
theorem fun_spec_ReadyBytes : Fun Tryz.prog 141 := ⟨by kernel_rfl⟩
end Go.Proofs.YtbhnekiclbfmgaaGreat
namespace Go.Proofs.YtbhnekiclbfmgaaGreat
open SL
theorem fun_spec_EndOf : Fun Tryz.prog 140 := ⟨by kernel_rfl⟩
theorem fun_spec_InsertData : Fun Tryz.prog 191 := ⟨by kernel_rfl⟩
theorem fun_spec_IsReceiver : Fun Tryz.prog 81 := ⟨by kernel_rfl⟩
theorem fun_spec_TakeBytes : Fun Tryz.prog 192 := ⟨by kernel_rfl⟩
theorem fun_spec_l7Copy : Fun Tryz.prog 132 := ⟨by kernel_rfl⟩
theorem fun_spec_l7Final : Fun Tryz.prog 190 := ⟨by kernel_rfl⟩
theorem tyB_impl_Receiver : TyB Tryz.prog 40 [(0, 1), (1, 2), (3, 1), (4, 1), (5, 1)] := ⟨by kernel_rfl⟩
theorem tyF_impl_Receiver_0 : TyF Tryz.prog 40 0 0 := ⟨by kernel_rfl⟩
theorem tyF_impl_Receiver_1 : TyF Tryz.prog 40 1 1 := ⟨by kernel_rfl⟩
theorem tyF_impl_Receiver_2 : TyF Tryz.prog 40 2 3 := ⟨by kernel_rfl⟩
theorem tyF_impl_Receiver_3 : TyF Tryz.prog 40 3 4 := ⟨by kernel_rfl⟩
theorem tyF_impl_Receiver_4 : TyF Tryz.prog 40 4 5 := ⟨by kernel_rfl⟩
theorem tyS_impl_Receiver : TyS Tryz.prog 40 6 := ⟨by kernel_rfl, by kernel_rfl⟩
theorem tyZ_impl_Receiver : TyZ Tryz.prog 40 [.int .i64 0, .int .i64 0, .slice none 0 0, .int .i64 0, .int .i64 0, .int .i64 0] := ⟨by kernel_rfl⟩
end Go.Proofs.YtbhnekiclbfmgaaGreat
namespace Go.Proofs.YtbhnekiclbfmgaaGreat
open SL
theorem fun_spec_NewReceiver : Fun Tryz.prog 62 := ⟨by kernel_rfl⟩
theorem fun_spec_ReadReceiver : Fun Tryz.prog 178 := ⟨by kernel_rfl⟩
theorem fun_spec_ReceiveData : Fun Tryz.prog 177 := ⟨by kernel_rfl⟩
theorem fun_spec_ReceiveReset : Fun Tryz.prog 179 := ⟨by kernel_rfl⟩
end Go.Proofs.YtbhnekiclbfmgaaGreat
namespace Go.Proofs.YtbhnekiclbfmgaaGreat
open SL
theorem fun_spec_DefaultConf : Fun Tryz.prog 26 := ⟨by kernel_rfl⟩
theorem tyB_impl_Conf : TyB Tryz.prog 25 [(0, 1), (1, 1), (2, 1), (3, 1), (4, 1), (5, 1), (6, 1), (7, 1)] := ⟨by kernel_rfl⟩
theorem tyF_impl_Conf_0 : TyF Tryz.prog 25 0 0 := ⟨by kernel_rfl⟩
theorem tyF_impl_Conf_1 : TyF Tryz.prog 25 1 1 := ⟨by kernel_rfl⟩
theorem tyF_impl_Conf_3 : TyF Tryz.prog 25 3 3 := ⟨by kernel_rfl⟩
theorem tyF_impl_Conf_5 : TyF Tryz.prog 25 5 5 := ⟨by kernel_rfl⟩
theorem tyF_impl_Conf_6 : TyF Tryz.prog 25 6 6 := ⟨by kernel_rfl⟩
theorem tyF_impl_Conf_7 : TyF Tryz.prog 25 7 7 := ⟨by kernel_rfl⟩
theorem tyS_impl_Conf : TyS Tryz.prog 25 8 := ⟨by kernel_rfl, by kernel_rfl⟩
theorem tyZ_impl_Conf : TyZ Tryz.prog 25 [.int .i64 0, .int .i64 0, .int .i64 0, .int .i64 0, .int .i64 0, .int .i64 0, .int .i64 0, .int .i64 0] := ⟨by kernel_rfl⟩
end Go.Proofs.YtbhnekiclbfmgaaGreat
namespace Go.Proofs.YtbhnekiclbfmgaaGreat
open SL
theorem fun_spec_CanReceiveOn : Fun Tryz.prog 64 := ⟨by kernel_rfl⟩
theorem fun_spec_CanSendOn : Fun Tryz.prog 63 := ⟨by kernel_rfl⟩
theorem fun_spec_DefaultPriority : Fun Tryz.prog 61 := ⟨by kernel_rfl⟩
theorem fun_spec_IsConf : Fun Tryz.prog 23 := ⟨by kernel_rfl⟩
theorem fun_spec_IsOwn : Fun Tryz.prog 114 := ⟨by kernel_rfl⟩
theorem fun_spec_IsServerId : Fun Tryz.prog 152 := ⟨by kernel_rfl⟩
theorem fun_spec_IsUniId : Fun Tryz.prog 113 := ⟨by kernel_rfl⟩
theorem fun_spec_NewCredit : Fun Tryz.prog 66 := ⟨by kernel_rfl⟩
theorem fun_spec_NewWindow : Fun Tryz.prog 67 := ⟨by kernel_rfl⟩
theorem tyB_impl_Credit : TyB Tryz.prog 35 [(0, 1), (1, 1), (2, 1), (3, 1)] := ⟨by kernel_rfl⟩
theorem tyB_impl_Priority : TyB Tryz.prog 44 [(0, 1), (1, 1)] := ⟨by kernel_rfl⟩
theorem tyB_impl_Stream : TyB Tryz.prog 46 [(0, 1), (1, 12), (13, 4), (17, 6), (23, 6), (29, 2), (31, 1), (32, 1), (33, 1), (34, 1), (35, 1), (36, 1), (37, 1), (38, 1)] := ⟨by kernel_rfl⟩
theorem tyB_impl_Window : TyB Tryz.prog 42 [(0, 1), (1, 1), (2, 1), (3, 1), (4, 1), (5, 1)] := ⟨by kernel_rfl⟩
theorem tyF_impl_Conf_2 : TyF Tryz.prog 25 2 2 := ⟨by kernel_rfl⟩
theorem tyF_impl_Conf_4 : TyF Tryz.prog 25 4 4 := ⟨by kernel_rfl⟩
theorem tyF_impl_Stream_1 : TyF Tryz.prog 46 1 1 := ⟨by kernel_rfl⟩
theorem tyF_impl_Stream_2 : TyF Tryz.prog 46 2 13 := ⟨by kernel_rfl⟩
theorem tyF_impl_Stream_4 : TyF Tryz.prog 46 4 23 := ⟨by kernel_rfl⟩
theorem tyS_impl_Credit : TyS Tryz.prog 35 4 := ⟨by kernel_rfl, by kernel_rfl⟩
theorem tyS_impl_Priority : TyS Tryz.prog 44 2 := ⟨by kernel_rfl, by kernel_rfl⟩
theorem tyS_impl_Stream : TyS Tryz.prog 46 39 := ⟨by kernel_rfl, by kernel_rfl⟩
theorem tyS_impl_Window : TyS Tryz.prog 42 6 := ⟨by kernel_rfl, by kernel_rfl⟩
theorem tyZ_impl_Credit : TyZ Tryz.prog 35 [.int .i64 0, .int .i64 0, .int .i64 0, .int .i64 0] := ⟨by kernel_rfl⟩
theorem tyZ_impl_Priority : TyZ Tryz.prog 44 [.int .i64 0, .bool false] := ⟨by kernel_rfl⟩
theorem tyZ_impl_Stream : TyZ Tryz.prog 46 [.int .i64 0, .int .i64 0, .int .i64 0, .int .i64 0, .int .i64 0, .slice none 0 0, .slice none 0 0, .slice none 0 0, .slice none 0 0, .int .i64 0, .int .i64 0, .int .i64 0, .int .i64 0, .int .i64 0, .int .i64 0, .int .i64 0, .int .i64 0, .int .i64 0, .int .i64 0, .slice none 0 0, .int .i64 0, .int .i64 0, .int .i64 0, .int .i64 0, .int .i64 0, .int .i64 0, .int .i64 0, .int .i64 0, .int .i64 0, .int .i64 0, .bool false, .bool false, .bool false, .bool false, .bool false, .bool false, .bool false, .int .i64 0, .bool false] := ⟨by kernel_rfl⟩
theorem tyZ_impl_Window : TyZ Tryz.prog 42 [.int .i64 0, .int .i64 0, .int .i64 0, .int .i64 0, .int .i64 0, .int .i64 0] := ⟨by kernel_rfl⟩
end Go.Proofs.YtbhnekiclbfmgaaGreat
namespace Go.Proofs.YtbhnekiclbfmgaaGreat
open SL
theorem fun_spec_NewStream : Fun Tryz.prog 8 := ⟨by kernel_rfl⟩
theorem fun_spec_l15Conf : Fun Tryz.prog 109 := ⟨by kernel_rfl⟩
theorem fun_spec_l15Stream : Fun Tryz.prog 130 := ⟨by kernel_rfl⟩
theorem fun_spec_l7Receiver : Fun Tryz.prog 162 := ⟨by kernel_rfl⟩
theorem fun_spec_l9Sender : Fun Tryz.prog 161 := ⟨by kernel_rfl⟩
theorem tyF_impl_Credit_0 : TyF Tryz.prog 35 0 0 := ⟨by kernel_rfl⟩
theorem tyF_impl_Credit_1 : TyF Tryz.prog 35 1 1 := ⟨by kernel_rfl⟩
theorem tyF_impl_Stream_12 : TyF Tryz.prog 46 12 37 := ⟨by kernel_rfl⟩
theorem tyF_impl_Stream_3 : TyF Tryz.prog 46 3 17 := ⟨by kernel_rfl⟩
theorem tyF_impl_Stream_6 : TyF Tryz.prog 46 6 31 := ⟨by kernel_rfl⟩
theorem tyF_impl_Stream_7 : TyF Tryz.prog 46 7 32 := ⟨by kernel_rfl⟩
theorem tyF_impl_Stream_8 : TyF Tryz.prog 46 8 33 := ⟨by kernel_rfl⟩
theorem tyF_impl_Stream_9 : TyF Tryz.prog 46 9 34 := ⟨by kernel_rfl⟩
end Go.Proofs.YtbhnekiclbfmgaaGreat
namespace Go.Proofs.YtbhnekiclbfmgaaGreat
open SL
end Go.Proofs.YtbhnekiclbfmgaaGreat
namespace Go.Proofs.YtbhnekiclbfmgaaGreat
open SL
theorem fun_impl_AddRange : Fun Tryz.prog 158 := ⟨by kernel_rfl⟩
theorem fun_impl_Chunk_end : Fun Tryz.prog 159 := ⟨by kernel_rfl⟩
theorem fun_impl_CountNumbers : Fun Tryz.prog 156 := ⟨by kernel_rfl⟩
theorem fun_impl_EndOf : Fun Tryz.prog 126 := ⟨by kernel_rfl⟩
theorem fun_impl_EqualBuffers : Fun Tryz.prog 145 := ⟨by kernel_rfl⟩
theorem fun_impl_EqualRanges : Fun Tryz.prog 144 := ⟨by kernel_rfl⟩
theorem fun_impl_EqualReceivers : Fun Tryz.prog 93 := ⟨by kernel_rfl⟩
theorem fun_impl_EqualRings : Fun Tryz.prog 143 := ⟨by kernel_rfl⟩
theorem fun_impl_EqualSenders : Fun Tryz.prog 92 := ⟨by kernel_rfl⟩
theorem fun_impl_FirstGap : Fun Tryz.prog 122 := ⟨by kernel_rfl⟩
theorem fun_impl_IsBuffer : Fun Tryz.prog 125 := ⟨by kernel_rfl⟩
theorem fun_impl_IsCredit : Fun Tryz.prog 72 := ⟨by kernel_rfl⟩
theorem fun_impl_IsPriority : Fun Tryz.prog 75 := ⟨by kernel_rfl⟩
theorem fun_impl_IsRanges : Fun Tryz.prog 120 := ⟨by kernel_rfl⟩
theorem fun_impl_IsReceived : Fun Tryz.prog 84 := ⟨by kernel_rfl⟩
theorem fun_impl_IsReceiver : Fun Tryz.prog 73 := ⟨by kernel_rfl⟩
theorem fun_impl_IsRecvOver : Fun Tryz.prog 19 := ⟨by kernel_rfl⟩
theorem fun_impl_IsRing : Fun Tryz.prog 119 := ⟨by kernel_rfl⟩
theorem fun_impl_IsRing_1 : Fun Tryz.prog 154 := ⟨by kernel_rfl⟩
theorem fun_impl_IsSendOver : Fun Tryz.prog 17 := ⟨by kernel_rfl⟩
theorem fun_impl_IsSender : Fun Tryz.prog 71 := ⟨by kernel_rfl⟩
theorem fun_impl_IsStream : Fun Tryz.prog 10 := ⟨by kernel_rfl⟩
theorem fun_impl_IsWindow : Fun Tryz.prog 74 := ⟨by kernel_rfl⟩
theorem fun_impl_ReadyBytes : Fun Tryz.prog 160 := ⟨by kernel_rfl⟩
theorem fun_impl_areWhole : Fun Tryz.prog 121 := ⟨by kernel_rfl⟩
theorem fun_impl_copyRanges : Fun Tryz.prog 157 := ⟨by kernel_rfl⟩
theorem fun_impl_endsBehind : Fun Tryz.prog 123 := ⟨by kernel_rfl⟩
theorem fun_impl_flags : Fun Tryz.prog 91 := ⟨by kernel_rfl⟩
theorem fun_impl_following : Fun Tryz.prog 124 := ⟨by kernel_rfl⟩
theorem fun_impl_isQuic : Fun Tryz.prog 70 := ⟨by kernel_rfl⟩
theorem fun_impl_isRange : Fun Tryz.prog 155 := ⟨by kernel_rfl⟩
theorem fun_impl_isRingSize : Fun Tryz.prog 87 := ⟨by kernel_rfl⟩
theorem fun_impl_readyEnd : Fun Tryz.prog 127 := ⟨by kernel_rfl⟩
theorem fun_impl_within : Fun Tryz.prog 88 := ⟨by kernel_rfl⟩
theorem fun_slices_ContainsFunc_S_int_int : Fun Tryz.prog 153 := ⟨by kernel_rfl⟩
theorem fun_slices_Equal_S_impl_Chunk_impl_Chunk : Fun Tryz.prog 170 := ⟨by kernel_rfl⟩
theorem fun_slices_Equal_S_impl_Range_impl_Range : Fun Tryz.prog 169 := ⟨by kernel_rfl⟩
theorem fun_slices_Equal_S_int_int : Fun Tryz.prog 168 := ⟨by kernel_rfl⟩
theorem fun_slices_IndexFunc_S_int_int : Fun Tryz.prog 174 := ⟨by kernel_rfl⟩
theorem fun_spec_EqualBuffers : Fun Tryz.prog 118 := ⟨by kernel_rfl⟩
theorem fun_spec_EqualRanges : Fun Tryz.prog 117 := ⟨by kernel_rfl⟩
theorem fun_spec_EqualReceivers : Fun Tryz.prog 69 := ⟨by kernel_rfl⟩
theorem fun_spec_EqualRings : Fun Tryz.prog 116 := ⟨by kernel_rfl⟩
theorem fun_spec_EqualSenders : Fun Tryz.prog 68 := ⟨by kernel_rfl⟩
theorem fun_spec_IsCredit : Fun Tryz.prog 80 := ⟨by kernel_rfl⟩
theorem fun_spec_IsPriority : Fun Tryz.prog 83 := ⟨by kernel_rfl⟩
theorem fun_spec_IsReceived : Fun Tryz.prog 85 := ⟨by kernel_rfl⟩
theorem fun_spec_IsRecvOver : Fun Tryz.prog 20 := ⟨by kernel_rfl⟩
theorem fun_spec_IsSendOver : Fun Tryz.prog 18 := ⟨by kernel_rfl⟩
theorem fun_spec_IsStream : Fun Tryz.prog 16 := ⟨by kernel_rfl⟩
theorem fun_spec_IsWindow : Fun Tryz.prog 82 := ⟨by kernel_rfl⟩
theorem tyA_7_bool : TyA Tryz.prog 102 4 7 := ⟨by kernel_rfl, by kernel_rfl, by kernel_rfl, by kernel_rfl, by kernel_rfl⟩
theorem tyF_impl_Credit_2 : TyF Tryz.prog 35 2 2 := ⟨by kernel_rfl⟩
theorem tyF_impl_Credit_3 : TyF Tryz.prog 35 3 3 := ⟨by kernel_rfl⟩
theorem tyF_impl_Priority_0 : TyF Tryz.prog 44 0 0 := ⟨by kernel_rfl⟩
theorem tyF_impl_Stream_0 : TyF Tryz.prog 46 0 0 := ⟨by kernel_rfl⟩
theorem tyF_impl_Stream_10 : TyF Tryz.prog 46 10 35 := ⟨by kernel_rfl⟩
theorem tyF_impl_Stream_11 : TyF Tryz.prog 46 11 36 := ⟨by kernel_rfl⟩
theorem tyF_impl_Stream_13 : TyF Tryz.prog 46 13 38 := ⟨by kernel_rfl⟩
theorem tyF_impl_Stream_5 : TyF Tryz.prog 46 5 29 := ⟨by kernel_rfl⟩
theorem tyF_impl_Window_0 : TyF Tryz.prog 42 0 0 := ⟨by kernel_rfl⟩
theorem tyF_impl_Window_1 : TyF Tryz.prog 42 1 1 := ⟨by kernel_rfl⟩
theorem tyF_impl_Window_2 : TyF Tryz.prog 42 2 2 := ⟨by kernel_rfl⟩
theorem tyF_impl_Window_3 : TyF Tryz.prog 42 3 3 := ⟨by kernel_rfl⟩
theorem tyF_impl_Window_4 : TyF Tryz.prog 42 4 4 := ⟨by kernel_rfl⟩
theorem tyF_impl_Window_5 : TyF Tryz.prog 42 5 5 := ⟨by kernel_rfl⟩
theorem tyQ_impl_Chunk : TyQ Tryz.prog 141 [0, 2] := ⟨by kernel_rfl, by kernel_rfl, by kernel_rfl, by kernel_rfl⟩
theorem tyQ_impl_Credit : TyQ Tryz.prog 35 [0, 0, 0, 0] := ⟨by kernel_rfl, by kernel_rfl, by kernel_rfl, by kernel_rfl⟩
theorem tyQ_impl_Priority : TyQ Tryz.prog 44 [0, 1] := ⟨by kernel_rfl, by kernel_rfl, by kernel_rfl, by kernel_rfl⟩
theorem tyQ_impl_Window : TyQ Tryz.prog 42 [0, 0, 0, 0, 0, 0] := ⟨by kernel_rfl, by kernel_rfl, by kernel_rfl, by kernel_rfl⟩
theorem tyS_7_bool : TyS Tryz.prog 102 7 := ⟨by kernel_rfl, by kernel_rfl⟩
theorem tyZ_7_bool : TyZ Tryz.prog 102 [.bool false, .bool false, .bool false, .bool false, .bool false, .bool false, .bool false] := ⟨by kernel_rfl⟩
end Go.Proofs.YtbhnekiclbfmgaaGreat
namespace Go.Proofs.YtbhnekiclbfmgaaGreat
open SL
end Go.Proofs.YtbhnekiclbfmgaaGreat
namespace Go.Proofs.YtbhnekiclbfmgaaGreat
open SL
theorem fun_impl_NextPiece : Fun Tryz.prog 76 := ⟨by kernel_rfl⟩
theorem fun_impl_PeekRing : Fun Tryz.prog 129 := ⟨by kernel_rfl⟩
theorem fun_impl_isActive : Fun Tryz.prog 128 := ⟨by kernel_rfl⟩
theorem fun_impl_one : Fun Tryz.prog 105 := ⟨by kernel_rfl⟩
end Go.Proofs.YtbhnekiclbfmgaaGreat
namespace Go.Proofs.YtbhnekiclbfmgaaGreat
open SL
theorem fun_impl_EqualStreams : Fun Tryz.prog 24 := ⟨by kernel_rfl⟩
theorem fun_impl_FindStream : Fun Tryz.prog 31 := ⟨by kernel_rfl⟩
theorem fun_impl_FindStream_1 : Fun Tryz.prog 100 := ⟨by kernel_rfl⟩
theorem fun_impl_PutStream_1 : Fun Tryz.prog 98 := ⟨by kernel_rfl⟩
theorem fun_impl_copyBuffer : Fun Tryz.prog 172 := ⟨by kernel_rfl⟩
theorem fun_impl_copyReceiver : Fun Tryz.prog 147 := ⟨by kernel_rfl⟩
theorem fun_impl_copyRing : Fun Tryz.prog 171 := ⟨by kernel_rfl⟩
theorem fun_impl_copySender : Fun Tryz.prog 146 := ⟨by kernel_rfl⟩
theorem fun_impl_copyStream : Fun Tryz.prog 96 := ⟨by kernel_rfl⟩
theorem fun_impl_copyStreams : Fun Tryz.prog 95 := ⟨by kernel_rfl⟩
theorem fun_slices_EqualFunc_S_impl_Stream_S_impl_Stream_impl_Stream_impl_Stream : Fun Tryz.prog 107 := ⟨by kernel_rfl⟩
theorem fun_slices_IndexFunc_S_impl_Stream_impl_Stream : Fun Tryz.prog 97 := ⟨by kernel_rfl⟩
theorem fun_slices_Insert_S_impl_Stream_impl_Stream : Fun Tryz.prog 99 := ⟨by kernel_rfl⟩
theorem fun_spec_EqualStreams : Fun Tryz.prog 9 := ⟨by kernel_rfl⟩
theorem fun_spec_FindStream : Fun Tryz.prog 46 := ⟨by kernel_rfl⟩
theorem fun_spec_l15Copy : Fun Tryz.prog 78 := ⟨by kernel_rfl⟩
theorem tyE_S_impl_Stream : TyE Tryz.prog 57 46 39 := ⟨by kernel_rfl, by kernel_rfl⟩
theorem tyM_S_impl_Stream : TyM Tryz.prog 57 46 39 352 [.int .i64 0, .int .i64 0, .int .i64 0, .int .i64 0, .int .i64 0, .slice none 0 0, .slice none 0 0, .slice none 0 0, .slice none 0 0, .int .i64 0, .int .i64 0, .int .i64 0, .int .i64 0, .int .i64 0, .int .i64 0, .int .i64 0, .int .i64 0, .int .i64 0, .int .i64 0, .slice none 0 0, .int .i64 0, .int .i64 0, .int .i64 0, .int .i64 0, .int .i64 0, .int .i64 0, .int .i64 0, .int .i64 0, .int .i64 0, .int .i64 0, .bool false, .bool false, .bool false, .bool false, .bool false, .bool false, .bool false, .int .i64 0, .bool false] := ⟨by kernel_rfl, by kernel_rfl, rfl, rfl, rfl⟩
end Go.Proofs.YtbhnekiclbfmgaaGreat
namespace Go.Proofs.YtbhnekiclbfmgaaGreat
open SL
theorem fun_impl_IsOver : Fun Tryz.prog 11 := ⟨by kernel_rfl⟩
theorem fun_spec_IsOver : Fun Tryz.prog 106 := ⟨by kernel_rfl⟩
end Go.Proofs.YtbhnekiclbfmgaaGreat
namespace Go.Proofs.YtbhnekiclbfmgaaGreat
open SL
end Go.Proofs.YtbhnekiclbfmgaaGreat
namespace Go.Proofs.YtbhnekiclbfmgaaGreat
open SL
theorem fun_impl_AreStreams : Fun Tryz.prog 32 := ⟨by kernel_rfl⟩
theorem fun_impl_SeenTotal_1 : Fun Tryz.prog 103 := ⟨by kernel_rfl⟩
theorem fun_impl_SentTotal_1 : Fun Tryz.prog 102 := ⟨by kernel_rfl⟩
theorem fun_impl_total : Fun Tryz.prog 101 := ⟨by kernel_rfl⟩
theorem fun_spec_AreStreams : Fun Tryz.prog 33 := ⟨by kernel_rfl⟩
end Go.Proofs.YtbhnekiclbfmgaaGreat
namespace Go.Proofs.YtbhnekiclbfmgaaGreat
open SL
theorem fun_impl_WantsToSend : Fun Tryz.prog 12 := ⟨by kernel_rfl⟩
theorem fun_spec_WantsToSend : Fun Tryz.prog 21 := ⟨by kernel_rfl⟩
theorem tyB_impl_Candidate : TyB Tryz.prog 112 [(0, 1), (1, 2)] := ⟨by kernel_rfl⟩
theorem tyM_S_impl_Candidate : TyM Tryz.prog 71 112 3 24 [.int .i64 0, .int .i64 0, .bool false] := ⟨by kernel_rfl, by kernel_rfl, rfl, rfl, rfl⟩
theorem tyZ_impl_Candidate : TyZ Tryz.prog 112 [.int .i64 0, .int .i64 0, .bool false] := ⟨by kernel_rfl⟩
end Go.Proofs.YtbhnekiclbfmgaaGreat
namespace Go.Proofs.YtbhnekiclbfmgaaGreat
open SL
theorem fun_spec_PutStream : Fun Tryz.prog 29 := ⟨by kernel_rfl⟩
theorem fun_spec_l15Any : Fun Tryz.prog 77 := ⟨by kernel_rfl⟩
end Go.Proofs.YtbhnekiclbfmgaaGreat
namespace Go.Proofs.YtbhnekiclbfmgaaGreat
open SL
theorem fun_spec_l16List : Fun Tryz.prog 94 := ⟨by kernel_rfl⟩
theorem fun_spec_l1New : Fun Tryz.prog 48 := ⟨by kernel_rfl⟩
end Go.Proofs.YtbhnekiclbfmgaaGreat
namespace Go.Proofs.YtbhnekiclbfmgaaGreat
open SL
theorem fun_impl_CandidatesOf : Fun Tryz.prog 42 := ⟨by kernel_rfl⟩
theorem fun_impl_CountOver : Fun Tryz.prog 44 := ⟨by kernel_rfl⟩
theorem fun_impl_EqualTables : Fun Tryz.prog 47 := ⟨by kernel_rfl⟩
theorem fun_impl_PutStream : Fun Tryz.prog 28 := ⟨by kernel_rfl⟩
theorem fun_impl_SeenTotal : Fun Tryz.prog 36 := ⟨by kernel_rfl⟩
theorem fun_impl_SentTotal : Fun Tryz.prog 35 := ⟨by kernel_rfl⟩
theorem fun_laws_big : Fun Tryz.prog 5 := ⟨by kernel_rfl⟩
theorem fun_laws_sameIds : Fun Tryz.prog 41 := ⟨by kernel_rfl⟩
theorem fun_spec_CandidatesOf : Fun Tryz.prog 43 := ⟨by kernel_rfl⟩
theorem fun_spec_CountOver : Fun Tryz.prog 45 := ⟨by kernel_rfl⟩
theorem fun_spec_DrawCandidatesOf : Fun Tryz.prog 34 := ⟨by kernel_rfl⟩
theorem fun_spec_DrawEqualTables : Fun Tryz.prog 40 := ⟨by kernel_rfl⟩
theorem fun_spec_DrawFindStream : Fun Tryz.prog 39 := ⟨by kernel_rfl⟩
theorem fun_spec_DrawPutStream : Fun Tryz.prog 27 := ⟨by kernel_rfl⟩
theorem fun_spec_EqualTables : Fun Tryz.prog 30 := ⟨by kernel_rfl⟩
theorem fun_spec_SeenTotal : Fun Tryz.prog 38 := ⟨by kernel_rfl⟩
theorem fun_spec_SentTotal : Fun Tryz.prog 37 := ⟨by kernel_rfl⟩
theorem tyE_S_impl_Candidate : TyE Tryz.prog 71 112 3 := ⟨by kernel_rfl, by kernel_rfl⟩
theorem tyS_impl_Candidate : TyS Tryz.prog 112 3 := ⟨by kernel_rfl, by kernel_rfl⟩
end Go.Proofs.YtbhnekiclbfmgaaGreat
