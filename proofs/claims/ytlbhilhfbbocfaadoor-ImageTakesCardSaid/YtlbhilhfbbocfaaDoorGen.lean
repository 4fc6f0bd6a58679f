import Derived.Test.YtlbhilhfbbocfaaDoorProg
import Derived.Test.YtlbhilhfbbocfaaDoorVe
import Derived.Test.YtlbhilhfbbocfaaDoorSl
set_option linter.unusedVariables false
namespace Go.Proofs.YtlbhilhfbbocfaaDoor.G
open Go Go.VC Go.Proofs Go.Proofs.YtlbhilhfbbocfaaDoor
set_option maxRecDepth 100000
theorem noAsk : noAsk Tryd.prog = true := by kernel_rfl
theorem mixed : Tryd.prog.follows .mixedOrders = true := by kernel_rfl
abbrev T_int64 : Nat := 2
abbrev T_int : Nat := 3
abbrev T_bool : Nat := 4
abbrev T_uint8 : Nat := 5
abbrev T_string : Nat := 9
abbrev T_interface : Nat := 20
abbrev T_uint32 : Nat := 22
abbrev T_a32_uint8 : Nat := 23
abbrev T_api_Manifest : Nat := 25
abbrev T_l_uint8 : Nat := 26
abbrev T_api_Staging : Nat := 28
abbrev T_api_Errno : Nat := 31
abbrev T_l_api_Instr : Nat := 41
abbrev T_error : Nat := 43
abbrev T_l_int : Nat := 46
abbrev T_api_Instr : Nat := 53
abbrev T_law19_Cut : Nat := 62
abbrev T_uint64 : Nat := 78
abbrev T_p_octet_Reader : Nat := 79
abbrev T_a8_uint32 : Nat := 88
abbrev T_uint : Nat := 91
abbrev T_l_p_fault_Fault : Nat := 92
abbrev T_p_fault_Fault : Nat := 94
abbrev T_fault_Fault : Nat := 96
abbrev T_p_p_fault_Fault : Nat := 98
abbrev T_p_sha_Hash : Nat := 102
abbrev T_octet_Reader : Nat := 107
abbrev T_l_uint32 : Nat := 111
abbrev T_a64_uint8 : Nat := 127
abbrev T_sha_Hash : Nat := 129
abbrev T_a8_uint8 : Nat := 131
abbrev T_a64_uint32 : Nat := 146
abbrev T_a24_uint8 : Nat := 148
abbrev N_law19_ImageTakes : Nat := 3
abbrev N_law19_ImageChecks : Nat := 4
abbrev N_law19_ImageRight : Nat := 5
abbrev N_law19_ImagePieces : Nat := 6
abbrev N_law19_ImageBack : Nat := 7
abbrev N_law19_few : Nat := 8
abbrev N_image_Begin : Nat := 9
abbrev N_ref19_May : Nat := 10
abbrev N_law19_same : Nat := 11
abbrev N_image_Chunk : Nat := 12
abbrev N_ref19_Chunk : Nat := 13
abbrev N_image_Finish : Nat := 14
abbrev N_ref19_Check : Nat := 15
abbrev N_law19_told : Nat := 16
abbrev N_law19_awake : Nat := 17
abbrev N_ref07_List : Nat := 18
abbrev N_image_Check : Nat := 19
abbrev N_code_Encode : Nat := 20
abbrev N_code_Check : Nat := 21
abbrev N_image_Of : Nat := 22
abbrev N_image_Encode : Nat := 23
abbrev N_image_Decode : Nat := 24
abbrev N_image_may : Nat := 25
abbrev N_image_program : Nat := 26
abbrev N_ref04_Sum : Nat := 27
abbrev N_ref07_Check : Nat := 28
abbrev N_fault_Path : Nat := 29
abbrev N_fault_Code : Nat := 30
abbrev N_fault_Text : Nat := 31
abbrev N_fault_New : Nat := 32
abbrev N_code_formed : Nat := 33
abbrev N_code_jumps : Nat := 34
abbrev N_code_Number : Nat := 35
abbrev N_sha_Sum : Nat := 36
abbrev N_octet_Put : Nat := 37
abbrev N_octet_Read : Nat := 38
abbrev N_octet_Reader_Num : Nat := 39
abbrev N_octet_Reader_Must : Nat := 40
abbrev N_octet_Reader_Bytes : Nat := 41
abbrev N_octet_Reader_At : Nat := 42
abbrev N_octet_Reader_End : Nat := 43
abbrev N_fault_In : Nat := 44
abbrev N_code_Decode : Nat := 45
abbrev N_ref04_padded : Nat := 46
abbrev N_ref04_block : Nat := 47
abbrev N_ref07_Formed : Nat := 48
abbrev N_ref07_Number : Nat := 49
abbrev N_fault_row : Nat := 50
abbrev N_errors_As : Nat := 51
abbrev N_strconv_Itoa : Nat := 52
abbrev N_sha_New : Nat := 53
abbrev N_sha_Hash_Write : Nat := 54
abbrev N_sha_Hash_Sum : Nat := 55
abbrev N_octet_Reader_fail : Nat := 56
abbrev N_octet_Get : Nat := 57
abbrev N_octet_Reader_Left : Nat := 58
abbrev N_ref04_words : Nat := 59
abbrev N_ref04_keys : Nat := 60
abbrev N_ref04_turn : Nat := 61
abbrev N_internal_strconv_Itoa : Nat := 66
abbrev N_sha_block : Nat := 67
abbrev N_sha_Hash_Copy : Nat := 68
abbrev N_internal_strconv_FormatInt : Nat := 72
abbrev N_sha_turn : Nat := 73
abbrev N_internal_strconv_small : Nat := 74
abbrev N_internal_strconv_numDigits : Nat := 75
abbrev N_internal_strconv_formatBase10 : Nat := 76
abbrev N_internal_strconv_formatBits : Nat := 77
abbrev N_math_bits_RotateLeft32 : Nat := 78
theorem zc_int64 : zc Tryd.prog T_int64 = ([.int .i64 (0)] : List Value).toArray := by kernel_rfl
theorem zc_int : zc Tryd.prog T_int = ([.int .i64 (0)] : List Value).toArray := by kernel_rfl
theorem zc_bool : zc Tryd.prog T_bool = ([.bool false] : List Value).toArray := by kernel_rfl
theorem zc_uint8 : zc Tryd.prog T_uint8 = ([.int .u8 (0)] : List Value).toArray := by kernel_rfl
theorem zc_string : zc Tryd.prog T_string = ([.string ⟨#[]⟩] : List Value).toArray := by kernel_rfl
theorem zc_uint32 : zc Tryd.prog T_uint32 = ([.int .u32 (0)] : List Value).toArray := by kernel_rfl
theorem zc_l_uint8 : zc Tryd.prog T_l_uint8 = ([(Sl.v ⟨none, 0, 0⟩)] : List Value).toArray := by kernel_rfl
theorem S_l_uint8 : SlT Tryd.prog T_l_uint8 T_uint8 1 1 := ⟨by kernel_rfl, by kernel_rfl, by decide⟩
theorem Z_l_uint8 : SlZ Tryd.prog T_l_uint8 T_uint8 (.int .u8 (0)) 1 := ⟨by kernel_rfl, by kernel_rfl⟩
theorem zc_api_Errno : zc Tryd.prog T_api_Errno = ([.int .i64 (0)] : List Value).toArray := by kernel_rfl
theorem zc_l_api_Instr : zc Tryd.prog T_l_api_Instr = ([(Sl.v ⟨none, 0, 0⟩)] : List Value).toArray := by kernel_rfl
theorem S_l_api_Instr : SlT Tryd.prog T_l_api_Instr T_api_Instr 4 4 := ⟨by kernel_rfl, by kernel_rfl, by decide⟩
theorem zc_l_int : zc Tryd.prog T_l_int = ([(Sl.v ⟨none, 0, 0⟩)] : List Value).toArray := by kernel_rfl
theorem S_l_int : SlT Tryd.prog T_l_int T_int 1 8 := ⟨by kernel_rfl, by kernel_rfl, by decide⟩
theorem Z_l_int : SlZ Tryd.prog T_l_int T_int (.int .i64 (0)) 8 := ⟨by kernel_rfl, by kernel_rfl⟩
theorem zc_api_Instr : zc Tryd.prog T_api_Instr = ([.int .u8 (0), .int .u8 (0), .int .u8 (0), .int .u8 (0)] : List Value).toArray := by kernel_rfl
theorem zc_law19_Cut : zc Tryd.prog T_law19_Cut = ([(Sl.v ⟨none, 0, 0⟩), .int .i64 (0), .int .u32 (0), (Sl.v ⟨none, 0, 0⟩)] : List Value).toArray := by kernel_rfl
theorem zc_uint64 : zc Tryd.prog T_uint64 = ([.int .u64 (0)] : List Value).toArray := by kernel_rfl
theorem zc_p_octet_Reader : zc Tryd.prog T_p_octet_Reader = ([.pointer none] : List Value).toArray := by kernel_rfl
theorem zc_a8_uint32 : zc Tryd.prog T_a8_uint32 = ([.int .u32 (0), .int .u32 (0), .int .u32 (0), .int .u32 (0), .int .u32 (0), .int .u32 (0), .int .u32 (0), .int .u32 (0)] : List Value).toArray := by kernel_rfl
theorem zc_uint : zc Tryd.prog T_uint = ([.int .u64 (0)] : List Value).toArray := by kernel_rfl
theorem zc_l_p_fault_Fault : zc Tryd.prog T_l_p_fault_Fault = ([(Sl.v ⟨none, 0, 0⟩)] : List Value).toArray := by kernel_rfl
theorem S_l_p_fault_Fault : SlT Tryd.prog T_l_p_fault_Fault T_p_fault_Fault 1 8 := ⟨by kernel_rfl, by kernel_rfl, by decide⟩
theorem Z_l_p_fault_Fault : SlZ Tryd.prog T_l_p_fault_Fault T_p_fault_Fault (.pointer none) 8 := ⟨by kernel_rfl, by kernel_rfl⟩
theorem zc_p_fault_Fault : zc Tryd.prog T_p_fault_Fault = ([.pointer none] : List Value).toArray := by kernel_rfl
theorem zc_fault_Fault : zc Tryd.prog T_fault_Fault = ([.int .i64 (0), .int .i64 (0), .nilIface] : List Value).toArray := by kernel_rfl
theorem zc_p_p_fault_Fault : zc Tryd.prog T_p_p_fault_Fault = ([.pointer none] : List Value).toArray := by kernel_rfl
theorem zc_p_sha_Hash : zc Tryd.prog T_p_sha_Hash = ([.pointer none] : List Value).toArray := by kernel_rfl
theorem zc_octet_Reader : zc Tryd.prog T_octet_Reader = ([(Sl.v ⟨none, 0, 0⟩), .int .i64 (0), .nilIface] : List Value).toArray := by kernel_rfl
theorem zc_l_uint32 : zc Tryd.prog T_l_uint32 = ([(Sl.v ⟨none, 0, 0⟩)] : List Value).toArray := by kernel_rfl
theorem S_l_uint32 : SlT Tryd.prog T_l_uint32 T_uint32 1 4 := ⟨by kernel_rfl, by kernel_rfl, by decide⟩
theorem Z_l_uint32 : SlZ Tryd.prog T_l_uint32 T_uint32 (.int .u32 (0)) 4 := ⟨by kernel_rfl, by kernel_rfl⟩
theorem zc_a8_uint8 : zc Tryd.prog T_a8_uint8 = ([.int .u8 (0), .int .u8 (0), .int .u8 (0), .int .u8 (0), .int .u8 (0), .int .u8 (0), .int .u8 (0), .int .u8 (0)] : List Value).toArray := by kernel_rfl
end Go.Proofs.YtlbhilhfbbocfaaDoor.G
