import Derived.Test.YtomoejbamegpoaaDoorProg
import Derived.Test.YtomoejbamegpoaaDoorSl
set_option linter.unusedVariables false
namespace Go.Proofs.YtomoejbamegpoaaDoor.G
open Go Go.VC Go.Proofs Go.Proofs.YtomoejbamegpoaaDoor
set_option maxRecDepth 100000
theorem noAsk : noAsk Tryd.prog = true := by kernel_rfl
theorem mixed : Tryd.prog.follows .mixedOrders = true := by kernel_rfl
abbrev T_int64 : Nat := 2
abbrev T_int : Nat := 3
abbrev T_bool : Nat := 4
abbrev T_uint8 : Nat := 5
abbrev T_string : Nat := 9
abbrev T_interface : Nat := 20
abbrev T_l_api_Field : Nat := 22
abbrev T_api_Rule : Nat := 24
abbrev T_l_uint8 : Nat := 25
abbrev T_uint64 : Nat := 26
abbrev T_law10_Wider : Nat := 28
abbrev T_error : Nat := 31
abbrev T_api_Field : Nat := 35
abbrev T_api_Cap : Nat := 38
abbrev T_law10_Caps : Nat := 41
abbrev T_api_Errno : Nat := 42
abbrev T_l_int : Nat := 55
abbrev T_l_api_Instr : Nat := 60
abbrev T_api_Instr : Nat := 74
abbrev T_l_p_fault_Fault : Nat := 80
abbrev T_p_fault_Fault : Nat := 82
abbrev T_fault_Fault : Nat := 84
abbrev T_p_p_fault_Fault : Nat := 86
abbrev T_a24_uint8 : Nat := 124
abbrev N_law10_FilterWider : Nat := 3
abbrev N_law10_FilterCaps : Nat := 4
abbrev N_law10_FilterCapped : Nat := 5
abbrev N_law10_FilterAll : Nat := 6
abbrev N_law10_FilterChecks : Nat := 7
abbrev N_law10_FilterPasses : Nat := 8
abbrev N_law07_CodeNames : Nat := 9
abbrev N_law07_CodeChecks : Nat := 10
abbrev N_law07_CodeDecodes : Nat := 11
abbrev N_law07_CodeBack : Nat := 12
abbrev N_law07_CodeGoesOn : Nat := 13
abbrev N_law10_few : Nat := 14
abbrev N_filter_Pass : Nat := 15
abbrev N_law10_awake : Nat := 16
abbrev N_filter_Begin : Nat := 17
abbrev N_ref10_May : Nat := 18
abbrev N_filter_May : Nat := 19
abbrev N_filter_Frame : Nat := 20
abbrev N_ref10_Frame : Nat := 21
abbrev N_filter_Take : Nat := 22
abbrev N_ref10_Take : Nat := 23
abbrev N_ref10_Check : Nat := 24
abbrev N_law10_told : Nat := 25
abbrev N_filter_Check : Nat := 26
abbrev N_fault_Path : Nat := 27
abbrev N_fault_Code : Nat := 28
abbrev N_ref10_Pass : Nat := 29
abbrev N_law07_awake : Nat := 30
abbrev N_law07_few : Nat := 31
abbrev N_code_Check : Nat := 32
abbrev N_ref07_Check : Nat := 33
abbrev N_law07_same : Nat := 34
abbrev N_code_Decode : Nat := 35
abbrev N_ref07_List : Nat := 36
abbrev N_code_Encode : Nat := 37
abbrev N_code_Next : Nat := 38
abbrev N_code_Reached : Nat := 39
abbrev N_fault_In : Nat := 40
abbrev N_fault_New : Nat := 41
abbrev N_filter_holds : Nat := 42
abbrev N_fault_Text : Nat := 43
abbrev N_fault_row : Nat := 44
abbrev N_errors_As : Nat := 45
abbrev N_ref02_Number : Nat := 46
abbrev N_code_Number : Nat := 47
abbrev N_code_formed : Nat := 48
abbrev N_code_jumps : Nat := 49
abbrev N_ref07_Formed : Nat := 50
abbrev N_ref07_Number : Nat := 51
abbrev N_code_Next_1 : Nat := 52
abbrev N_octet_Get : Nat := 54
abbrev N_strconv_Itoa : Nat := 55
abbrev N_internal_strconv_Itoa : Nat := 60
abbrev N_internal_strconv_FormatInt : Nat := 64
abbrev N_internal_strconv_small : Nat := 65
abbrev N_internal_strconv_numDigits : Nat := 66
abbrev N_internal_strconv_formatBase10 : Nat := 67
abbrev N_internal_strconv_formatBits : Nat := 68
abbrev N_internal_strconv_log10Pow2 : Nat := 69
abbrev N_math_bits_Len64 : Nat := 70
abbrev N_internal_strconv_bool2_int : Nat := 71
theorem zc_int64 : zc Tryd.prog T_int64 = ([.int .i64 (0)] : List Value).toArray := by kernel_rfl
theorem zc_int : zc Tryd.prog T_int = ([.int .i64 (0)] : List Value).toArray := by kernel_rfl
theorem zc_bool : zc Tryd.prog T_bool = ([.bool false] : List Value).toArray := by kernel_rfl
theorem zc_uint8 : zc Tryd.prog T_uint8 = ([.int .u8 (0)] : List Value).toArray := by kernel_rfl
theorem zc_string : zc Tryd.prog T_string = ([.string ⟨#[]⟩] : List Value).toArray := by kernel_rfl
theorem zc_l_api_Field : zc Tryd.prog T_l_api_Field = ([(Sl.v ⟨none, 0, 0⟩)] : List Value).toArray := by kernel_rfl
theorem S_l_api_Field : SlT Tryd.prog T_l_api_Field T_api_Field 4 32 := ⟨by kernel_rfl, by kernel_rfl, by decide⟩
theorem zc_api_Rule : zc Tryd.prog T_api_Rule = ([.int .i64 (0), .int .i64 (0), (Sl.v ⟨none, 0, 0⟩)] : List Value).toArray := by kernel_rfl
theorem zc_l_uint8 : zc Tryd.prog T_l_uint8 = ([(Sl.v ⟨none, 0, 0⟩)] : List Value).toArray := by kernel_rfl
theorem S_l_uint8 : SlT Tryd.prog T_l_uint8 T_uint8 1 1 := ⟨by kernel_rfl, by kernel_rfl, by decide⟩
theorem Z_l_uint8 : SlZ Tryd.prog T_l_uint8 T_uint8 (.int .u8 (0)) 1 := ⟨by kernel_rfl, by kernel_rfl⟩
theorem zc_uint64 : zc Tryd.prog T_uint64 = ([.int .u64 (0)] : List Value).toArray := by kernel_rfl
theorem zc_law10_Wider : zc Tryd.prog T_law10_Wider = ([.int .i64 (0), .int .i64 (0), (Sl.v ⟨none, 0, 0⟩), (Sl.v ⟨none, 0, 0⟩), .int .u64 (0), .int .i64 (0)] : List Value).toArray := by kernel_rfl
theorem zc_api_Field : zc Tryd.prog T_api_Field = ([.int .i64 (0), .int .i64 (0), .int .u64 (0), .int .u64 (0)] : List Value).toArray := by kernel_rfl
theorem zc_api_Cap : zc Tryd.prog T_api_Cap = ([.int .i64 (0), .int .i64 (0), .int .i64 (0)] : List Value).toArray := by kernel_rfl
theorem zc_law10_Caps : zc Tryd.prog T_law10_Caps = ([.int .i64 (0), .int .i64 (0), .int .i64 (0), (Sl.v ⟨none, 0, 0⟩), .int .i64 (0), .int .i64 (0)] : List Value).toArray := by kernel_rfl
theorem zc_api_Errno : zc Tryd.prog T_api_Errno = ([.int .i64 (0)] : List Value).toArray := by kernel_rfl
theorem zc_l_int : zc Tryd.prog T_l_int = ([(Sl.v ⟨none, 0, 0⟩)] : List Value).toArray := by kernel_rfl
theorem S_l_int : SlT Tryd.prog T_l_int T_int 1 8 := ⟨by kernel_rfl, by kernel_rfl, by decide⟩
theorem Z_l_int : SlZ Tryd.prog T_l_int T_int (.int .i64 (0)) 8 := ⟨by kernel_rfl, by kernel_rfl⟩
theorem zc_l_api_Instr : zc Tryd.prog T_l_api_Instr = ([(Sl.v ⟨none, 0, 0⟩)] : List Value).toArray := by kernel_rfl
theorem S_l_api_Instr : SlT Tryd.prog T_l_api_Instr T_api_Instr 4 4 := ⟨by kernel_rfl, by kernel_rfl, by decide⟩
theorem zc_api_Instr : zc Tryd.prog T_api_Instr = ([.int .u8 (0), .int .u8 (0), .int .u8 (0), .int .u8 (0)] : List Value).toArray := by kernel_rfl
theorem zc_l_p_fault_Fault : zc Tryd.prog T_l_p_fault_Fault = ([(Sl.v ⟨none, 0, 0⟩)] : List Value).toArray := by kernel_rfl
theorem S_l_p_fault_Fault : SlT Tryd.prog T_l_p_fault_Fault T_p_fault_Fault 1 8 := ⟨by kernel_rfl, by kernel_rfl, by decide⟩
theorem Z_l_p_fault_Fault : SlZ Tryd.prog T_l_p_fault_Fault T_p_fault_Fault (.pointer none) 8 := ⟨by kernel_rfl, by kernel_rfl⟩
theorem zc_p_fault_Fault : zc Tryd.prog T_p_fault_Fault = ([.pointer none] : List Value).toArray := by kernel_rfl
theorem zc_fault_Fault : zc Tryd.prog T_fault_Fault = ([.int .i64 (0), .int .i64 (0), .nilIface] : List Value).toArray := by kernel_rfl
theorem zc_p_p_fault_Fault : zc Tryd.prog T_p_p_fault_Fault = ([.pointer none] : List Value).toArray := by kernel_rfl
end Go.Proofs.YtomoejbamegpoaaDoor.G
