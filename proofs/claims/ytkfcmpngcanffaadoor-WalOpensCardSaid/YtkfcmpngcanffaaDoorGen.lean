import Derived.Test.YtkfcmpngcanffaaDoorProg
import Derived.Test.YtkfcmpngcanffaaDoorSl
set_option linter.unusedVariables false
namespace Go.Proofs.YtkfcmpngcanffaaDoor.G
open Go Go.VC Go.Proofs Go.Proofs.YtkfcmpngcanffaaDoor
set_option maxRecDepth 100000
theorem noAsk : noAsk Tryd.prog = true := by kernel_rfl
theorem mixed : Tryd.prog.follows .mixedOrders = true := by kernel_rfl
abbrev T_int : Nat := 3
abbrev T_bool : Nat := 4
abbrev T_uint8 : Nat := 5
abbrev T_string : Nat := 9
abbrev T_l_api_Entry : Nat := 22
abbrev T_p_disk_Disk : Nat := 23
abbrev T_p_extent_Part : Nat := 24
abbrev T_p_audit_Log : Nat := 27
abbrev T_api_Errno : Nat := 28
abbrev T_uint32 : Nat := 32
abbrev T_api_Entry : Nat := 34
abbrev T_l_uint8 : Nat := 37
abbrev T_l_bool : Nat := 44
abbrev T_law20_Act : Nat := 46
abbrev T_l_string : Nat := 51
abbrev T_l_ref05_Write : Nat := 52
abbrev T_ref05_Disk : Nat := 54
abbrev T_ref20_Log : Nat := 58
abbrev T_p_wal_Log : Nat := 71
abbrev T_l_api_Change : Nat := 75
abbrev T_law16_Act : Nat := 78
abbrev T_law16_Forged : Nat := 81
abbrev T_ref16_Log : Nat := 83
abbrev T_api_Change : Nat := 98
abbrev T_l_int : Nat := 100
abbrev T_extent_Extent : Nat := 110
abbrev T_audit_Log : Nat := 112
abbrev T_l_disk_write : Nat := 118
abbrev T_disk_Disk : Nat := 120
abbrev T_disk_write : Nat := 123
abbrev T_a40_uint8 : Nat := 133
abbrev T_wal_Log : Nat := 136
abbrev T_extent_Part : Nat := 145
abbrev T_ref05_Write : Nat := 148
abbrev T_uint64 : Nat := 150
abbrev T_p_octet_Reader : Nat := 153
abbrev T_error : Nat := 169
abbrev T_octet_Reader : Nat := 171
abbrev T_p_fault_Fault : Nat := 176
abbrev T_fault_Fault : Nat := 178
abbrev N_law20_AuditConfined : Nat := 3
abbrev N_law20_AuditKeeps : Nat := 4
abbrev N_law20_AuditPlays : Nat := 5
abbrev N_law16_WalNumbers : Nat := 6
abbrev N_law16_WalConfined : Nat := 7
abbrev N_law16_WalOpens : Nat := 8
abbrev N_law16_WalFull : Nat := 9
abbrev N_law16_WalCrashes : Nat := 10
abbrev N_law16_WalTwice : Nat := 11
abbrev N_law20_part : Nat := 12
abbrev N_audit_Open : Nat := 13
abbrev N_audit_Log_Add : Nat := 14
abbrev N_ref20_May : Nat := 15
abbrev N_audit_Log_Entries : Nat := 16
abbrev N_disk_Disk_Read : Nat := 17
abbrev N_ref05_Noughts : Nat := 18
abbrev N_law20_awake : Nat := 19
abbrev N_disk_Disk_Arm : Nat := 20
abbrev N_disk_Disk_Power : Nat := 21
abbrev N_law20_same : Nat := 22
abbrev N_law20_count : Nat := 23
abbrev N_ref05_New : Nat := 24
abbrev N_ref20_Open : Nat := 25
abbrev N_ref20_Log_Add : Nat := 26
abbrev N_ref05_Disk_Arm : Nat := 27
abbrev N_disk_Disk_Crash : Nat := 28
abbrev N_ref05_Disk_Crash : Nat := 29
abbrev N_ref05_Disk_Power : Nat := 30
abbrev N_audit_Log_Dead : Nat := 31
abbrev N_disk_Disk_Image : Nat := 32
abbrev N_ref05_Disk_Image : Nat := 33
abbrev N_law16_awake : Nat := 34
abbrev N_law16_part : Nat := 35
abbrev N_wal_Open : Nat := 36
abbrev N_wal_Log_Commit : Nat := 37
abbrev N_law16_Changes : Nat := 38
abbrev N_ref16_Open : Nat := 39
abbrev N_ref16_Log_Commit : Nat := 40
abbrev N_extent_Part_Write : Nat := 41
abbrev N_ref05_Disk_Write : Nat := 42
abbrev N_law16_is : Nat := 43
abbrev N_ref16_Sector : Nat := 44
abbrev N_ref16_Noughts : Nat := 45
abbrev N_disk_Disk_On : Nat := 46
abbrev N_law16_from : Nat := 47
abbrev N_law16_pages : Nat := 48
abbrev N_ref16_May : Nat := 49
abbrev N_disk_Disk_Waiting : Nat := 50
abbrev N_wal_Log_Epoch : Nat := 51
abbrev N_wal_Log_Used : Nat := 52
abbrev N_disk_New : Nat := 53
abbrev N_extent_New : Nat := 54
abbrev N_audit_Log_at : Nat := 55
abbrev N_extent_Part_Size : Nat := 56
abbrev N_audit_may : Nat := 57
abbrev N_audit_sector : Nat := 58
abbrev N_extent_Part_Flush : Nat := 59
abbrev N_disk_Disk_in : Nat := 60
abbrev N_disk_Disk_sector : Nat := 61
abbrev N_ref05_Disk_Read : Nat := 62
abbrev N_ref20_Said : Nat := 63
abbrev N_ref20_Sector : Nat := 64
abbrev N_ref05_Disk_Flush : Nat := 65
abbrev N_ref05_Disk_laid : Nat := 66
abbrev N_wal_Log_Page : Nat := 67
abbrev N_wal_Format : Nat := 68
abbrev N_ref16_Format : Nat := 69
abbrev N_wal_Log_head : Nat := 70
abbrev N_extent_Part_Read : Nat := 71
abbrev N_wal_hear : Nat := 72
abbrev N_wal_Log_replay : Nat := 73
abbrev N_wal_right : Nat := 74
abbrev N_wal_Log_checkpoint : Nat := 75
abbrev N_wal_Log_write : Nat := 76
abbrev N_ref16_State : Nat := 77
abbrev N_ref16_Log_settle : Nat := 78
abbrev N_ref16_one : Nat := 79
abbrev N_ref16_Log_all : Nat := 80
abbrev N_extent_Place : Nat := 81
abbrev N_disk_Disk_Write : Nat := 82
abbrev N_ref05_Disk_step : Nat := 83
abbrev N_wal_Log_Dead : Nat := 84
abbrev N_ref02_Put : Nat := 85
abbrev N_ref03_Seal : Nat := 86
abbrev N_extent_Lies : Nat := 87
abbrev N_disk_Disk_Size : Nat := 88
abbrev N_octet_Read : Nat := 89
abbrev N_octet_Reader_Num : Nat := 90
abbrev N_octet_Put : Nat := 91
abbrev N_crc_Seal : Nat := 92
abbrev N_disk_Disk_Flush : Nat := 93
abbrev N_ref02_Number : Nat := 94
abbrev N_ref05_with : Nat := 95
abbrev N_wal_Log_settle : Nat := 96
abbrev N_crc_Open : Nat := 97
abbrev N_octet_Get : Nat := 98
abbrev N_wal_hear_1 : Nat := 99
abbrev N_wal_Log_lay : Nat := 100
abbrev N_wal_say : Nat := 103
abbrev N_ref16_Log_write : Nat := 104
abbrev N_ref16_Log_flush : Nat := 105
abbrev N_disk_Disk_goes : Nat := 106
abbrev N_ref03_Of : Nat := 107
abbrev N_octet_Reader_fail : Nat := 108
abbrev N_octet_Reader_Bytes : Nat := 109
abbrev N_crc_Of : Nat := 110
abbrev N_ref03_On : Nat := 111
abbrev N_fault_New : Nat := 112
abbrev N_octet_Reader_Left : Nat := 113
abbrev N_crc_On : Nat := 114
theorem zc_int : zc Tryd.prog T_int = ([.int .i64 (0)] : List Value).toArray := by kernel_rfl
theorem zc_bool : zc Tryd.prog T_bool = ([.bool false] : List Value).toArray := by kernel_rfl
theorem zc_uint8 : zc Tryd.prog T_uint8 = ([.int .u8 (0)] : List Value).toArray := by kernel_rfl
theorem zc_string : zc Tryd.prog T_string = ([.string ⟨#[]⟩] : List Value).toArray := by kernel_rfl
theorem zc_l_api_Entry : zc Tryd.prog T_l_api_Entry = ([(Sl.v ⟨none, 0, 0⟩)] : List Value).toArray := by kernel_rfl
theorem S_l_api_Entry : SlT Tryd.prog T_l_api_Entry T_api_Entry 4 32 := ⟨by kernel_rfl, by kernel_rfl, by decide⟩
theorem zc_p_disk_Disk : zc Tryd.prog T_p_disk_Disk = ([.pointer none] : List Value).toArray := by kernel_rfl
theorem zc_p_extent_Part : zc Tryd.prog T_p_extent_Part = ([.pointer none] : List Value).toArray := by kernel_rfl
theorem zc_p_audit_Log : zc Tryd.prog T_p_audit_Log = ([.pointer none] : List Value).toArray := by kernel_rfl
theorem zc_api_Errno : zc Tryd.prog T_api_Errno = ([.int .i64 (0)] : List Value).toArray := by kernel_rfl
theorem zc_uint32 : zc Tryd.prog T_uint32 = ([.int .u32 (0)] : List Value).toArray := by kernel_rfl
theorem zc_api_Entry : zc Tryd.prog T_api_Entry = ([.int .i64 (0), .int .i64 (0), .int .u32 (0), .int .i64 (0)] : List Value).toArray := by kernel_rfl
theorem zc_l_uint8 : zc Tryd.prog T_l_uint8 = ([(Sl.v ⟨none, 0, 0⟩)] : List Value).toArray := by kernel_rfl
theorem S_l_uint8 : SlT Tryd.prog T_l_uint8 T_uint8 1 1 := ⟨by kernel_rfl, by kernel_rfl, by decide⟩
theorem Z_l_uint8 : SlZ Tryd.prog T_l_uint8 T_uint8 (.int .u8 (0)) 1 := ⟨by kernel_rfl, by kernel_rfl⟩
theorem zc_l_bool : zc Tryd.prog T_l_bool = ([(Sl.v ⟨none, 0, 0⟩)] : List Value).toArray := by kernel_rfl
theorem S_l_bool : SlT Tryd.prog T_l_bool T_bool 1 1 := ⟨by kernel_rfl, by kernel_rfl, by decide⟩
theorem Z_l_bool : SlZ Tryd.prog T_l_bool T_bool (.bool false) 1 := ⟨by kernel_rfl, by kernel_rfl⟩
theorem zc_law20_Act : zc Tryd.prog T_law20_Act = ([.int .i64 (0), .int .i64 (0), .int .i64 (0), .int .i64 (0), .int .u32 (0), .int .i64 (0), (Sl.v ⟨none, 0, 0⟩)] : List Value).toArray := by kernel_rfl
theorem zc_l_string : zc Tryd.prog T_l_string = ([(Sl.v ⟨none, 0, 0⟩)] : List Value).toArray := by kernel_rfl
theorem S_l_string : SlT Tryd.prog T_l_string T_string 1 16 := ⟨by kernel_rfl, by kernel_rfl, by decide⟩
theorem Z_l_string : SlZ Tryd.prog T_l_string T_string (.string ⟨#[]⟩) 16 := ⟨by kernel_rfl, by kernel_rfl⟩
theorem zc_l_ref05_Write : zc Tryd.prog T_l_ref05_Write = ([(Sl.v ⟨none, 0, 0⟩)] : List Value).toArray := by kernel_rfl
theorem S_l_ref05_Write : SlT Tryd.prog T_l_ref05_Write T_ref05_Write 2 24 := ⟨by kernel_rfl, by kernel_rfl, by decide⟩
theorem zc_ref05_Disk : zc Tryd.prog T_ref05_Disk = ([(Sl.v ⟨none, 0, 0⟩), (Sl.v ⟨none, 0, 0⟩), .bool false, .int .i64 (0), (Sl.v ⟨none, 0, 0⟩)] : List Value).toArray := by kernel_rfl
theorem zc_ref20_Log : zc Tryd.prog T_ref20_Log = ([(Sl.v ⟨none, 0, 0⟩), (Sl.v ⟨none, 0, 0⟩), .bool false, .int .i64 (0), (Sl.v ⟨none, 0, 0⟩), .int .i64 (0), .int .i64 (0), (Sl.v ⟨none, 0, 0⟩), .bool false] : List Value).toArray := by kernel_rfl
theorem zc_p_wal_Log : zc Tryd.prog T_p_wal_Log = ([.pointer none] : List Value).toArray := by kernel_rfl
theorem zc_l_api_Change : zc Tryd.prog T_l_api_Change = ([(Sl.v ⟨none, 0, 0⟩)] : List Value).toArray := by kernel_rfl
theorem S_l_api_Change : SlT Tryd.prog T_l_api_Change T_api_Change 2 32 := ⟨by kernel_rfl, by kernel_rfl, by decide⟩
theorem zc_law16_Act : zc Tryd.prog T_law16_Act = ([.int .i64 (0), .int .i64 (0), .int .i64 (0), .int .i64 (0), .int .u8 (0), (Sl.v ⟨none, 0, 0⟩)] : List Value).toArray := by kernel_rfl
theorem zc_law16_Forged : zc Tryd.prog T_law16_Forged = ([(Sl.v ⟨none, 0, 0⟩), .int .i64 (0), (Sl.v ⟨none, 0, 0⟩), (Sl.v ⟨none, 0, 0⟩)] : List Value).toArray := by kernel_rfl
theorem zc_ref16_Log : zc Tryd.prog T_ref16_Log = ([(Sl.v ⟨none, 0, 0⟩), (Sl.v ⟨none, 0, 0⟩), .bool false, .int .i64 (0), (Sl.v ⟨none, 0, 0⟩), .int .i64 (0), (Sl.v ⟨none, 0, 0⟩), .int .u32 (0), .int .i64 (0), .int .i64 (0), .bool false] : List Value).toArray := by kernel_rfl
theorem zc_api_Change : zc Tryd.prog T_api_Change = ([.int .i64 (0), (Sl.v ⟨none, 0, 0⟩)] : List Value).toArray := by kernel_rfl
theorem zc_l_int : zc Tryd.prog T_l_int = ([(Sl.v ⟨none, 0, 0⟩)] : List Value).toArray := by kernel_rfl
theorem S_l_int : SlT Tryd.prog T_l_int T_int 1 8 := ⟨by kernel_rfl, by kernel_rfl, by decide⟩
theorem Z_l_int : SlZ Tryd.prog T_l_int T_int (.int .i64 (0)) 8 := ⟨by kernel_rfl, by kernel_rfl⟩
theorem zc_extent_Extent : zc Tryd.prog T_extent_Extent = ([.int .i64 (0), .int .i64 (0)] : List Value).toArray := by kernel_rfl
theorem zc_audit_Log : zc Tryd.prog T_audit_Log = ([.pointer none, (Sl.v ⟨none, 0, 0⟩), .bool false] : List Value).toArray := by kernel_rfl
theorem zc_l_disk_write : zc Tryd.prog T_l_disk_write = ([(Sl.v ⟨none, 0, 0⟩)] : List Value).toArray := by kernel_rfl
theorem S_l_disk_write : SlT Tryd.prog T_l_disk_write T_disk_write 2 32 := ⟨by kernel_rfl, by kernel_rfl, by decide⟩
theorem zc_disk_Disk : zc Tryd.prog T_disk_Disk = ([(Sl.v ⟨none, 0, 0⟩), (Sl.v ⟨none, 0, 0⟩), .bool false, .bool false, .int .i64 (0), (Sl.v ⟨none, 0, 0⟩)] : List Value).toArray := by kernel_rfl
theorem zc_disk_write : zc Tryd.prog T_disk_write = ([.int .i64 (0), (Sl.v ⟨none, 0, 0⟩)] : List Value).toArray := by kernel_rfl
theorem zc_extent_Part : zc Tryd.prog T_extent_Part = ([.int .i64 (0), .int .i64 (0), .pointer none] : List Value).toArray := by kernel_rfl
theorem zc_ref05_Write : zc Tryd.prog T_ref05_Write = ([.int .i64 (0), .string ⟨#[]⟩] : List Value).toArray := by kernel_rfl
theorem zc_uint64 : zc Tryd.prog T_uint64 = ([.int .u64 (0)] : List Value).toArray := by kernel_rfl
theorem zc_p_octet_Reader : zc Tryd.prog T_p_octet_Reader = ([.pointer none] : List Value).toArray := by kernel_rfl
theorem zc_octet_Reader : zc Tryd.prog T_octet_Reader = ([(Sl.v ⟨none, 0, 0⟩), .int .i64 (0), .nilIface] : List Value).toArray := by kernel_rfl
theorem zc_p_fault_Fault : zc Tryd.prog T_p_fault_Fault = ([.pointer none] : List Value).toArray := by kernel_rfl
theorem zc_fault_Fault : zc Tryd.prog T_fault_Fault = ([.int .i64 (0), .int .i64 (0), .nilIface] : List Value).toArray := by kernel_rfl
end Go.Proofs.YtkfcmpngcanffaaDoor.G
