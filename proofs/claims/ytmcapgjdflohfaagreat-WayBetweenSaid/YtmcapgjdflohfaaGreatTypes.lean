/- Written by names.py for this seat: names for the numbers of functions and types. -/
import Derived.Test.YtmcapgjdflohfaaGreatDraw
import Derived.Test.YtmcapgjdflohfaaGreatProg
import Derived.KernelRfl
namespace Go.Proofs.YtmcapgjdflohfaaGreat.L
open Go Go.RowKit
set_option linter.unusedVariables false

set_option linter.all false
noncomputable abbrev PP : Program := Tryz.prog
/-- The fields that a fact on a type names. -/
abbrev fsOf {P : Program} {t : TypeId} {fs : Array Field} (_ : P.underlying t = some (.struct fs)) : Array Field := fs
theorem mix : PP.follows .mixedOrders = true := by kernel_rfl
abbrev T_int64 : TypeId := 2
theorem u_int64 : PP.underlying 2 = some (.int .i64) := Tryz.underlying2
theorem o_int64 : isOne PP 2 := ⟨_, Tryz.underlying2, rfl⟩
theorem s_int64 : (PP.info? 2).map (·.size) = some 1 := by kernel_rfl
theorem z_int64 : (PP.info? 2).map (·.zero) = some (some (.int .i64 0)) := by kernel_rfl
theorem i_int64 : (PP.info? 2).map (fun i => (i.zero, i.size, i.bytes)) = some (some (.int .i64 0), 1, 8) := by kernel_rfl
abbrev T_int : TypeId := 3
theorem u_int : PP.underlying 3 = some (.int .i64) := Tryz.underlying3
theorem o_int : isOne PP 3 := ⟨_, Tryz.underlying3, rfl⟩
theorem s_int : (PP.info? 3).map (·.size) = some 1 := by kernel_rfl
theorem z_int : (PP.info? 3).map (·.zero) = some (some (.int .i64 0)) := by kernel_rfl
theorem i_int : (PP.info? 3).map (fun i => (i.zero, i.size, i.bytes)) = some (some (.int .i64 0), 1, 8) := by kernel_rfl
abbrev T_bool : TypeId := 4
theorem u_bool : PP.underlying 4 = some (.bool) := Tryz.underlying4
theorem o_bool : isOne PP 4 := ⟨_, Tryz.underlying4, rfl⟩
theorem s_bool : (PP.info? 4).map (·.size) = some 1 := by kernel_rfl
theorem z_bool : (PP.info? 4).map (·.zero) = some (some (.bool false)) := by kernel_rfl
theorem i_bool : (PP.info? 4).map (fun i => (i.zero, i.size, i.bytes)) = some (some (.bool false), 1, 1) := by kernel_rfl
abbrev T_uint8 : TypeId := 5
theorem u_uint8 : PP.underlying 5 = some (.int .u8) := Tryz.underlying5
theorem o_uint8 : isOne PP 5 := ⟨_, Tryz.underlying5, rfl⟩
theorem s_uint8 : (PP.info? 5).map (·.size) = some 1 := by kernel_rfl
theorem z_uint8 : (PP.info? 5).map (·.zero) = some (some (.int .u8 0)) := by kernel_rfl
theorem i_uint8 : (PP.info? 5).map (fun i => (i.zero, i.size, i.bytes)) = some (some (.int .u8 0), 1, 1) := by kernel_rfl
abbrev T_internal_abi_BoundsErrorCode : TypeId := 6
theorem u_internal_abi_BoundsErrorCode : PP.underlying 6 = some (.int .u8) := Tryz.underlying6
theorem o_internal_abi_BoundsErrorCode : isOne PP 6 := ⟨_, Tryz.underlying6, rfl⟩
theorem s_internal_abi_BoundsErrorCode : (PP.info? 6).map (·.size) = some 1 := by kernel_rfl
theorem z_internal_abi_BoundsErrorCode : (PP.info? 6).map (·.zero) = some (some (.int .u8 0)) := by kernel_rfl
theorem i_internal_abi_BoundsErrorCode : (PP.info? 6).map (fun i => (i.zero, i.size, i.bytes)) = some (some (.int .u8 0), 1, 1) := by kernel_rfl
abbrev T_runtime_boundsError : TypeId := 8
noncomputable abbrev F_runtime_boundsError : Array Field := fsOf Tryz.underlying8
theorem u_runtime_boundsError : PP.underlying 8 = some (.struct F_runtime_boundsError) := Tryz.underlying8
theorem g_runtime_boundsError : isAg PP 8 4 := ⟨_, Tryz.underlying8, rfl, by kernel_rfl⟩
theorem s_runtime_boundsError : (PP.info? 8).map (·.size) = some 4 := by kernel_rfl
theorem z_runtime_boundsError : (PP.info? 8).map (·.zero) = some (some (ag ([.int .i64 0] ++ ([.int .i64 0] ++ ([.bool false] ++ ([.int .u8 0])))))) := by kernel_rfl
theorem i_runtime_boundsError : (PP.info? 8).map (fun i => (i.zero, i.size, i.bytes)) = some (some (ag ([.int .i64 0] ++ ([.int .i64 0] ++ ([.bool false] ++ ([.int .u8 0]))))), 4, 24) := by kernel_rfl
abbrev T_string : TypeId := 9
theorem u_string : PP.underlying 9 = some (.string) := Tryz.underlying9
theorem o_string : isOne PP 9 := ⟨_, Tryz.underlying9, rfl⟩
theorem s_string : (PP.info? 9).map (·.size) = some 1 := by kernel_rfl
theorem z_string : (PP.info? 9).map (·.zero) = some (some (.string ⟨#[]⟩)) := by kernel_rfl
theorem i_string : (PP.info? 9).map (fun i => (i.zero, i.size, i.bytes)) = some (some (.string ⟨#[]⟩), 1, 16) := by kernel_rfl
abbrev T_runtime_errorString : TypeId := 10
theorem u_runtime_errorString : PP.underlying 10 = some (.string) := Tryz.underlying10
theorem o_runtime_errorString : isOne PP 10 := ⟨_, Tryz.underlying10, rfl⟩
theorem s_runtime_errorString : (PP.info? 10).map (·.size) = some 1 := by kernel_rfl
theorem z_runtime_errorString : (PP.info? 10).map (·.zero) = some (some (.string ⟨#[]⟩)) := by kernel_rfl
theorem i_runtime_errorString : (PP.info? 10).map (fun i => (i.zero, i.size, i.bytes)) = some (some (.string ⟨#[]⟩), 1, 16) := by kernel_rfl
abbrev T_runtime_plainError : TypeId := 11
theorem u_runtime_plainError : PP.underlying 11 = some (.string) := Tryz.underlying11
theorem o_runtime_plainError : isOne PP 11 := ⟨_, Tryz.underlying11, rfl⟩
theorem s_runtime_plainError : (PP.info? 11).map (·.size) = some 1 := by kernel_rfl
theorem z_runtime_plainError : (PP.info? 11).map (·.zero) = some (some (.string ⟨#[]⟩)) := by kernel_rfl
theorem i_runtime_plainError : (PP.info? 11).map (fun i => (i.zero, i.size, i.bytes)) = some (some (.string ⟨#[]⟩), 1, 16) := by kernel_rfl
abbrev T_uintptr : TypeId := 12
theorem u_uintptr : PP.underlying 12 = some (.int .u64) := Tryz.underlying12
theorem o_uintptr : isOne PP 12 := ⟨_, Tryz.underlying12, rfl⟩
theorem s_uintptr : (PP.info? 12).map (·.size) = some 1 := by kernel_rfl
theorem z_uintptr : (PP.info? 12).map (·.zero) = some (some (.int .u64 0)) := by kernel_rfl
theorem i_uintptr : (PP.info? 12).map (fun i => (i.zero, i.size, i.bytes)) = some (some (.int .u64 0), 1, 8) := by kernel_rfl
abbrev T_runtime_errorAddressString : TypeId := 14
noncomputable abbrev F_runtime_errorAddressString : Array Field := fsOf Tryz.underlying14
theorem u_runtime_errorAddressString : PP.underlying 14 = some (.struct F_runtime_errorAddressString) := Tryz.underlying14
theorem g_runtime_errorAddressString : isAg PP 14 2 := ⟨_, Tryz.underlying14, rfl, by kernel_rfl⟩
theorem s_runtime_errorAddressString : (PP.info? 14).map (·.size) = some 2 := by kernel_rfl
theorem z_runtime_errorAddressString : (PP.info? 14).map (·.zero) = some (some (ag ([.string ⟨#[]⟩] ++ ([.int .u64 0])))) := by kernel_rfl
theorem i_runtime_errorAddressString : (PP.info? 14).map (fun i => (i.zero, i.size, i.bytes)) = some (some (ag ([.string ⟨#[]⟩] ++ ([.int .u64 0]))), 2, 24) := by kernel_rfl
abbrev T_p_runtime_TypeAssertionError : TypeId := 15
theorem u_p_runtime_TypeAssertionError : PP.underlying 15 = some (.pointer 243) := Tryz.underlying15
theorem o_p_runtime_TypeAssertionError : isOne PP 15 := ⟨_, Tryz.underlying15, rfl⟩
theorem s_p_runtime_TypeAssertionError : (PP.info? 15).map (·.size) = some 1 := by kernel_rfl
theorem z_p_runtime_TypeAssertionError : (PP.info? 15).map (·.zero) = some (some (.pointer none)) := by kernel_rfl
theorem i_p_runtime_TypeAssertionError : (PP.info? 15).map (fun i => (i.zero, i.size, i.bytes)) = some (some (.pointer none), 1, 8) := by kernel_rfl
abbrev T_p_runtime_PanicNilError : TypeId := 16
theorem u_p_runtime_PanicNilError : PP.underlying 16 = some (.pointer 246) := Tryz.underlying16
theorem o_p_runtime_PanicNilError : isOne PP 16 := ⟨_, Tryz.underlying16, rfl⟩
theorem s_p_runtime_PanicNilError : (PP.info? 16).map (·.size) = some 1 := by kernel_rfl
theorem z_p_runtime_PanicNilError : (PP.info? 16).map (·.zero) = some (some (.pointer none)) := by kernel_rfl
theorem i_p_runtime_PanicNilError : (PP.info? 16).map (fun i => (i.zero, i.size, i.bytes)) = some (some (.pointer none), 1, 8) := by kernel_rfl
abbrev T_p_internal_abi_Type : TypeId := 17
theorem u_p_internal_abi_Type : PP.underlying 17 = some (.pointer 253) := Tryz.underlying17
theorem o_p_internal_abi_Type : isOne PP 17 := ⟨_, Tryz.underlying17, rfl⟩
theorem s_p_internal_abi_Type : (PP.info? 17).map (·.size) = some 1 := by kernel_rfl
theorem z_p_internal_abi_Type : (PP.info? 17).map (·.zero) = some (some (.pointer none)) := by kernel_rfl
theorem i_p_internal_abi_Type : (PP.info? 17).map (fun i => (i.zero, i.size, i.bytes)) = some (some (.pointer none), 1, 8) := by kernel_rfl
abbrev T_internal_runtime_maps_unhashableTypeError : TypeId := 19
noncomputable abbrev F_internal_runtime_maps_unhashableTypeError : Array Field := fsOf Tryz.underlying19
theorem u_internal_runtime_maps_unhashableTypeError : PP.underlying 19 = some (.struct F_internal_runtime_maps_unhashableTypeError) := Tryz.underlying19
theorem g_internal_runtime_maps_unhashableTypeError : isAg PP 19 1 := ⟨_, Tryz.underlying19, rfl, by kernel_rfl⟩
theorem s_internal_runtime_maps_unhashableTypeError : (PP.info? 19).map (·.size) = some 1 := by kernel_rfl
theorem z_internal_runtime_maps_unhashableTypeError : (PP.info? 19).map (·.zero) = some (some (ag ([.pointer none]))) := by kernel_rfl
theorem i_internal_runtime_maps_unhashableTypeError : (PP.info? 19).map (fun i => (i.zero, i.size, i.bytes)) = some (some (ag ([.pointer none])), 1, 8) := by kernel_rfl
abbrev T_int32 : TypeId := 21
theorem u_int32 : PP.underlying 21 = some (.int .i32) := Tryz.underlying21
theorem o_int32 : isOne PP 21 := ⟨_, Tryz.underlying21, rfl⟩
theorem s_int32 : (PP.info? 21).map (·.size) = some 1 := by kernel_rfl
theorem z_int32 : (PP.info? 21).map (·.zero) = some (some (.int .i32 0)) := by kernel_rfl
theorem i_int32 : (PP.info? 21).map (fun i => (i.zero, i.size, i.bytes)) = some (some (.int .i32 0), 1, 4) := by kernel_rfl
abbrev T_uint32 : TypeId := 22
theorem u_uint32 : PP.underlying 22 = some (.int .u32) := Tryz.underlying22
theorem o_uint32 : isOne PP 22 := ⟨_, Tryz.underlying22, rfl⟩
theorem s_uint32 : (PP.info? 22).map (·.size) = some 1 := by kernel_rfl
theorem z_uint32 : (PP.info? 22).map (·.zero) = some (some (.int .u32 0)) := by kernel_rfl
theorem i_uint32 : (PP.info? 22).map (fun i => (i.zero, i.size, i.bytes)) = some (some (.int .u32 0), 1, 4) := by kernel_rfl
abbrev T_a32_uint8 : TypeId := 23
theorem u_a32_uint8 : PP.underlying 23 = some (.array 32 5) := Tryz.underlying23
theorem g_a32_uint8 : isAg PP 23 32 := ⟨_, Tryz.underlying23, rfl, by kernel_rfl⟩
theorem s_a32_uint8 : (PP.info? 23).map (·.size) = some 32 := by kernel_rfl
theorem z_a32_uint8 : (PP.info? 23).map (·.zero) = some (some (ag (List.replicate 32 (.int .u8 0)))) := by kernel_rfl
theorem i_a32_uint8 : (PP.info? 23).map (fun i => (i.zero, i.size, i.bytes)) = some (some (ag (List.replicate 32 (.int .u8 0))), 32, 32) := by kernel_rfl
abbrev T_api_Hash : TypeId := 24
theorem u_api_Hash : PP.underlying 24 = some (.array 32 5) := Tryz.underlying24
theorem g_api_Hash : isAg PP 24 32 := ⟨_, Tryz.underlying24, rfl, by kernel_rfl⟩
theorem s_api_Hash : (PP.info? 24).map (·.size) = some 32 := by kernel_rfl
theorem z_api_Hash : (PP.info? 24).map (·.zero) = some (some (ag (List.replicate 32 (.int .u8 0)))) := by kernel_rfl
theorem i_api_Hash : (PP.info? 24).map (fun i => (i.zero, i.size, i.bytes)) = some (some (ag (List.replicate 32 (.int .u8 0))), 32, 32) := by kernel_rfl
abbrev T_uint64 : TypeId := 25
theorem u_uint64 : PP.underlying 25 = some (.int .u64) := Tryz.underlying25
theorem o_uint64 : isOne PP 25 := ⟨_, Tryz.underlying25, rfl⟩
theorem s_uint64 : (PP.info? 25).map (·.size) = some 1 := by kernel_rfl
theorem z_uint64 : (PP.info? 25).map (·.zero) = some (some (.int .u64 0)) := by kernel_rfl
theorem i_uint64 : (PP.info? 25).map (fun i => (i.zero, i.size, i.bytes)) = some (some (.int .u64 0), 1, 8) := by kernel_rfl
abbrev T_api_Header : TypeId := 27
noncomputable abbrev F_api_Header : Array Field := fsOf Tryz.underlying27
theorem u_api_Header : PP.underlying 27 = some (.struct F_api_Header) := Tryz.underlying27
theorem g_api_Header : isAg PP 27 66 := ⟨_, Tryz.underlying27, rfl, by kernel_rfl⟩
theorem s_api_Header : (PP.info? 27).map (·.size) = some 66 := by kernel_rfl
theorem z_api_Header : (PP.info? 27).map (·.zero) = some (some (ag ([.int .u32 0] ++ ((List.replicate 32 (.int .u8 0)) ++ ((List.replicate 32 (.int .u8 0)) ++ ([.int .u64 0])))))) := by kernel_rfl
theorem i_api_Header : (PP.info? 27).map (fun i => (i.zero, i.size, i.bytes)) = some (some (ag ([.int .u32 0] ++ ((List.replicate 32 (.int .u8 0)) ++ ((List.replicate 32 (.int .u8 0)) ++ ([.int .u64 0]))))), 66, 80) := by kernel_rfl
abbrev T_api_Config : TypeId := 29
noncomputable abbrev F_api_Config : Array Field := fsOf Tryz.underlying29
theorem u_api_Config : PP.underlying 29 = some (.struct F_api_Config) := Tryz.underlying29
theorem g_api_Config : isAg PP 29 104 := ⟨_, Tryz.underlying29, rfl, by kernel_rfl⟩
theorem s_api_Config : (PP.info? 29).map (·.size) = some 104 := by kernel_rfl
theorem z_api_Config : (PP.info? 29).map (·.zero) = some (some (ag (([.int .u32 0] ++ ((List.replicate 32 (.int .u8 0)) ++ ((List.replicate 32 (.int .u8 0)) ++ ([.int .u64 0])))) ++ ((List.replicate 32 (.int .u8 0)) ++ ([.int .i64 0] ++ ([.int .i64 0] ++ ([.int .i64 0] ++ ([.int .i64 0] ++ ([.int .i64 0] ++ ([.int .i64 0])))))))))) := by kernel_rfl
theorem i_api_Config : (PP.info? 29).map (fun i => (i.zero, i.size, i.bytes)) = some (some (ag (([.int .u32 0] ++ ((List.replicate 32 (.int .u8 0)) ++ ((List.replicate 32 (.int .u8 0)) ++ ([.int .u64 0])))) ++ ((List.replicate 32 (.int .u8 0)) ++ ([.int .i64 0] ++ ([.int .i64 0] ++ ([.int .i64 0] ++ ([.int .i64 0] ++ ([.int .i64 0] ++ ([.int .i64 0]))))))))), 104, 160) := by kernel_rfl
abbrev T_sl_api_Block : TypeId := 30
theorem u_sl_api_Block : PP.underlying 30 = some (.slice 71) := Tryz.underlying30
theorem o_sl_api_Block : isOne PP 30 := ⟨_, Tryz.underlying30, rfl⟩
theorem s_sl_api_Block : (PP.info? 30).map (·.size) = some 1 := by kernel_rfl
theorem z_sl_api_Block : (PP.info? 30).map (·.zero) = some (some (.slice none 0 0)) := by kernel_rfl
theorem i_sl_api_Block : (PP.info? 30).map (fun i => (i.zero, i.size, i.bytes)) = some (some (.slice none 0 0), 1, 24) := by kernel_rfl
abbrev T_api_Errno : TypeId := 33
theorem u_api_Errno : PP.underlying 33 = some (.int .i64) := Tryz.underlying33
theorem o_api_Errno : isOne PP 33 := ⟨_, Tryz.underlying33, rfl⟩
theorem s_api_Errno : (PP.info? 33).map (·.size) = some 1 := by kernel_rfl
theorem z_api_Errno : (PP.info? 33).map (·.zero) = some (some (.int .i64 0)) := by kernel_rfl
theorem i_api_Errno : (PP.info? 33).map (fun i => (i.zero, i.size, i.bytes)) = some (some (.int .i64 0), 1, 8) := by kernel_rfl
abbrev T_api_Fault : TypeId := 35
noncomputable abbrev F_api_Fault : Array Field := fsOf Tryz.underlying35
theorem u_api_Fault : PP.underlying 35 = some (.struct F_api_Fault) := Tryz.underlying35
theorem g_api_Fault : isAg PP 35 2 := ⟨_, Tryz.underlying35, rfl, by kernel_rfl⟩
theorem s_api_Fault : (PP.info? 35).map (·.size) = some 2 := by kernel_rfl
theorem z_api_Fault : (PP.info? 35).map (·.zero) = some (some (ag ([.int .i64 0] ++ ([.int .i64 0])))) := by kernel_rfl
theorem i_api_Fault : (PP.info? 35).map (fun i => (i.zero, i.size, i.bytes)) = some (some (ag ([.int .i64 0] ++ ([.int .i64 0]))), 2, 16) := by kernel_rfl
abbrev T_sl_int : TypeId := 38
theorem u_sl_int : PP.underlying 38 = some (.slice 3) := Tryz.underlying38
theorem o_sl_int : isOne PP 38 := ⟨_, Tryz.underlying38, rfl⟩
theorem s_sl_int : (PP.info? 38).map (·.size) = some 1 := by kernel_rfl
theorem z_sl_int : (PP.info? 38).map (·.zero) = some (some (.slice none 0 0)) := by kernel_rfl
theorem i_sl_int : (PP.info? 38).map (fun i => (i.zero, i.size, i.bytes)) = some (some (.slice none 0 0), 1, 24) := by kernel_rfl
abbrev T_sl_api_Step : TypeId := 44
theorem u_sl_api_Step : PP.underlying 44 = some (.slice 68) := Tryz.underlying44
theorem o_sl_api_Step : isOne PP 44 := ⟨_, Tryz.underlying44, rfl⟩
theorem s_sl_api_Step : (PP.info? 44).map (·.size) = some 1 := by kernel_rfl
theorem z_sl_api_Step : (PP.info? 44).map (·.zero) = some (some (.slice none 0 0)) := by kernel_rfl
theorem i_sl_api_Step : (PP.info? 44).map (fun i => (i.zero, i.size, i.bytes)) = some (some (.slice none 0 0), 1, 24) := by kernel_rfl
abbrev T_a3_int : TypeId := 53
theorem u_a3_int : PP.underlying 53 = some (.array 3 3) := Tryz.underlying53
theorem g_a3_int : isAg PP 53 3 := ⟨_, Tryz.underlying53, rfl, by kernel_rfl⟩
theorem s_a3_int : (PP.info? 53).map (·.size) = some 3 := by kernel_rfl
theorem z_a3_int : (PP.info? 53).map (·.zero) = some (some (ag (List.replicate 3 (.int .i64 0)))) := by kernel_rfl
theorem i_a3_int : (PP.info? 53).map (fun i => (i.zero, i.size, i.bytes)) = some (some (ag (List.replicate 3 (.int .i64 0))), 3, 24) := by kernel_rfl
abbrev T_a2_int : TypeId := 56
theorem u_a2_int : PP.underlying 56 = some (.array 2 3) := Tryz.underlying56
theorem g_a2_int : isAg PP 56 2 := ⟨_, Tryz.underlying56, rfl, by kernel_rfl⟩
theorem s_a2_int : (PP.info? 56).map (·.size) = some 2 := by kernel_rfl
theorem z_a2_int : (PP.info? 56).map (·.zero) = some (some (ag (List.replicate 2 (.int .i64 0)))) := by kernel_rfl
theorem i_a2_int : (PP.info? 56).map (fun i => (i.zero, i.size, i.bytes)) = some (some (ag (List.replicate 2 (.int .i64 0))), 2, 16) := by kernel_rfl
abbrev T_sl_api_Hash : TypeId := 57
theorem u_sl_api_Hash : PP.underlying 57 = some (.slice 24) := Tryz.underlying57
theorem o_sl_api_Hash : isOne PP 57 := ⟨_, Tryz.underlying57, rfl⟩
theorem s_sl_api_Hash : (PP.info? 57).map (·.size) = some 1 := by kernel_rfl
theorem z_sl_api_Hash : (PP.info? 57).map (·.zero) = some (some (.slice none 0 0)) := by kernel_rfl
theorem i_sl_api_Hash : (PP.info? 57).map (fun i => (i.zero, i.size, i.bytes)) = some (some (.slice none 0 0), 1, 24) := by kernel_rfl
abbrev T_api_Opening : TypeId := 59
noncomputable abbrev F_api_Opening : Array Field := fsOf Tryz.underlying59
theorem u_api_Opening : PP.underlying 59 = some (.struct F_api_Opening) := Tryz.underlying59
theorem g_api_Opening : isAg PP 59 3 := ⟨_, Tryz.underlying59, rfl, by kernel_rfl⟩
theorem s_api_Opening : (PP.info? 59).map (·.size) = some 3 := by kernel_rfl
theorem z_api_Opening : (PP.info? 59).map (·.zero) = some (some (ag ([.int .i64 0] ++ ([.int .i64 0] ++ ([.slice none 0 0]))))) := by kernel_rfl
theorem i_api_Opening : (PP.info? 59).map (fun i => (i.zero, i.size, i.bytes)) = some (some (ag ([.int .i64 0] ++ ([.int .i64 0] ++ ([.slice none 0 0])))), 3, 40) := by kernel_rfl
abbrev T_api_Infix : TypeId := 61
noncomputable abbrev F_api_Infix : Array Field := fsOf Tryz.underlying61
theorem u_api_Infix : PP.underlying 61 = some (.struct F_api_Infix) := Tryz.underlying61
theorem g_api_Infix : isAg PP 61 10 := ⟨_, Tryz.underlying61, rfl, by kernel_rfl⟩
theorem s_api_Infix : (PP.info? 61).map (·.size) = some 10 := by kernel_rfl
theorem z_api_Infix : (PP.info? 61).map (·.zero) = some (some (ag ([.int .i64 0] ++ ([.slice none 0 0] ++ (([.int .i64 0] ++ ([.int .i64 0] ++ ([.slice none 0 0]))) ++ ([.int .i64 0] ++ ([.string ⟨#[]⟩] ++ (([.int .i64 0] ++ ([.int .i64 0] ++ ([.slice none 0 0]))))))))))) := by kernel_rfl
theorem i_api_Infix : (PP.info? 61).map (fun i => (i.zero, i.size, i.bytes)) = some (some (ag ([.int .i64 0] ++ ([.slice none 0 0] ++ (([.int .i64 0] ++ ([.int .i64 0] ++ ([.slice none 0 0]))) ++ ([.int .i64 0] ++ ([.string ⟨#[]⟩] ++ (([.int .i64 0] ++ ([.int .i64 0] ++ ([.slice none 0 0])))))))))), 10, 136) := by kernel_rfl
abbrev T_api_Step : TypeId := 68
noncomputable abbrev F_api_Step : Array Field := fsOf Tryz.underlying68
theorem u_api_Step : PP.underlying 68 = some (.struct F_api_Step) := Tryz.underlying68
theorem g_api_Step : isAg PP 68 69 := ⟨_, Tryz.underlying68, rfl, by kernel_rfl⟩
theorem s_api_Step : (PP.info? 68).map (·.size) = some 69 := by kernel_rfl
theorem z_api_Step : (PP.info? 68).map (·.zero) = some (some (ag (([.int .u32 0] ++ ((List.replicate 32 (.int .u8 0)) ++ ((List.replicate 32 (.int .u8 0)) ++ ([.int .u64 0])))) ++ (([.int .i64 0] ++ ([.int .i64 0] ++ ([.slice none 0 0]))))))) := by kernel_rfl
theorem i_api_Step : (PP.info? 68).map (fun i => (i.zero, i.size, i.bytes)) = some (some (ag (([.int .u32 0] ++ ((List.replicate 32 (.int .u8 0)) ++ ((List.replicate 32 (.int .u8 0)) ++ ([.int .u64 0])))) ++ (([.int .i64 0] ++ ([.int .i64 0] ++ ([.slice none 0 0])))))), 69, 120) := by kernel_rfl
abbrev T_sl_string : TypeId := 69
theorem u_sl_string : PP.underlying 69 = some (.slice 9) := Tryz.underlying69
theorem o_sl_string : isOne PP 69 := ⟨_, Tryz.underlying69, rfl⟩
theorem s_sl_string : (PP.info? 69).map (·.size) = some 1 := by kernel_rfl
theorem z_sl_string : (PP.info? 69).map (·.zero) = some (some (.slice none 0 0)) := by kernel_rfl
theorem i_sl_string : (PP.info? 69).map (fun i => (i.zero, i.size, i.bytes)) = some (some (.slice none 0 0), 1, 24) := by kernel_rfl
abbrev T_api_Block : TypeId := 71
noncomputable abbrev F_api_Block : Array Field := fsOf Tryz.underlying71
theorem u_api_Block : PP.underlying 71 = some (.struct F_api_Block) := Tryz.underlying71
theorem g_api_Block : isAg PP 71 67 := ⟨_, Tryz.underlying71, rfl, by kernel_rfl⟩
theorem s_api_Block : (PP.info? 71).map (·.size) = some 67 := by kernel_rfl
theorem z_api_Block : (PP.info? 71).map (·.zero) = some (some (ag (([.int .u32 0] ++ ((List.replicate 32 (.int .u8 0)) ++ ((List.replicate 32 (.int .u8 0)) ++ ([.int .u64 0])))) ++ ([.slice none 0 0])))) := by kernel_rfl
theorem i_api_Block : (PP.info? 71).map (fun i => (i.zero, i.size, i.bytes)) = some (some (ag (([.int .u32 0] ++ ((List.replicate 32 (.int .u8 0)) ++ ((List.replicate 32 (.int .u8 0)) ++ ([.int .u64 0])))) ++ ([.slice none 0 0]))), 67, 104) := by kernel_rfl
abbrev T_chain_look : TypeId := 79
noncomputable abbrev F_chain_look : Array Field := fsOf Tryz.underlying79
theorem u_chain_look : PP.underlying 79 = some (.struct F_chain_look) := Tryz.underlying79
theorem g_chain_look : isAg PP 79 173 := ⟨_, Tryz.underlying79, rfl, by kernel_rfl⟩
theorem s_chain_look : (PP.info? 79).map (·.size) = some 173 := by kernel_rfl
theorem z_chain_look : (PP.info? 79).map (·.zero) = some (some (ag ((([.int .u32 0] ++ ((List.replicate 32 (.int .u8 0)) ++ ((List.replicate 32 (.int .u8 0)) ++ ([.int .u64 0])))) ++ ((List.replicate 32 (.int .u8 0)) ++ ([.int .i64 0] ++ ([.int .i64 0] ++ ([.int .i64 0] ++ ([.int .i64 0] ++ ([.int .i64 0] ++ ([.int .i64 0])))))))) ++ ([.int .i64 0] ++ ((([.int .u32 0] ++ ((List.replicate 32 (.int .u8 0)) ++ ((List.replicate 32 (.int .u8 0)) ++ ([.int .u64 0])))) ++ ([.slice none 0 0])) ++ ([.slice none 0 0])))))) := by kernel_rfl
theorem i_chain_look : (PP.info? 79).map (fun i => (i.zero, i.size, i.bytes)) = some (some (ag ((([.int .u32 0] ++ ((List.replicate 32 (.int .u8 0)) ++ ((List.replicate 32 (.int .u8 0)) ++ ([.int .u64 0])))) ++ ((List.replicate 32 (.int .u8 0)) ++ ([.int .i64 0] ++ ([.int .i64 0] ++ ([.int .i64 0] ++ ([.int .i64 0] ++ ([.int .i64 0] ++ ([.int .i64 0])))))))) ++ ([.int .i64 0] ++ ((([.int .u32 0] ++ ((List.replicate 32 (.int .u8 0)) ++ ((List.replicate 32 (.int .u8 0)) ++ ([.int .u64 0])))) ++ ([.slice none 0 0])) ++ ([.slice none 0 0]))))), 173, 296) := by kernel_rfl
abbrev T_fn__to_api_Errno : TypeId := 80
theorem o_fn__to_api_Errno : isOne PP 80 := ⟨_, Tryz.underlying80, rfl⟩
theorem s_fn__to_api_Errno : (PP.info? 80).map (·.size) = some 1 := by kernel_rfl
theorem z_fn__to_api_Errno : (PP.info? 80).map (·.zero) = some (some (.nilFunc)) := by kernel_rfl
theorem i_fn__to_api_Errno : (PP.info? 80).map (fun i => (i.zero, i.size, i.bytes)) = some (some (.nilFunc), 1, 8) := by kernel_rfl
abbrev T_sl_fn__to_api_Errno : TypeId := 81
theorem u_sl_fn__to_api_Errno : PP.underlying 81 = some (.slice 80) := Tryz.underlying81
theorem o_sl_fn__to_api_Errno : isOne PP 81 := ⟨_, Tryz.underlying81, rfl⟩
theorem s_sl_fn__to_api_Errno : (PP.info? 81).map (·.size) = some 1 := by kernel_rfl
theorem z_sl_fn__to_api_Errno : (PP.info? 81).map (·.zero) = some (some (.slice none 0 0)) := by kernel_rfl
theorem i_sl_fn__to_api_Errno : (PP.info? 81).map (fun i => (i.zero, i.size, i.bytes)) = some (some (.slice none 0 0), 1, 24) := by kernel_rfl
abbrev T_sl_bool : TypeId := 85
theorem u_sl_bool : PP.underlying 85 = some (.slice 4) := Tryz.underlying85
theorem o_sl_bool : isOne PP 85 := ⟨_, Tryz.underlying85, rfl⟩
theorem s_sl_bool : (PP.info? 85).map (·.size) = some 1 := by kernel_rfl
theorem z_sl_bool : (PP.info? 85).map (·.zero) = some (some (.slice none 0 0)) := by kernel_rfl
theorem i_sl_bool : (PP.info? 85).map (fun i => (i.zero, i.size, i.bytes)) = some (some (.slice none 0 0), 1, 24) := by kernel_rfl
abbrev T_sl_sl_api_Hash : TypeId := 92
theorem u_sl_sl_api_Hash : PP.underlying 92 = some (.slice 57) := Tryz.underlying92
theorem o_sl_sl_api_Hash : isOne PP 92 := ⟨_, Tryz.underlying92, rfl⟩
theorem s_sl_sl_api_Hash : (PP.info? 92).map (·.size) = some 1 := by kernel_rfl
theorem z_sl_sl_api_Hash : (PP.info? 92).map (·.zero) = some (some (.slice none 0 0)) := by kernel_rfl
theorem i_sl_sl_api_Hash : (PP.info? 92).map (fun i => (i.zero, i.size, i.bytes)) = some (some (.slice none 0 0), 1, 24) := by kernel_rfl
abbrev T_sl_valid_rule : TypeId := 104
theorem u_sl_valid_rule : PP.underlying 104 = some (.slice 108) := Tryz.underlying104
theorem o_sl_valid_rule : isOne PP 104 := ⟨_, Tryz.underlying104, rfl⟩
theorem s_sl_valid_rule : (PP.info? 104).map (·.size) = some 1 := by kernel_rfl
theorem z_sl_valid_rule : (PP.info? 104).map (·.zero) = some (some (.slice none 0 0)) := by kernel_rfl
theorem i_sl_valid_rule : (PP.info? 104).map (fun i => (i.zero, i.size, i.bytes)) = some (some (.slice none 0 0), 1, 24) := by kernel_rfl
abbrev T_valid_rule : TypeId := 108
noncomputable abbrev F_valid_rule : Array Field := fsOf Tryz.underlying108
theorem u_valid_rule : PP.underlying 108 = some (.struct F_valid_rule) := Tryz.underlying108
theorem g_valid_rule : isAg PP 108 2 := ⟨_, Tryz.underlying108, rfl, by kernel_rfl⟩
theorem s_valid_rule : (PP.info? 108).map (·.size) = some 2 := by kernel_rfl
theorem z_valid_rule : (PP.info? 108).map (·.zero) = some (some (ag ([.nilFunc] ++ ([.int .i64 0])))) := by kernel_rfl
theorem i_valid_rule : (PP.info? 108).map (fun i => (i.zero, i.size, i.bytes)) = some (some (ag ([.nilFunc] ++ ([.int .i64 0]))), 2, 16) := by kernel_rfl
abbrev T_a4_uint64 : TypeId := 116
theorem u_a4_uint64 : PP.underlying 116 = some (.array 4 25) := Tryz.underlying116
theorem g_a4_uint64 : isAg PP 116 4 := ⟨_, Tryz.underlying116, rfl, by kernel_rfl⟩
theorem s_a4_uint64 : (PP.info? 116).map (·.size) = some 4 := by kernel_rfl
theorem z_a4_uint64 : (PP.info? 116).map (·.zero) = some (some (ag (List.replicate 4 (.int .u64 0)))) := by kernel_rfl
theorem i_a4_uint64 : (PP.info? 116).map (fun i => (i.zero, i.size, i.bytes)) = some (some (ag (List.replicate 4 (.int .u64 0))), 4, 32) := by kernel_rfl
abbrev T_wide_N : TypeId := 117
theorem u_wide_N : PP.underlying 117 = some (.array 4 25) := Tryz.underlying117
theorem g_wide_N : isAg PP 117 4 := ⟨_, Tryz.underlying117, rfl, by kernel_rfl⟩
theorem s_wide_N : (PP.info? 117).map (·.size) = some 4 := by kernel_rfl
theorem z_wide_N : (PP.info? 117).map (·.zero) = some (some (ag (List.replicate 4 (.int .u64 0)))) := by kernel_rfl
theorem i_wide_N : (PP.info? 117).map (fun i => (i.zero, i.size, i.bytes)) = some (some (ag (List.replicate 4 (.int .u64 0))), 4, 32) := by kernel_rfl
abbrev T_sl_uint8 : TypeId := 140
theorem u_sl_uint8 : PP.underlying 140 = some (.slice 5) := Tryz.underlying140
theorem o_sl_uint8 : isOne PP 140 := ⟨_, Tryz.underlying140, rfl⟩
theorem s_sl_uint8 : (PP.info? 140).map (·.size) = some 1 := by kernel_rfl
theorem z_sl_uint8 : (PP.info? 140).map (·.zero) = some (some (.slice none 0 0)) := by kernel_rfl
theorem i_sl_uint8 : (PP.info? 140).map (fun i => (i.zero, i.size, i.bytes)) = some (some (.slice none 0 0), 1, 24) := by kernel_rfl
abbrev T_uint : TypeId := 141
theorem u_uint : PP.underlying 141 = some (.int .u64) := Tryz.underlying141
theorem o_uint : isOne PP 141 := ⟨_, Tryz.underlying141, rfl⟩
theorem s_uint : (PP.info? 141).map (·.size) = some 1 := by kernel_rfl
theorem z_uint : (PP.info? 141).map (·.zero) = some (some (.int .u64 0)) := by kernel_rfl
theorem i_uint : (PP.info? 141).map (fun i => (i.zero, i.size, i.bytes)) = some (some (.int .u64 0), 1, 8) := by kernel_rfl
abbrev T_milepostref04_N : TypeId := 144
theorem u_milepostref04_N : PP.underlying 144 = some (.slice 4) := Tryz.underlying144
theorem o_milepostref04_N : isOne PP 144 := ⟨_, Tryz.underlying144, rfl⟩
theorem s_milepostref04_N : (PP.info? 144).map (·.size) = some 1 := by kernel_rfl
theorem z_milepostref04_N : (PP.info? 144).map (·.zero) = some (some (.slice none 0 0)) := by kernel_rfl
theorem i_milepostref04_N : (PP.info? 144).map (fun i => (i.zero, i.size, i.bytes)) = some (some (.slice none 0 0), 1, 24) := by kernel_rfl
abbrev T_a8_uint32 : TypeId := 159
theorem u_a8_uint32 : PP.underlying 159 = some (.array 8 22) := Tryz.underlying159
theorem g_a8_uint32 : isAg PP 159 8 := ⟨_, Tryz.underlying159, rfl, by kernel_rfl⟩
theorem s_a8_uint32 : (PP.info? 159).map (·.size) = some 8 := by kernel_rfl
theorem z_a8_uint32 : (PP.info? 159).map (·.zero) = some (some (ag (List.replicate 8 (.int .u32 0)))) := by kernel_rfl
theorem i_a8_uint32 : (PP.info? 159).map (fun i => (i.zero, i.size, i.bytes)) = some (some (ag (List.replicate 8 (.int .u32 0))), 8, 32) := by kernel_rfl
abbrev T_p_sha_State : TypeId := 169
theorem u_p_sha_State : PP.underlying 169 = some (.pointer 188) := Tryz.underlying169
theorem o_p_sha_State : isOne PP 169 := ⟨_, Tryz.underlying169, rfl⟩
theorem s_p_sha_State : (PP.info? 169).map (·.size) = some 1 := by kernel_rfl
theorem z_p_sha_State : (PP.info? 169).map (·.zero) = some (some (.pointer none)) := by kernel_rfl
theorem i_p_sha_State : (PP.info? 169).map (fun i => (i.zero, i.size, i.bytes)) = some (some (.pointer none), 1, 8) := by kernel_rfl
abbrev T_a64_uint32 : TypeId := 176
theorem u_a64_uint32 : PP.underlying 176 = some (.array 64 22) := Tryz.underlying176
theorem g_a64_uint32 : isAg PP 176 64 := ⟨_, Tryz.underlying176, rfl, by kernel_rfl⟩
theorem s_a64_uint32 : (PP.info? 176).map (·.size) = some 64 := by kernel_rfl
theorem z_a64_uint32 : (PP.info? 176).map (·.zero) = some (some (ag (List.replicate 64 (.int .u32 0)))) := by kernel_rfl
theorem i_a64_uint32 : (PP.info? 176).map (fun i => (i.zero, i.size, i.bytes)) = some (some (ag (List.replicate 64 (.int .u32 0))), 64, 256) := by kernel_rfl
abbrev T_sha_Words : TypeId := 186
theorem u_sha_Words : PP.underlying 186 = some (.array 8 22) := Tryz.underlying186
theorem g_sha_Words : isAg PP 186 8 := ⟨_, Tryz.underlying186, rfl, by kernel_rfl⟩
theorem s_sha_Words : (PP.info? 186).map (·.size) = some 8 := by kernel_rfl
theorem z_sha_Words : (PP.info? 186).map (·.zero) = some (some (ag (List.replicate 8 (.int .u32 0)))) := by kernel_rfl
theorem i_sha_Words : (PP.info? 186).map (fun i => (i.zero, i.size, i.bytes)) = some (some (ag (List.replicate 8 (.int .u32 0))), 8, 32) := by kernel_rfl
abbrev T_sha_State : TypeId := 188
noncomputable abbrev F_sha_State : Array Field := fsOf Tryz.underlying188
theorem u_sha_State : PP.underlying 188 = some (.struct F_sha_State) := Tryz.underlying188
theorem g_sha_State : isAg PP 188 11 := ⟨_, Tryz.underlying188, rfl, by kernel_rfl⟩
theorem s_sha_State : (PP.info? 188).map (·.size) = some 11 := by kernel_rfl
theorem z_sha_State : (PP.info? 188).map (·.zero) = some (some (ag ((List.replicate 8 (.int .u32 0)) ++ ([.string ⟨#[]⟩] ++ ([.int .u64 0] ++ ([.bool false])))))) := by kernel_rfl
theorem i_sha_State : (PP.info? 188).map (fun i => (i.zero, i.size, i.bytes)) = some (some (ag ((List.replicate 8 (.int .u32 0)) ++ ([.string ⟨#[]⟩] ++ ([.int .u64 0] ++ ([.bool false]))))), 11, 64) := by kernel_rfl
abbrev T_a5_uint64 : TypeId := 192
theorem u_a5_uint64 : PP.underlying 192 = some (.array 5 25) := Tryz.underlying192
theorem g_a5_uint64 : isAg PP 192 5 := ⟨_, Tryz.underlying192, rfl, by kernel_rfl⟩
theorem s_a5_uint64 : (PP.info? 192).map (·.size) = some 5 := by kernel_rfl
theorem z_a5_uint64 : (PP.info? 192).map (·.zero) = some (some (ag (List.replicate 5 (.int .u64 0)))) := by kernel_rfl
theorem i_a5_uint64 : (PP.info? 192).map (fun i => (i.zero, i.size, i.bytes)) = some (some (ag (List.replicate 5 (.int .u64 0))), 5, 40) := by kernel_rfl
abbrev T_large_N : TypeId := 193
theorem u_large_N : PP.underlying 193 = some (.array 5 25) := Tryz.underlying193
theorem g_large_N : isAg PP 193 5 := ⟨_, Tryz.underlying193, rfl, by kernel_rfl⟩
theorem s_large_N : (PP.info? 193).map (·.size) = some 5 := by kernel_rfl
theorem z_large_N : (PP.info? 193).map (·.zero) = some (some (ag (List.replicate 5 (.int .u64 0)))) := by kernel_rfl
theorem i_large_N : (PP.info? 193).map (fun i => (i.zero, i.size, i.bytes)) = some (some (ag (List.replicate 5 (.int .u64 0))), 5, 40) := by kernel_rfl
abbrev T_milepostref05_N : TypeId := 197
theorem u_milepostref05_N : PP.underlying 197 = some (.slice 3) := Tryz.underlying197
theorem o_milepostref05_N : isOne PP 197 := ⟨_, Tryz.underlying197, rfl⟩
theorem s_milepostref05_N : (PP.info? 197).map (·.size) = some 1 := by kernel_rfl
theorem z_milepostref05_N : (PP.info? 197).map (·.zero) = some (some (.slice none 0 0)) := by kernel_rfl
theorem i_milepostref05_N : (PP.info? 197).map (fun i => (i.zero, i.size, i.bytes)) = some (some (.slice none 0 0), 1, 24) := by kernel_rfl
abbrev T_sl_uint32 : TypeId := 202
theorem u_sl_uint32 : PP.underlying 202 = some (.slice 22) := Tryz.underlying202
theorem o_sl_uint32 : isOne PP 202 := ⟨_, Tryz.underlying202, rfl⟩
theorem s_sl_uint32 : (PP.info? 202).map (·.size) = some 1 := by kernel_rfl
theorem z_sl_uint32 : (PP.info? 202).map (·.zero) = some (some (.slice none 0 0)) := by kernel_rfl
theorem i_sl_uint32 : (PP.info? 202).map (fun i => (i.zero, i.size, i.bytes)) = some (some (.slice none 0 0), 1, 24) := by kernel_rfl
abbrev T_p_strings_Builder : TypeId := 209
theorem u_p_strings_Builder : PP.underlying 209 = some (.pointer 211) := Tryz.underlying209
theorem o_p_strings_Builder : isOne PP 209 := ⟨_, Tryz.underlying209, rfl⟩
theorem s_p_strings_Builder : (PP.info? 209).map (·.size) = some 1 := by kernel_rfl
theorem z_p_strings_Builder : (PP.info? 209).map (·.zero) = some (some (.pointer none)) := by kernel_rfl
theorem i_p_strings_Builder : (PP.info? 209).map (fun i => (i.zero, i.size, i.bytes)) = some (some (.pointer none), 1, 8) := by kernel_rfl
abbrev T_strings_Builder : TypeId := 211
noncomputable abbrev F_strings_Builder : Array Field := fsOf Tryz.underlying211
theorem u_strings_Builder : PP.underlying 211 = some (.struct F_strings_Builder) := Tryz.underlying211
theorem g_strings_Builder : isAg PP 211 2 := ⟨_, Tryz.underlying211, rfl, by kernel_rfl⟩
theorem s_strings_Builder : (PP.info? 211).map (·.size) = some 2 := by kernel_rfl
theorem z_strings_Builder : (PP.info? 211).map (·.zero) = some (some (ag ([.pointer none] ++ ([.slice none 0 0])))) := by kernel_rfl
theorem i_strings_Builder : (PP.info? 211).map (fun i => (i.zero, i.size, i.bytes)) = some (some (ag ([.pointer none] ++ ([.slice none 0 0]))), 2, 32) := by kernel_rfl
abbrev T_error : TypeId := 214
theorem o_error : isOne PP 214 := ⟨_, Tryz.underlying214, rfl⟩
theorem s_error : (PP.info? 214).map (·.size) = some 1 := by kernel_rfl
theorem z_error : (PP.info? 214).map (·.zero) = some (some (.nilIface)) := by kernel_rfl
theorem i_error : (PP.info? 214).map (fun i => (i.zero, i.size, i.bytes)) = some (some (.nilIface), 1, 16) := by kernel_rfl
abbrev T_sl_uint64 : TypeId := 222
theorem u_sl_uint64 : PP.underlying 222 = some (.slice 25) := Tryz.underlying222
theorem o_sl_uint64 : isOne PP 222 := ⟨_, Tryz.underlying222, rfl⟩
theorem s_sl_uint64 : (PP.info? 222).map (·.size) = some 1 := by kernel_rfl
theorem z_sl_uint64 : (PP.info? 222).map (·.zero) = some (some (.slice none 0 0)) := by kernel_rfl
theorem i_sl_uint64 : (PP.info? 222).map (fun i => (i.zero, i.size, i.bytes)) = some (some (.slice none 0 0), 1, 24) := by kernel_rfl
abbrev T_p_uint8 : TypeId := 228
theorem u_p_uint8 : PP.underlying 228 = some (.pointer 5) := Tryz.underlying228
theorem o_p_uint8 : isOne PP 228 := ⟨_, Tryz.underlying228, rfl⟩
theorem s_p_uint8 : (PP.info? 228).map (·.size) = some 1 := by kernel_rfl
theorem z_p_uint8 : (PP.info? 228).map (·.zero) = some (some (.pointer none)) := by kernel_rfl
theorem i_p_uint8 : (PP.info? 228).map (fun i => (i.zero, i.size, i.bytes)) = some (some (.pointer none), 1, 8) := by kernel_rfl
abbrev T_runtime_TypeAssertionError : TypeId := 243
noncomputable abbrev F_runtime_TypeAssertionError : Array Field := fsOf Tryz.underlying243
theorem u_runtime_TypeAssertionError : PP.underlying 243 = some (.struct F_runtime_TypeAssertionError) := Tryz.underlying243
theorem g_runtime_TypeAssertionError : isAg PP 243 4 := ⟨_, Tryz.underlying243, rfl, by kernel_rfl⟩
theorem s_runtime_TypeAssertionError : (PP.info? 243).map (·.size) = some 4 := by kernel_rfl
theorem z_runtime_TypeAssertionError : (PP.info? 243).map (·.zero) = some (some (ag ([.pointer none] ++ ([.pointer none] ++ ([.pointer none] ++ ([.string ⟨#[]⟩])))))) := by kernel_rfl
theorem i_runtime_TypeAssertionError : (PP.info? 243).map (fun i => (i.zero, i.size, i.bytes)) = some (some (ag ([.pointer none] ++ ([.pointer none] ++ ([.pointer none] ++ ([.string ⟨#[]⟩]))))), 4, 40) := by kernel_rfl
abbrev T_a0_p_runtime_PanicNilError : TypeId := 244
theorem u_a0_p_runtime_PanicNilError : PP.underlying 244 = some (.array 0 16) := Tryz.underlying244
abbrev T_runtime_PanicNilError : TypeId := 246
noncomputable abbrev F_runtime_PanicNilError : Array Field := fsOf Tryz.underlying246
theorem u_runtime_PanicNilError : PP.underlying 246 = some (.struct F_runtime_PanicNilError) := Tryz.underlying246
abbrev T_internal_abi_TFlag : TypeId := 247
theorem u_internal_abi_TFlag : PP.underlying 247 = some (.int .u8) := Tryz.underlying247
theorem o_internal_abi_TFlag : isOne PP 247 := ⟨_, Tryz.underlying247, rfl⟩
theorem s_internal_abi_TFlag : (PP.info? 247).map (·.size) = some 1 := by kernel_rfl
theorem z_internal_abi_TFlag : (PP.info? 247).map (·.zero) = some (some (.int .u8 0)) := by kernel_rfl
theorem i_internal_abi_TFlag : (PP.info? 247).map (fun i => (i.zero, i.size, i.bytes)) = some (some (.int .u8 0), 1, 1) := by kernel_rfl
abbrev T_internal_abi_Kind : TypeId := 248
theorem u_internal_abi_Kind : PP.underlying 248 = some (.int .u8) := Tryz.underlying248
theorem o_internal_abi_Kind : isOne PP 248 := ⟨_, Tryz.underlying248, rfl⟩
theorem s_internal_abi_Kind : (PP.info? 248).map (·.size) = some 1 := by kernel_rfl
theorem z_internal_abi_Kind : (PP.info? 248).map (·.zero) = some (some (.int .u8 0)) := by kernel_rfl
theorem i_internal_abi_Kind : (PP.info? 248).map (fun i => (i.zero, i.size, i.bytes)) = some (some (.int .u8 0), 1, 1) := by kernel_rfl
abbrev T_internal_abi_NameOff : TypeId := 250
theorem u_internal_abi_NameOff : PP.underlying 250 = some (.int .i32) := Tryz.underlying250
theorem o_internal_abi_NameOff : isOne PP 250 := ⟨_, Tryz.underlying250, rfl⟩
theorem s_internal_abi_NameOff : (PP.info? 250).map (·.size) = some 1 := by kernel_rfl
theorem z_internal_abi_NameOff : (PP.info? 250).map (·.zero) = some (some (.int .i32 0)) := by kernel_rfl
theorem i_internal_abi_NameOff : (PP.info? 250).map (fun i => (i.zero, i.size, i.bytes)) = some (some (.int .i32 0), 1, 4) := by kernel_rfl
abbrev T_internal_abi_TypeOff : TypeId := 251
theorem u_internal_abi_TypeOff : PP.underlying 251 = some (.int .i32) := Tryz.underlying251
theorem o_internal_abi_TypeOff : isOne PP 251 := ⟨_, Tryz.underlying251, rfl⟩
theorem s_internal_abi_TypeOff : (PP.info? 251).map (·.size) = some 1 := by kernel_rfl
theorem z_internal_abi_TypeOff : (PP.info? 251).map (·.zero) = some (some (.int .i32 0)) := by kernel_rfl
theorem i_internal_abi_TypeOff : (PP.info? 251).map (fun i => (i.zero, i.size, i.bytes)) = some (some (.int .i32 0), 1, 4) := by kernel_rfl
abbrev T_internal_abi_Type : TypeId := 253
noncomputable abbrev F_internal_abi_Type : Array Field := fsOf Tryz.underlying253
theorem u_internal_abi_Type : PP.underlying 253 = some (.struct F_internal_abi_Type) := Tryz.underlying253
theorem g_internal_abi_Type : isAg PP 253 11 := ⟨_, Tryz.underlying253, rfl, by kernel_rfl⟩
theorem s_internal_abi_Type : (PP.info? 253).map (·.size) = some 11 := by kernel_rfl
theorem z_internal_abi_Type : (PP.info? 253).map (·.zero) = some (some (ag ([.int .u64 0] ++ ([.int .u64 0] ++ ([.int .u32 0] ++ ([.int .u8 0] ++ ([.int .u8 0] ++ ([.int .u8 0] ++ ([.int .u8 0] ++ ([.nilFunc] ++ ([.pointer none] ++ ([.int .i32 0] ++ ([.int .i32 0]))))))))))))) := by kernel_rfl
theorem i_internal_abi_Type : (PP.info? 253).map (fun i => (i.zero, i.size, i.bytes)) = some (some (ag ([.int .u64 0] ++ ([.int .u64 0] ++ ([.int .u32 0] ++ ([.int .u8 0] ++ ([.int .u8 0] ++ ([.int .u8 0] ++ ([.int .u8 0] ++ ([.nilFunc] ++ ([.pointer none] ++ ([.int .i32 0] ++ ([.int .i32 0])))))))))))), 11, 48) := by kernel_rfl

abbrev N_milepostlaw47_PickJoined : FuncId := 3
theorem f_milepostlaw47_PickJoined : PP.funcs[3]? = some Tryz.f3 := Tryz.func3
theorem n_milepostlaw47_PickJoined : Tryz.f3.ntmps = 116 := Tryz.ntmps3
theorem k_milepostlaw47_PickJoined : Fn PP 3 := ⟨_, _, Tryz.func3, rfl, rfl⟩
abbrev N_milepostlaw48_ProveMakes : FuncId := 4
theorem f_milepostlaw48_ProveMakes : PP.funcs[4]? = some Tryz.f4 := Tryz.func4
theorem n_milepostlaw48_ProveMakes : Tryz.f4.ntmps = 56 := Tryz.ntmps4
theorem k_milepostlaw48_ProveMakes : Fn PP 4 := ⟨_, _, Tryz.func4, rfl, rfl⟩
abbrev N_milepostlaw48_ProveSteps : FuncId := 5
theorem f_milepostlaw48_ProveSteps : PP.funcs[5]? = some Tryz.f5 := Tryz.func5
theorem n_milepostlaw48_ProveSteps : Tryz.f5.ntmps = 44 := Tryz.ntmps5
theorem k_milepostlaw48_ProveSteps : Fn PP 5 := ⟨_, _, Tryz.func5, rfl, rfl⟩
abbrev N_milepostlaw49_WayBetween : FuncId := 6
theorem f_milepostlaw49_WayBetween : PP.funcs[6]? = some Tryz.f6 := Tryz.func6
theorem n_milepostlaw49_WayBetween : Tryz.f6.ntmps = 29 := Tryz.ntmps6
theorem k_milepostlaw49_WayBetween : Fn PP 6 := ⟨_, _, Tryz.func6, rfl, rfl⟩
abbrev N_milepostlaw49_WayMakes : FuncId := 7
theorem f_milepostlaw49_WayMakes : PP.funcs[7]? = some Tryz.f7 := Tryz.func7
theorem n_milepostlaw49_WayMakes : Tryz.f7.ntmps = 47 := Tryz.ntmps7
theorem k_milepostlaw49_WayMakes : Fn PP 7 := ⟨_, _, Tryz.func7, rfl, rfl⟩
abbrev N_milepostlaw48_ProveValid : FuncId := 8
theorem f_milepostlaw48_ProveValid : PP.funcs[8]? = some Tryz.f8 := Tryz.func8
theorem n_milepostlaw48_ProveValid : Tryz.f8.ntmps = 132 := Tryz.ntmps8
theorem k_milepostlaw48_ProveValid : Fn PP 8 := ⟨_, _, Tryz.func8, rfl, rfl⟩
abbrev N_milepostlaw50_WithinWays : FuncId := 9
theorem f_milepostlaw50_WithinWays : PP.funcs[9]? = some Tryz.f9 := Tryz.func9
theorem n_milepostlaw50_WithinWays : Tryz.f9.ntmps = 127 := Tryz.ntmps9
theorem k_milepostlaw50_WithinWays : Fn PP 9 := ⟨_, _, Tryz.func9, rfl, rfl⟩
abbrev N_milepostlaw24_Much : FuncId := 10
theorem f_milepostlaw24_Much : PP.funcs[10]? = some Tryz.f10 := Tryz.func10
theorem n_milepostlaw24_Much : Tryz.f10.ntmps = 36 := Tryz.ntmps10
theorem k_milepostlaw24_Much : Fn PP 10 := ⟨_, _, Tryz.func10, rfl, rfl⟩
abbrev N_pick_May : FuncId := 11
theorem f_pick_May : PP.funcs[11]? = some Tryz.f11 := Tryz.func11
theorem n_pick_May : Tryz.f11.ntmps = 28 := Tryz.ntmps11
theorem k_pick_May : Fn PP 11 := ⟨_, _, Tryz.func11, rfl, rfl⟩
abbrev N_chain_Check : FuncId := 12
theorem f_chain_Check : PP.funcs[12]? = some Tryz.f12 := Tryz.func12
theorem n_chain_Check : Tryz.f12.ntmps = 62 := Tryz.ntmps12
theorem k_chain_Check : Fn PP 12 := ⟨_, _, Tryz.func12, rfl, rfl⟩
abbrev N_milepostlaw47_awake : FuncId := 13
theorem f_milepostlaw47_awake : PP.funcs[13]? = some Tryz.f13 := Tryz.func13
theorem n_milepostlaw47_awake : Tryz.f13.ntmps = 12 := Tryz.ntmps13
theorem k_milepostlaw47_awake : Fn PP 13 := ⟨_, _, Tryz.func13, rfl, rfl⟩
abbrev N_chain_Levels : FuncId := 14
theorem f_chain_Levels : PP.funcs[14]? = some Tryz.f14 := Tryz.func14
theorem n_chain_Levels : Tryz.f14.ntmps = 28 := Tryz.ntmps14
theorem k_chain_Levels : Fn PP 14 := ⟨_, _, Tryz.func14, rfl, rfl⟩
abbrev N_pick_Pick : FuncId := 15
theorem f_pick_Pick : PP.funcs[15]? = some Tryz.f15 := Tryz.func15
theorem n_pick_Pick : Tryz.f15.ntmps = 86 := Tryz.ntmps15
theorem k_pick_Pick : Fn PP 15 := ⟨_, _, Tryz.func15, rfl, rfl⟩
abbrev N_milepostref22_Index : FuncId := 16
theorem f_milepostref22_Index : PP.funcs[16]? = some Tryz.f16 := Tryz.func16
theorem n_milepostref22_Index : Tryz.f16.ntmps = 25 := Tryz.ntmps16
theorem k_milepostref22_Index : Fn PP 16 := ⟨_, _, Tryz.func16, rfl, rfl⟩
abbrev N_near_All : FuncId := 17
theorem f_near_All : PP.funcs[17]? = some Tryz.f17 := Tryz.func17
theorem n_near_All : Tryz.f17.ntmps = 34 := Tryz.ntmps17
theorem k_near_All : Fn PP 17 := ⟨_, _, Tryz.func17, rfl, rfl⟩
abbrev N_milepostlaw48_awake : FuncId := 18
theorem f_milepostlaw48_awake : PP.funcs[18]? = some Tryz.f18 := Tryz.func18
theorem n_milepostlaw48_awake : Tryz.f18.ntmps = 28 := Tryz.ntmps18
theorem k_milepostlaw48_awake : Fn PP 18 := ⟨_, _, Tryz.func18, rfl, rfl⟩
abbrev N_prove_Prove : FuncId := 19
theorem f_prove_Prove : PP.funcs[19]? = some Tryz.f19 := Tryz.func19
theorem n_prove_Prove : Tryz.f19.ntmps = 22 := Tryz.ntmps19
theorem k_prove_Prove : Fn PP 19 := ⟨_, _, Tryz.func19, rfl, rfl⟩
abbrev N_milepostref47_Prove : FuncId := 20
theorem f_milepostref47_Prove : PP.funcs[20]? = some Tryz.f20 := Tryz.func20
theorem n_milepostref47_Prove : Tryz.f20.ntmps = 22 := Tryz.ntmps20
theorem k_milepostref47_Prove : Fn PP 20 := ⟨_, _, Tryz.func20, rfl, rfl⟩
abbrev N_milepostref22_Same : FuncId := 21
theorem f_milepostref22_Same : PP.funcs[21]? = some Tryz.f21 := Tryz.func21
theorem n_milepostref22_Same : Tryz.f21.ntmps = 26 := Tryz.ntmps21
theorem k_milepostref22_Same : Fn PP 21 := ⟨_, _, Tryz.func21, rfl, rfl⟩
abbrev N_prove_Places : FuncId := 22
theorem f_prove_Places : PP.funcs[22]? = some Tryz.f22 := Tryz.func22
theorem n_prove_Places : Tryz.f22.ntmps = 43 := Tryz.ntmps22
theorem k_prove_Places : Fn PP 22 := ⟨_, _, Tryz.func22, rfl, rfl⟩
abbrev N_milepostref47_Places : FuncId := 23
theorem f_milepostref47_Places : PP.funcs[23]? = some Tryz.f23 := Tryz.func23
theorem n_milepostref47_Places : Tryz.f23.ntmps = 39 := Tryz.ntmps23
theorem k_milepostref47_Places : Fn PP 23 := ⟨_, _, Tryz.func23, rfl, rfl⟩
abbrev N_milepostref29_Same : FuncId := 24
theorem f_milepostref29_Same : PP.funcs[24]? = some Tryz.f24 := Tryz.func24
theorem n_milepostref29_Same : Tryz.f24.ntmps = 27 := Tryz.ntmps24
theorem k_milepostref29_Same : Fn PP 24 := ⟨_, _, Tryz.func24, rfl, rfl⟩
abbrev N_prove_May : FuncId := 25
theorem f_prove_May : PP.funcs[25]? = some Tryz.f25 := Tryz.func25
theorem n_prove_May : Tryz.f25.ntmps = 31 := Tryz.ntmps25
theorem k_prove_May : Fn PP 25 := ⟨_, _, Tryz.func25, rfl, rfl⟩
abbrev N_milepostref47_MayProve : FuncId := 26
theorem f_milepostref47_MayProve : PP.funcs[26]? = some Tryz.f26 := Tryz.func26
theorem n_milepostref47_MayProve : Tryz.f26.ntmps = 29 := Tryz.ntmps26
theorem k_milepostref47_MayProve : Fn PP 26 := ⟨_, _, Tryz.func26, rfl, rfl⟩
abbrev N_prove_Steps : FuncId := 27
theorem f_prove_Steps : PP.funcs[27]? = some Tryz.f27 := Tryz.func27
theorem n_prove_Steps : Tryz.f27.ntmps = 76 := Tryz.ntmps27
theorem k_prove_Steps : Fn PP 27 := ⟨_, _, Tryz.func27, rfl, rfl⟩
abbrev N_milepostref47_Steps : FuncId := 28
theorem f_milepostref47_Steps : PP.funcs[28]? = some Tryz.f28 := Tryz.func28
theorem n_milepostref47_Steps : Tryz.f28.ntmps = 78 := Tryz.ntmps28
theorem k_milepostref47_Steps : Fn PP 28 := ⟨_, _, Tryz.func28, rfl, rfl⟩
abbrev N_milepostlaw49_awake : FuncId := 29
theorem f_milepostlaw49_awake : PP.funcs[29]? = some Tryz.f29 := Tryz.func29
theorem n_milepostlaw49_awake : Tryz.f29.ntmps = 16 := Tryz.ntmps29
theorem k_milepostlaw49_awake : Fn PP 29 := ⟨_, _, Tryz.func29, rfl, rfl⟩
abbrev N_way_Between : FuncId := 30
theorem f_way_Between : PP.funcs[30]? = some Tryz.f30 := Tryz.func30
theorem n_way_Between : Tryz.f30.ntmps = 51 := Tryz.ntmps30
theorem k_way_Between : Fn PP 30 := ⟨_, _, Tryz.func30, rfl, rfl⟩
abbrev N_milepostref47_Between : FuncId := 31
theorem f_milepostref47_Between : PP.funcs[31]? = some Tryz.f31 := Tryz.func31
theorem n_milepostref47_Between : Tryz.f31.ntmps = 67 := Tryz.ntmps31
theorem k_milepostref47_Between : Fn PP 31 := ⟨_, _, Tryz.func31, rfl, rfl⟩
abbrev N_way_Infix : FuncId := 32
theorem f_way_Infix : PP.funcs[32]? = some Tryz.f32 := Tryz.func32
theorem n_way_Infix : Tryz.f32.ntmps = 80 := Tryz.ntmps32
theorem k_way_Infix : Fn PP 32 := ⟨_, _, Tryz.func32, rfl, rfl⟩
abbrev N_milepostref47_Infix : FuncId := 33
theorem f_milepostref47_Infix : PP.funcs[33]? = some Tryz.f33 := Tryz.func33
theorem n_milepostref47_Infix : Tryz.f33.ntmps = 153 := Tryz.ntmps33
theorem k_milepostref47_Infix : Fn PP 33 := ⟨_, _, Tryz.func33, rfl, rfl⟩
abbrev N_milepostref29_SameInfix : FuncId := 34
theorem f_milepostref29_SameInfix : PP.funcs[34]? = some Tryz.f34 := Tryz.func34
theorem n_milepostref29_SameInfix : Tryz.f34.ntmps = 45 := Tryz.ntmps34
theorem k_milepostref29_SameInfix : Fn PP 34 := ⟨_, _, Tryz.func34, rfl, rfl⟩
abbrev N_valid_Check : FuncId := 35
theorem f_valid_Check : PP.funcs[35]? = some Tryz.f35 := Tryz.func35
theorem n_valid_Check : Tryz.f35.ntmps = 55 := Tryz.ntmps35
theorem k_valid_Check : Fn PP 35 := ⟨_, _, Tryz.func35, rfl, rfl⟩
abbrev N_rise_Above : FuncId := 36
theorem f_rise_Above : PP.funcs[36]? = some Tryz.f36 := Tryz.func36
theorem n_rise_Above : Tryz.f36.ntmps = 10 := Tryz.ntmps36
theorem k_rise_Above : Fn PP 36 := ⟨_, _, Tryz.func36, rfl, rfl⟩
abbrev N_milepostlaw50_awake : FuncId := 37
theorem f_milepostlaw50_awake : PP.funcs[37]? = some Tryz.f37 := Tryz.func37
theorem n_milepostlaw50_awake : Tryz.f37.ntmps = 23 := Tryz.ntmps37
theorem k_milepostlaw50_awake : Fn PP 37 := ⟨_, _, Tryz.func37, rfl, rfl⟩
abbrev N_within_Block : FuncId := 38
theorem f_within_Block : PP.funcs[38]? = some Tryz.f38 := Tryz.func38
theorem n_within_Block : Tryz.f38.ntmps = 31 := Tryz.ntmps38
theorem k_within_Block : Fn PP 38 := ⟨_, _, Tryz.func38, rfl, rfl⟩
abbrev N_within_Check : FuncId := 39
theorem f_within_Check : PP.funcs[39]? = some Tryz.f39 := Tryz.func39
theorem n_within_Check : Tryz.f39.ntmps = 39 := Tryz.ntmps39
theorem k_within_Check : Fn PP 39 := ⟨_, _, Tryz.func39, rfl, rfl⟩
abbrev N_milepostlaw22_Much : FuncId := 40
theorem f_milepostlaw22_Much : PP.funcs[40]? = some Tryz.f40 := Tryz.func40
theorem n_milepostlaw22_Much : Tryz.f40.ntmps = 41 := Tryz.ntmps40
theorem k_milepostlaw22_Much : Fn PP 40 := ⟨_, _, Tryz.func40, rfl, rfl⟩
abbrev N_ratio_May : FuncId := 41
theorem f_ratio_May : PP.funcs[41]? = some Tryz.f41 := Tryz.func41
theorem n_ratio_May : Tryz.f41.ntmps = 16 := Tryz.ntmps41
theorem k_ratio_May : Fn PP 41 := ⟨_, _, Tryz.func41, rfl, rfl⟩
abbrev N_chain_look_anchor : FuncId := 42
theorem f_chain_look_anchor : PP.funcs[42]? = some Tryz.f42 := Tryz.func42
theorem n_chain_look_anchor : Tryz.f42.ntmps = 15 := Tryz.ntmps42
theorem k_chain_look_anchor : Fn PP 42 := ⟨_, _, Tryz.func42, rfl, rfl⟩
abbrev N_chain_look_form : FuncId := 43
theorem f_chain_look_form : PP.funcs[43]? = some Tryz.f43 := Tryz.func43
theorem n_chain_look_form : Tryz.f43.ntmps = 11 := Tryz.ntmps43
theorem k_chain_look_form : Fn PP 43 := ⟨_, _, Tryz.func43, rfl, rfl⟩
abbrev N_chain_look_work : FuncId := 44
theorem f_chain_look_work : PP.funcs[44]? = some Tryz.f44 := Tryz.func44
theorem n_chain_look_work : Tryz.f44.ntmps = 11 := Tryz.ntmps44
theorem k_chain_look_work : Fn PP 44 := ⟨_, _, Tryz.func44, rfl, rfl⟩
abbrev N_chain_behind : FuncId := 45
theorem f_chain_behind : PP.funcs[45]? = some Tryz.f45 := Tryz.func45
theorem n_chain_behind : Tryz.f45.ntmps = 22 := Tryz.ntmps45
theorem k_chain_behind : Fn PP 45 := ⟨_, _, Tryz.func45, rfl, rfl⟩
abbrev N_work_Level : FuncId := 46
theorem f_work_Level : PP.funcs[46]? = some Tryz.f46 := Tryz.func46
theorem n_work_Level : Tryz.f46.ntmps = 25 := Tryz.ntmps46
theorem k_work_Level : Fn PP 46 := ⟨_, _, Tryz.func46, rfl, rfl⟩
abbrev N_chain_id : FuncId := 47
theorem f_chain_id : PP.funcs[47]? = some Tryz.f47 := Tryz.func47
theorem n_chain_id : Tryz.f47.ntmps = 6 := Tryz.ntmps47
theorem k_chain_id : Fn PP 47 := ⟨_, _, Tryz.func47, rfl, rfl⟩
abbrev N_pick_top : FuncId := 48
theorem f_pick_top : PP.funcs[48]? = some Tryz.f48 := Tryz.func48
theorem n_pick_top : Tryz.f48.ntmps = 21 := Tryz.ntmps48
theorem k_pick_top : Fn PP 48 := ⟨_, _, Tryz.func48, rfl, rfl⟩
abbrev N_up_Places : FuncId := 49
theorem f_up_Places : PP.funcs[49]? = some Tryz.f49 := Tryz.func49
theorem n_up_Places : Tryz.f49.ntmps = 19 := Tryz.ntmps49
theorem k_up_Places : Fn PP 49 := ⟨_, _, Tryz.func49, rfl, rfl⟩
abbrev N_pick_Begin : FuncId := 50
theorem f_pick_Begin : PP.funcs[50]? = some Tryz.f50 := Tryz.func50
theorem n_pick_Begin : Tryz.f50.ntmps = 49 := Tryz.ntmps50
theorem k_pick_Begin : Fn PP 50 := ⟨_, _, Tryz.func50, rfl, rfl⟩
abbrev N_milepostref22_All : FuncId := 51
theorem f_milepostref22_All : PP.funcs[51]? = some Tryz.f51 := Tryz.func51
theorem n_milepostref22_All : Tryz.f51.ntmps = 35 := Tryz.ntmps51
theorem k_milepostref22_All : Fn PP 51 := ⟨_, _, Tryz.func51, rfl, rfl⟩
abbrev N_near_Near : FuncId := 52
theorem f_near_Near : PP.funcs[52]? = some Tryz.f52 := Tryz.func52
theorem n_near_Near : Tryz.f52.ntmps = 25 := Tryz.ntmps52
theorem k_near_Near : Fn PP 52 := ⟨_, _, Tryz.func52, rfl, rfl⟩
abbrev N_milepostref47_Pick : FuncId := 53
theorem f_milepostref47_Pick : PP.funcs[53]? = some Tryz.f53 := Tryz.func53
theorem n_milepostref47_Pick : Tryz.f53.ntmps = 106 := Tryz.ntmps53
theorem k_milepostref47_Pick : Fn PP 53 := ⟨_, _, Tryz.func53, rfl, rfl⟩
abbrev N_milepostref22_Levels : FuncId := 54
theorem f_milepostref22_Levels : PP.funcs[54]? = some Tryz.f54 := Tryz.func54
theorem n_milepostref22_Levels : Tryz.f54.ntmps = 28 := Tryz.ntmps54
theorem k_milepostref22_Levels : Fn PP 54 := ⟨_, _, Tryz.func54, rfl, rfl⟩
abbrev N_milepostref22_Ids : FuncId := 55
theorem f_milepostref22_Ids : PP.funcs[55]? = some Tryz.f55 := Tryz.func55
theorem n_milepostref22_Ids : Tryz.f55.ntmps = 21 := Tryz.ntmps55
theorem k_milepostref22_Ids : Fn PP 55 := ⟨_, _, Tryz.func55, rfl, rfl⟩
abbrev N_milepostref29_SameStep : FuncId := 56
theorem f_milepostref29_SameStep : PP.funcs[56]? = some Tryz.f56 := Tryz.func56
theorem n_milepostref29_SameStep : Tryz.f56.ntmps = 17 := Tryz.ntmps56
theorem k_milepostref29_SameStep : Fn PP 56 := ⟨_, _, Tryz.func56, rfl, rfl⟩
abbrev N_milepostref22_Check : FuncId := 57
theorem f_milepostref22_Check : PP.funcs[57]? = some Tryz.f57 := Tryz.func57
theorem n_milepostref22_Check : Tryz.f57.ntmps = 68 := Tryz.ntmps57
theorem k_milepostref22_Check : Fn PP 57 := ⟨_, _, Tryz.func57, rfl, rfl⟩
abbrev N_milepostref47_May : FuncId := 58
theorem f_milepostref47_May : PP.funcs[58]? = some Tryz.f58 := Tryz.func58
theorem n_milepostref47_May : Tryz.f58.ntmps = 28 := Tryz.ntmps58
theorem k_milepostref47_May : Fn PP 58 := ⟨_, _, Tryz.func58, rfl, rfl⟩
abbrev N_chain_Vectors : FuncId := 59
theorem f_chain_Vectors : PP.funcs[59]? = some Tryz.f59 := Tryz.func59
theorem n_chain_Vectors : Tryz.f59.ntmps = 29 := Tryz.ntmps59
theorem k_chain_Vectors : Fn PP 59 := ⟨_, _, Tryz.func59, rfl, rfl⟩
abbrev N_down_Index : FuncId := 60
theorem f_down_Index : PP.funcs[60]? = some Tryz.f60 := Tryz.func60
theorem n_down_Index : Tryz.f60.ntmps = 23 := Tryz.ntmps60
theorem k_down_Index : Fn PP 60 := ⟨_, _, Tryz.func60, rfl, rfl⟩
abbrev N_link_Open : FuncId := 61
theorem f_link_Open : PP.funcs[61]? = some Tryz.f61 := Tryz.func61
theorem n_link_Open : Tryz.f61.ntmps = 12 := Tryz.ntmps61
theorem k_link_Open : Fn PP 61 := ⟨_, _, Tryz.func61, rfl, rfl⟩
abbrev N_milepostref11_Open : FuncId := 62
theorem f_milepostref11_Open : PP.funcs[62]? = some Tryz.f62 := Tryz.func62
theorem n_milepostref11_Open : Tryz.f62.ntmps = 27 := Tryz.ntmps62
theorem k_milepostref11_Open : Fn PP 62 := ⟨_, _, Tryz.func62, rfl, rfl⟩
abbrev N_milepostref17_Leaves : FuncId := 63
theorem f_milepostref17_Leaves : PP.funcs[63]? = some Tryz.f63 := Tryz.func63
theorem n_milepostref17_Leaves : Tryz.f63.ntmps = 20 := Tryz.ntmps63
theorem k_milepostref17_Leaves : Fn PP 63 := ⟨_, _, Tryz.func63, rfl, rfl⟩
abbrev N_milepostref22_Rule : FuncId := 64
theorem f_milepostref22_Rule : PP.funcs[64]? = some Tryz.f64 := Tryz.func64
theorem n_milepostref22_Rule : Tryz.f64.ntmps = 31 := Tryz.ntmps64
theorem k_milepostref22_Rule : Fn PP 64 := ⟨_, _, Tryz.func64, rfl, rfl⟩
abbrev N_down_Walk : FuncId := 65
theorem f_down_Walk : PP.funcs[65]? = some Tryz.f65 := Tryz.func65
theorem n_down_Walk : Tryz.f65.ntmps = 44 := Tryz.ntmps65
theorem k_down_Walk : Fn PP 65 := ⟨_, _, Tryz.func65, rfl, rfl⟩
abbrev N_slices_Reverse_int_int : FuncId := 66
theorem f_slices_Reverse_int_int : PP.funcs[66]? = some Tryz.f66 := Tryz.func66
theorem n_slices_Reverse_int_int : Tryz.f66.ntmps = 28 := Tryz.ntmps66
theorem k_slices_Reverse_int_int : Fn PP 66 := ⟨_, _, Tryz.func66, rfl, rfl⟩
abbrev N_milepostref22_Walk : FuncId := 67
theorem f_milepostref22_Walk : PP.funcs[67]? = some Tryz.f67 := Tryz.func67
theorem n_milepostref22_Walk : Tryz.f67.ntmps = 68 := Tryz.ntmps67
theorem k_milepostref22_Walk : Fn PP 67 := ⟨_, _, Tryz.func67, rfl, rfl⟩
abbrev N_txs_Open : FuncId := 68
theorem f_txs_Open : PP.funcs[68]? = some Tryz.f68 := Tryz.func68
theorem n_txs_Open : Tryz.f68.ntmps = 19 := Tryz.ntmps68
theorem k_txs_Open : Fn PP 68 := ⟨_, _, Tryz.func68, rfl, rfl⟩
abbrev N_way_around : FuncId := 69
theorem f_way_around : PP.funcs[69]? = some Tryz.f69 := Tryz.func69
theorem n_way_around : Tryz.f69.ntmps = 21 := Tryz.ntmps69
theorem k_way_around : Fn PP 69 := ⟨_, _, Tryz.func69, rfl, rfl⟩
abbrev N_way_inner : FuncId := 70
theorem f_way_inner : PP.funcs[70]? = some Tryz.f70 := Tryz.func70
theorem n_way_inner : Tryz.f70.ntmps = 73 := Tryz.ntmps70
theorem k_way_inner : Fn PP 70 := ⟨_, _, Tryz.func70, rfl, rfl⟩
abbrev N_milepostref22_OpenTx : FuncId := 71
theorem f_milepostref22_OpenTx : PP.funcs[71]? = some Tryz.f71 := Tryz.func71
theorem n_milepostref22_OpenTx : Tryz.f71.ntmps = 19 := Tryz.ntmps71
theorem k_milepostref22_OpenTx : Fn PP 71 := ⟨_, _, Tryz.func71, rfl, rfl⟩
abbrev N_milepostref11_Same : FuncId := 72
theorem f_milepostref11_Same : PP.funcs[72]? = some Tryz.f72 := Tryz.func72
theorem n_milepostref11_Same : Tryz.f72.ntmps = 24 := Tryz.ntmps72
theorem k_milepostref11_Same : Fn PP 72 := ⟨_, _, Tryz.func72, rfl, rfl⟩
abbrev N_anchor_Check : FuncId := 73
theorem f_anchor_Check : PP.funcs[73]? = some Tryz.f73 := Tryz.func73
theorem n_anchor_Check : Tryz.f73.ntmps = 23 := Tryz.ntmps73
theorem k_anchor_Check : Fn PP 73 := ⟨_, _, Tryz.func73, rfl, rfl⟩
abbrev N_valid_rules : FuncId := 74
theorem f_valid_rules : PP.funcs[74]? = some Tryz.f74 := Tryz.func74
theorem n_valid_rules : Tryz.f74.ntmps = 12 := Tryz.ntmps74
theorem k_valid_rules : Fn PP 74 := ⟨_, _, Tryz.func74, rfl, rfl⟩
abbrev N_tail_Check : FuncId := 75
theorem f_tail_Check : PP.funcs[75]? = some Tryz.f75 := Tryz.func75
theorem n_tail_Check : Tryz.f75.ntmps = 9 := Tryz.ntmps75
theorem k_tail_Check : Fn PP 75 := ⟨_, _, Tryz.func75, rfl, rfl⟩
abbrev N_within_place : FuncId := 76
theorem f_within_place : PP.funcs[76]? = some Tryz.f76 := Tryz.func76
theorem n_within_place : Tryz.f76.ntmps = 44 := Tryz.ntmps76
theorem k_within_place : Fn PP 76 := ⟨_, _, Tryz.func76, rfl, rfl⟩
abbrev N_within_inner : FuncId := 77
theorem f_within_inner : PP.funcs[77]? = some Tryz.f77 := Tryz.func77
theorem n_within_inner : Tryz.f77.ntmps = 59 := Tryz.ntmps77
theorem k_within_inner : Fn PP 77 := ⟨_, _, Tryz.func77, rfl, rfl⟩
abbrev N_txs_Check : FuncId := 78
theorem f_txs_Check : PP.funcs[78]? = some Tryz.f78 := Tryz.func78
theorem n_txs_Check : Tryz.f78.ntmps = 22 := Tryz.ntmps78
theorem k_txs_Check : Fn PP 78 := ⟨_, _, Tryz.func78, rfl, rfl⟩
abbrev N_block_Check : FuncId := 79
theorem f_block_Check : PP.funcs[79]? = some Tryz.f79 := Tryz.func79
theorem n_block_Check : Tryz.f79.ntmps = 31 := Tryz.ntmps79
theorem k_block_Check : Fn PP 79 := ⟨_, _, Tryz.func79, rfl, rfl⟩
abbrev N_work_Ok : FuncId := 80
theorem f_work_Ok : PP.funcs[80]? = some Tryz.f80 := Tryz.func80
theorem n_work_Ok : Tryz.f80.ntmps = 11 := Tryz.ntmps80
theorem k_work_Ok : Fn PP 80 := ⟨_, _, Tryz.func80, rfl, rfl⟩
abbrev N_inter_First : FuncId := 81
theorem f_inter_First : PP.funcs[81]? = some Tryz.f81 := Tryz.func81
theorem n_inter_First : Tryz.f81.ntmps = 5 := Tryz.ntmps81
theorem k_inter_First : Fn PP 81 := ⟨_, _, Tryz.func81, rfl, rfl⟩
abbrev N_inter_Next : FuncId := 82
theorem f_inter_Next : PP.funcs[82]? = some Tryz.f82 := Tryz.func82
theorem n_inter_Next : Tryz.f82.ntmps = 64 := Tryz.ntmps82
theorem k_inter_Next : Fn PP 82 := ⟨_, _, Tryz.func82, rfl, rfl⟩
abbrev N_wide_Of : FuncId := 83
theorem f_wide_Of : PP.funcs[83]? = some Tryz.f83 := Tryz.func83
theorem n_wide_Of : Tryz.f83.ntmps = 18 := Tryz.ntmps83
theorem k_wide_Of : Fn PP 83 := ⟨_, _, Tryz.func83, rfl, rfl⟩
abbrev N_wide_Cmp : FuncId := 84
theorem f_wide_Cmp : PP.funcs[84]? = some Tryz.f84 := Tryz.func84
theorem n_wide_Cmp : Tryz.f84.ntmps = 28 := Tryz.ntmps84
theorem k_wide_Cmp : Fn PP 84 := ⟨_, _, Tryz.func84, rfl, rfl⟩
abbrev N_wide_Shr : FuncId := 85
theorem f_wide_Shr : PP.funcs[85]? = some Tryz.f85 := Tryz.func85
theorem n_wide_Shr : Tryz.f85.ntmps = 59 := Tryz.ntmps85
theorem k_wide_Shr : Fn PP 85 := ⟨_, _, Tryz.func85, rfl, rfl⟩
abbrev N_ident_Id : FuncId := 86
theorem f_ident_Id : PP.funcs[86]? = some Tryz.f86 := Tryz.func86
theorem n_ident_Id : Tryz.f86.ntmps = 6 := Tryz.ntmps86
theorem k_ident_Id : Fn PP 86 := ⟨_, _, Tryz.func86, rfl, rfl⟩
abbrev N_up_each : FuncId := 87
theorem f_up_each : PP.funcs[87]? = some Tryz.f87 := Tryz.func87
theorem n_up_each : Tryz.f87.ntmps = 8 := Tryz.ntmps87
theorem k_up_each : Fn PP 87 := ⟨_, _, Tryz.func87, rfl, rfl⟩
abbrev N_good_Good : FuncId := 88
theorem f_good_Good : PP.funcs[88]? = some Tryz.f88 := Tryz.func88
theorem n_good_Good : Tryz.f88.ntmps = 25 := Tryz.ntmps88
theorem k_good_Good : Fn PP 88 := ⟨_, _, Tryz.func88, rfl, rfl⟩
abbrev N_milepostref22_Near : FuncId := 89
theorem f_milepostref22_Near : PP.funcs[89]? = some Tryz.f89 := Tryz.func89
theorem n_milepostref22_Near : Tryz.f89.ntmps = 28 := Tryz.ntmps89
theorem k_milepostref22_Near : Fn PP 89 := ⟨_, _, Tryz.func89, rfl, rfl⟩
abbrev N_milepostref38_Places : FuncId := 90
theorem f_milepostref38_Places : PP.funcs[90]? = some Tryz.f90 := Tryz.func90
theorem n_milepostref38_Places : Tryz.f90.ntmps = 31 := Tryz.ntmps90
theorem k_milepostref38_Places : Fn PP 90 := ⟨_, _, Tryz.func90, rfl, rfl⟩
abbrev N_milepostref47_Begin : FuncId := 91
theorem f_milepostref47_Begin : PP.funcs[91]? = some Tryz.f91 := Tryz.func91
theorem n_milepostref47_Begin : Tryz.f91.ntmps = 49 := Tryz.ntmps91
theorem k_milepostref47_Begin : Fn PP 91 := ⟨_, _, Tryz.func91, rfl, rfl⟩
abbrev N_milepostref17_Level : FuncId := 92
theorem f_milepostref17_Level : PP.funcs[92]? = some Tryz.f92 := Tryz.func92
theorem n_milepostref17_Level : Tryz.f92.ntmps = 26 := Tryz.ntmps92
theorem k_milepostref17_Level : Fn PP 92 := ⟨_, _, Tryz.func92, rfl, rfl⟩
abbrev N_milepostref17_Id : FuncId := 93
theorem f_milepostref17_Id : PP.funcs[93]? = some Tryz.f93 := Tryz.func93
theorem n_milepostref17_Id : Tryz.f93.ntmps = 7 := Tryz.ntmps93
theorem k_milepostref17_Id : Fn PP 93 := ⟨_, _, Tryz.func93, rfl, rfl⟩
abbrev N_milepostref22_CheckBlock : FuncId := 94
theorem f_milepostref22_CheckBlock : PP.funcs[94]? = some Tryz.f94 := Tryz.func94
theorem n_milepostref22_CheckBlock : Tryz.f94.ntmps = 34 := Tryz.ntmps94
theorem k_milepostref22_CheckBlock : Fn PP 94 := ⟨_, _, Tryz.func94, rfl, rfl⟩
abbrev N_milepostref17_Ok : FuncId := 95
theorem f_milepostref17_Ok : PP.funcs[95]? = some Tryz.f95 := Tryz.func95
theorem n_milepostref17_Ok : Tryz.f95.ntmps = 11 := Tryz.ntmps95
theorem k_milepostref17_Ok : Fn PP 95 := ⟨_, _, Tryz.func95, rfl, rfl⟩
abbrev N_milepostref06_May : FuncId := 96
theorem f_milepostref06_May : PP.funcs[96]? = some Tryz.f96 := Tryz.func96
theorem n_milepostref06_May : Tryz.f96.ntmps = 16 := Tryz.ntmps96
theorem k_milepostref06_May : Fn PP 96 := ⟨_, _, Tryz.func96, rfl, rfl⟩
abbrev N_open_Open : FuncId := 97
theorem f_open_Open : PP.funcs[97]? = some Tryz.f97 := Tryz.func97
theorem n_open_Open : Tryz.f97.ntmps = 29 := Tryz.ntmps97
theorem k_open_Open : Fn PP 97 := ⟨_, _, Tryz.func97, rfl, rfl⟩
abbrev N_link_texts : FuncId := 98
theorem f_link_texts : PP.funcs[98]? = some Tryz.f98 := Tryz.func98
theorem n_link_texts : Tryz.f98.ntmps = 19 := Tryz.ntmps98
theorem k_link_texts : Fn PP 98 := ⟨_, _, Tryz.func98, rfl, rfl⟩
abbrev N_milepostref11_path : FuncId := 99
theorem f_milepostref11_path : PP.funcs[99]? = some Tryz.f99 := Tryz.func99
theorem n_milepostref11_path : Tryz.f99.ntmps = 39 := Tryz.ntmps99
theorem k_milepostref11_path : Fn PP 99 := ⟨_, _, Tryz.func99, rfl, rfl⟩
abbrev N_milepostref11_Leaves : FuncId := 100
theorem f_milepostref11_Leaves : PP.funcs[100]? = some Tryz.f100 := Tryz.func100
theorem n_milepostref11_Leaves : Tryz.f100.ntmps = 20 := Tryz.ntmps100
theorem k_milepostref11_Leaves : Fn PP 100 := ⟨_, _, Tryz.func100, rfl, rfl⟩
abbrev N_milepostref17_Leaf : FuncId := 101
theorem f_milepostref17_Leaf : PP.funcs[101]? = some Tryz.f101 := Tryz.func101
theorem n_milepostref17_Leaf : Tryz.f101.ntmps = 6 := Tryz.ntmps101
theorem k_milepostref17_Leaf : Fn PP 101 := ⟨_, _, Tryz.func101, rfl, rfl⟩
abbrev N_milepostref17_Next : FuncId := 102
theorem f_milepostref17_Next : PP.funcs[102]? = some Tryz.f102 := Tryz.func102
theorem n_milepostref17_Next : Tryz.f102.ntmps = 64 := Tryz.ntmps102
theorem k_milepostref17_Next : Fn PP 102 := ⟨_, _, Tryz.func102, rfl, rfl⟩
abbrev N_down_far : FuncId := 103
theorem f_down_far : PP.funcs[103]? = some Tryz.f103 := Tryz.func103
theorem n_down_far : Tryz.f103.ntmps = 32 := Tryz.ntmps103
theorem k_down_far : Fn PP 103 := ⟨_, _, Tryz.func103, rfl, rfl⟩
abbrev N_txs_May : FuncId := 104
theorem f_txs_May : PP.funcs[104]? = some Tryz.f104 := Tryz.func104
theorem n_txs_May : Tryz.f104.ntmps = 18 := Tryz.ntmps104
theorem k_txs_May : Fn PP 104 := ⟨_, _, Tryz.func104, rfl, rfl⟩
abbrev N_txs_texts : FuncId := 105
theorem f_txs_texts : PP.funcs[105]? = some Tryz.f105 := Tryz.func105
theorem n_txs_texts : Tryz.f105.ntmps = 19 := Tryz.ntmps105
theorem k_txs_texts : Fn PP 105 := ⟨_, _, Tryz.func105, rfl, rfl⟩
abbrev N_milepostref22_MayTxs : FuncId := 106
theorem f_milepostref22_MayTxs : PP.funcs[106]? = some Tryz.f106 := Tryz.func106
theorem n_milepostref22_MayTxs : Tryz.f106.ntmps = 19 := Tryz.ntmps106
theorem k_milepostref22_MayTxs : Fn PP 106 := ⟨_, _, Tryz.func106, rfl, rfl⟩
abbrev N_milepostref22_Leaves : FuncId := 107
theorem f_milepostref22_Leaves : PP.funcs[107]? = some Tryz.f107 := Tryz.func107
theorem n_milepostref22_Leaves : Tryz.f107.ntmps = 20 := Tryz.ntmps107
theorem k_milepostref22_Leaves : Fn PP 107 := ⟨_, _, Tryz.func107, rfl, rfl⟩
abbrev N_milepostref11_Hashes : FuncId := 108
theorem f_milepostref11_Hashes : PP.funcs[108]? = some Tryz.f108 := Tryz.func108
theorem n_milepostref11_Hashes : Tryz.f108.ntmps = 26 := Tryz.ntmps108
theorem k_milepostref11_Hashes : Fn PP 108 := ⟨_, _, Tryz.func108, rfl, rfl⟩
abbrev N_open_None : FuncId := 109
theorem f_open_None : PP.funcs[109]? = some Tryz.f109 := Tryz.func109
theorem n_open_None : Tryz.f109.ntmps = 6 := Tryz.ntmps109
theorem k_open_None : Fn PP 109 := ⟨_, _, Tryz.func109, rfl, rfl⟩
abbrev N_valid_rules_1 : FuncId := 110
theorem f_valid_rules_1 : PP.funcs[110]? = some Tryz.f110 := Tryz.func110
theorem n_valid_rules_1 : Tryz.f110.ntmps = 20 := Tryz.ntmps110
theorem k_valid_rules_1 : Fn PP 110 := ⟨_, _, Tryz.func110, rfl, rfl⟩
abbrev N_valid_rules_2 : FuncId := 111
theorem f_valid_rules_2 : PP.funcs[111]? = some Tryz.f111 := Tryz.func111
theorem n_valid_rules_2 : Tryz.f111.ntmps = 14 := Tryz.ntmps111
theorem k_valid_rules_2 : Fn PP 111 := ⟨_, _, Tryz.func111, rfl, rfl⟩
abbrev N_valid_rules_3 : FuncId := 112
theorem f_valid_rules_3 : PP.funcs[112]? = some Tryz.f112 := Tryz.func112
theorem n_valid_rules_3 : Tryz.f112.ntmps = 19 := Tryz.ntmps112
theorem k_valid_rules_3 : Fn PP 112 := ⟨_, _, Tryz.func112, rfl, rfl⟩
abbrev N_join_Holds : FuncId := 113
theorem f_join_Holds : PP.funcs[113]? = some Tryz.f113 := Tryz.func113
theorem n_join_Holds : Tryz.f113.ntmps = 13 := Tryz.ntmps113
theorem k_join_Holds : Fn PP 113 := ⟨_, _, Tryz.func113, rfl, rfl⟩
abbrev N_tail_Len : FuncId := 114
theorem f_tail_Len : PP.funcs[114]? = some Tryz.f114 := Tryz.func114
theorem n_tail_Len : Tryz.f114.ntmps = 38 := Tryz.ntmps114
theorem k_tail_Len : Fn PP 114 := ⟨_, _, Tryz.func114, rfl, rfl⟩
abbrev N_within_one : FuncId := 115
theorem f_within_one : PP.funcs[115]? = some Tryz.f115 := Tryz.func115
theorem n_within_one : Tryz.f115.ntmps = 34 := Tryz.ntmps115
theorem k_within_one : Fn PP 115 := ⟨_, _, Tryz.func115, rfl, rfl⟩
abbrev N_hold_Check : FuncId := 116
theorem f_hold_Check : PP.funcs[116]? = some Tryz.f116 := Tryz.func116
theorem n_hold_Check : Tryz.f116.ntmps = 22 := Tryz.ntmps116
theorem k_hold_Check : Fn PP 116 := ⟨_, _, Tryz.func116, rfl, rfl⟩
abbrev N_txs_Text : FuncId := 117
theorem f_txs_Text : PP.funcs[117]? = some Tryz.f117 := Tryz.func117
theorem n_txs_Text : Tryz.f117.ntmps = 5 := Tryz.ntmps117
theorem k_txs_Text : Fn PP 117 := ⟨_, _, Tryz.func117, rfl, rfl⟩
abbrev N_block_Make : FuncId := 118
theorem f_block_Make : PP.funcs[118]? = some Tryz.f118 := Tryz.func118
theorem n_block_Make : Tryz.f118.ntmps = 21 := Tryz.ntmps118
theorem k_block_Make : Fn PP 118 := ⟨_, _, Tryz.func118, rfl, rfl⟩
abbrev N_word_Take64 : FuncId := 119
theorem f_word_Take64 : PP.funcs[119]? = some Tryz.f119 := Tryz.func119
theorem n_word_Take64 : Tryz.f119.ntmps = 8 := Tryz.ntmps119
theorem k_word_Take64 : Fn PP 119 := ⟨_, _, Tryz.func119, rfl, rfl⟩
abbrev N_tag_HeaderSum : FuncId := 120
theorem f_tag_HeaderSum : PP.funcs[120]? = some Tryz.f120 := Tryz.func120
theorem n_tag_HeaderSum : Tryz.f120.ntmps = 6 := Tryz.ntmps120
theorem k_tag_HeaderSum : Fn PP 120 := ⟨_, _, Tryz.func120, rfl, rfl⟩
abbrev N_head_Bytes : FuncId := 121
theorem f_head_Bytes : PP.funcs[121]? = some Tryz.f121 := Tryz.func121
theorem n_head_Bytes : Tryz.f121.ntmps = 18 := Tryz.ntmps121
theorem k_head_Bytes : Fn PP 121 := ⟨_, _, Tryz.func121, rfl, rfl⟩
abbrev N_up_each_1 : FuncId := 122
theorem f_up_each_1 : PP.funcs[122]? = some Tryz.f122 := Tryz.func122
theorem n_up_each_1 : Tryz.f122.ntmps = 26 := Tryz.ntmps122
theorem k_up_each_1 : Fn PP 122 := ⟨_, _, Tryz.func122, rfl, rfl⟩
abbrev N_good_Super : FuncId := 123
theorem f_good_Super : PP.funcs[123]? = some Tryz.f123 := Tryz.func123
theorem n_good_Super : Tryz.f123.ntmps = 43 := Tryz.ntmps123
theorem k_good_Super : Fn PP 123 := ⟨_, _, Tryz.func123, rfl, rfl⟩
abbrev N_good_Multi : FuncId := 124
theorem f_good_Multi : PP.funcs[124]? = some Tryz.f124 := Tryz.func124
theorem n_good_Multi : Tryz.f124.ntmps = 42 := Tryz.ntmps124
theorem k_good_Multi : Fn PP 124 := ⟨_, _, Tryz.func124, rfl, rfl⟩
abbrev N_milepostref38_Good : FuncId := 125
theorem f_milepostref38_Good : PP.funcs[125]? = some Tryz.f125 := Tryz.func125
theorem n_milepostref38_Good : Tryz.f125.ntmps = 25 := Tryz.ntmps125
theorem k_milepostref38_Good : Fn PP 125 := ⟨_, _, Tryz.func125, rfl, rfl⟩
abbrev N_milepostref04_Of : FuncId := 126
theorem f_milepostref04_Of : PP.funcs[126]? = some Tryz.f126 := Tryz.func126
theorem n_milepostref04_Of : Tryz.f126.ntmps = 28 := Tryz.ntmps126
theorem k_milepostref04_Of : Fn PP 126 := ⟨_, _, Tryz.func126, rfl, rfl⟩
abbrev N_milepostref04_Cmp : FuncId := 127
theorem f_milepostref04_Cmp : PP.funcs[127]? = some Tryz.f127 := Tryz.func127
theorem n_milepostref04_Cmp : Tryz.f127.ntmps = 26 := Tryz.ntmps127
theorem k_milepostref04_Cmp : Fn PP 127 := ⟨_, _, Tryz.func127, rfl, rfl⟩
abbrev N_milepostref04_Shr : FuncId := 128
theorem f_milepostref04_Shr : PP.funcs[128]? = some Tryz.f128 := Tryz.func128
theorem n_milepostref04_Shr : Tryz.f128.ntmps = 41 := Tryz.ntmps128
theorem k_milepostref04_Shr : Fn PP 128 := ⟨_, _, Tryz.func128, rfl, rfl⟩
abbrev N_milepostref02_Sum : FuncId := 129
theorem f_milepostref02_Sum : PP.funcs[129]? = some Tryz.f129 := Tryz.func129
theorem n_milepostref02_Sum : Tryz.f129.ntmps = 51 := Tryz.ntmps129
theorem k_milepostref02_Sum : Fn PP 129 := ⟨_, _, Tryz.func129, rfl, rfl⟩
abbrev N_milepostref03_HeaderText : FuncId := 130
theorem f_milepostref03_HeaderText : PP.funcs[130]? = some Tryz.f130 := Tryz.func130
theorem n_milepostref03_HeaderText : Tryz.f130.ntmps = 6 := Tryz.ntmps130
theorem k_milepostref03_HeaderText : Fn PP 130 := ⟨_, _, Tryz.func130, rfl, rfl⟩
abbrev N_milepostref17_Bytes : FuncId := 131
theorem f_milepostref17_Bytes : PP.funcs[131]? = some Tryz.f131 := Tryz.func131
theorem n_milepostref17_Bytes : Tryz.f131.ntmps = 19 := Tryz.ntmps131
theorem k_milepostref17_Bytes : Fn PP 131 := ⟨_, _, Tryz.func131, rfl, rfl⟩
abbrev N_milepostref17_Links : FuncId := 132
theorem f_milepostref17_Links : PP.funcs[132]? = some Tryz.f132 := Tryz.func132
theorem n_milepostref17_Links : Tryz.f132.ntmps = 6 := Tryz.ntmps132
theorem k_milepostref17_Links : Fn PP 132 := ⟨_, _, Tryz.func132, rfl, rfl⟩
abbrev N_milepostref22_Txs : FuncId := 133
theorem f_milepostref22_Txs : PP.funcs[133]? = some Tryz.f133 := Tryz.func133
theorem n_milepostref22_Txs : Tryz.f133.ntmps = 6 := Tryz.ntmps133
theorem k_milepostref22_Txs : Fn PP 133 := ⟨_, _, Tryz.func133, rfl, rfl⟩
abbrev N_open_path : FuncId := 134
theorem f_open_path : PP.funcs[134]? = some Tryz.f134 := Tryz.func134
theorem n_open_path : Tryz.f134.ntmps = 39 := Tryz.ntmps134
theorem k_open_path : Fn PP 134 := ⟨_, _, Tryz.func134, rfl, rfl⟩
abbrev N_tree_Leaves : FuncId := 135
theorem f_tree_Leaves : PP.funcs[135]? = some Tryz.f135 := Tryz.func135
theorem n_tree_Leaves : Tryz.f135.ntmps = 5 := Tryz.ntmps135
theorem k_tree_Leaves : Fn PP 135 := ⟨_, _, Tryz.func135, rfl, rfl⟩
abbrev N_link_Text : FuncId := 136
theorem f_link_Text : PP.funcs[136]? = some Tryz.f136 := Tryz.func136
theorem n_link_Text : Tryz.f136.ntmps = 6 := Tryz.ntmps136
theorem k_link_Text : Fn PP 136 := ⟨_, _, Tryz.func136, rfl, rfl⟩
abbrev N_milepostref11_Left : FuncId := 137
theorem f_milepostref11_Left : PP.funcs[137]? = some Tryz.f137 := Tryz.func137
theorem n_milepostref11_Left : Tryz.f137.ntmps = 16 := Tryz.ntmps137
theorem k_milepostref11_Left : Fn PP 137 := ⟨_, _, Tryz.func137, rfl, rfl⟩
abbrev N_milepostref11_Top : FuncId := 138
theorem f_milepostref11_Top : PP.funcs[138]? = some Tryz.f138 := Tryz.func138
theorem n_milepostref11_Top : Tryz.f138.ntmps = 26 := Tryz.ntmps138
theorem k_milepostref11_Top : Fn PP 138 := ⟨_, _, Tryz.func138, rfl, rfl⟩
abbrev N_milepostref03_Leaf : FuncId := 139
theorem f_milepostref03_Leaf : PP.funcs[139]? = some Tryz.f139 := Tryz.func139
theorem n_milepostref03_Leaf : Tryz.f139.ntmps = 6 := Tryz.ntmps139
theorem k_milepostref03_Leaf : Fn PP 139 := ⟨_, _, Tryz.func139, rfl, rfl⟩
abbrev N_milepostref03_Raw : FuncId := 140
theorem f_milepostref03_Raw : PP.funcs[140]? = some Tryz.f140 := Tryz.func140
theorem n_milepostref03_Raw : Tryz.f140.ntmps = 18 := Tryz.ntmps140
theorem k_milepostref03_Raw : Fn PP 140 := ⟨_, _, Tryz.func140, rfl, rfl⟩
abbrev N_open_Same : FuncId := 141
theorem f_open_Same : PP.funcs[141]? = some Tryz.f141 := Tryz.func141
theorem n_open_Same : Tryz.f141.ntmps = 45 := Tryz.ntmps141
theorem k_open_Same : Fn PP 141 := ⟨_, _, Tryz.func141, rfl, rfl⟩
abbrev N_link_Check : FuncId := 142
theorem f_link_Check : PP.funcs[142]? = some Tryz.f142 := Tryz.func142
theorem n_link_Check : Tryz.f142.ntmps = 17 := Tryz.ntmps142
theorem k_link_Check : Fn PP 142 := ⟨_, _, Tryz.func142, rfl, rfl⟩
abbrev N_rise_Next : FuncId := 143
theorem f_rise_Next : PP.funcs[143]? = some Tryz.f143 := Tryz.func143
theorem n_rise_Next : Tryz.f143.ntmps = 16 := Tryz.ntmps143
theorem k_rise_Next : Fn PP 143 := ⟨_, _, Tryz.func143, rfl, rfl⟩
abbrev N_hold_Root : FuncId := 144
theorem f_hold_Root : PP.funcs[144]? = some Tryz.f144 := Tryz.func144
theorem n_hold_Root : Tryz.f144.ntmps = 27 := Tryz.ntmps144
theorem k_hold_Root : Fn PP 144 := ⟨_, _, Tryz.func144, rfl, rfl⟩
abbrev N_link_Root : FuncId := 145
theorem f_link_Root : PP.funcs[145]? = some Tryz.f145 := Tryz.func145
theorem n_link_Root : Tryz.f145.ntmps = 6 := Tryz.ntmps145
theorem k_link_Root : Fn PP 145 := ⟨_, _, Tryz.func145, rfl, rfl⟩
abbrev N_txs_Root : FuncId := 146
theorem f_txs_Root : PP.funcs[146]? = some Tryz.f146 := Tryz.func146
theorem n_txs_Root : Tryz.f146.ntmps = 6 := Tryz.ntmps146
theorem k_txs_Root : Fn PP 146 := ⟨_, _, Tryz.func146, rfl, rfl⟩
abbrev N_word_take : FuncId := 147
theorem f_word_take : PP.funcs[147]? = some Tryz.f147 := Tryz.func147
theorem n_word_take : Tryz.f147.ntmps = 41 := Tryz.ntmps147
theorem k_word_take : Fn PP 147 := ⟨_, _, Tryz.func147, rfl, rfl⟩
abbrev N_sha_Sum : FuncId := 148
theorem f_sha_Sum : PP.funcs[148]? = some Tryz.f148 := Tryz.func148
theorem n_sha_Sum : Tryz.f148.ntmps = 10 := Tryz.ntmps148
theorem k_sha_Sum : Fn PP 148 := ⟨_, _, Tryz.func148, rfl, rfl⟩
abbrev N_tag_HeaderText : FuncId := 149
theorem f_tag_HeaderText : PP.funcs[149]? = some Tryz.f149 := Tryz.func149
theorem n_tag_HeaderText : Tryz.f149.ntmps = 6 := Tryz.ntmps149
theorem k_tag_HeaderText : Fn PP 149 := ⟨_, _, Tryz.func149, rfl, rfl⟩
abbrev N_word_Put32 : FuncId := 150
theorem f_word_Put32 : PP.funcs[150]? = some Tryz.f150 := Tryz.func150
theorem n_word_Put32 : Tryz.f150.ntmps = 6 := Tryz.ntmps150
theorem k_word_Put32 : Fn PP 150 := ⟨_, _, Tryz.func150, rfl, rfl⟩
abbrev N_word_Put64 : FuncId := 151
theorem f_word_Put64 : PP.funcs[151]? = some Tryz.f151 := Tryz.func151
theorem n_word_Put64 : Tryz.f151.ntmps = 5 := Tryz.ntmps151
theorem k_word_Put64 : Fn PP 151 := ⟨_, _, Tryz.func151, rfl, rfl⟩
abbrev N_good_Local : FuncId := 152
theorem f_good_Local : PP.funcs[152]? = some Tryz.f152 := Tryz.func152
theorem n_good_Local : Tryz.f152.ntmps = 35 := Tryz.ntmps152
theorem k_good_Local : Fn PP 152 := ⟨_, _, Tryz.func152, rfl, rfl⟩
abbrev N_good_counts : FuncId := 153
theorem f_good_counts : PP.funcs[153]? = some Tryz.f153 := Tryz.func153
theorem n_good_counts : Tryz.f153.ntmps = 39 := Tryz.ntmps153
theorem k_good_counts : Fn PP 153 := ⟨_, _, Tryz.func153, rfl, rfl⟩
abbrev N_good_stretches : FuncId := 154
theorem f_good_stretches : PP.funcs[154]? = some Tryz.f154 := Tryz.func154
theorem n_good_stretches : Tryz.f154.ntmps = 63 := Tryz.ntmps154
theorem k_good_stretches : Fn PP 154 := ⟨_, _, Tryz.func154, rfl, rfl⟩
abbrev N_milepostref38_Super : FuncId := 155
theorem f_milepostref38_Super : PP.funcs[155]? = some Tryz.f155 := Tryz.func155
theorem n_milepostref38_Super : Tryz.f155.ntmps = 52 := Tryz.ntmps155
theorem k_milepostref38_Super : Fn PP 155 := ⟨_, _, Tryz.func155, rfl, rfl⟩
abbrev N_milepostref38_Multi : FuncId := 156
theorem f_milepostref38_Multi : PP.funcs[156]? = some Tryz.f156 := Tryz.func156
theorem n_milepostref38_Multi : Tryz.f156.ntmps = 74 := Tryz.ntmps156
theorem k_milepostref38_Multi : Fn PP 156 := ⟨_, _, Tryz.func156, rfl, rfl⟩
abbrev N_milepostref02_First : FuncId := 157
theorem f_milepostref02_First : PP.funcs[157]? = some Tryz.f157 := Tryz.func157
theorem n_milepostref02_First : Tryz.f157.ntmps = 2 := Tryz.ntmps157
theorem k_milepostref02_First : Fn PP 157 := ⟨_, _, Tryz.func157, rfl, rfl⟩
abbrev N_milepostref02_Pad : FuncId := 158
theorem f_milepostref02_Pad : PP.funcs[158]? = some Tryz.f158 := Tryz.func158
theorem n_milepostref02_Pad : Tryz.f158.ntmps = 22 := Tryz.ntmps158
theorem k_milepostref02_Pad : Fn PP 158 := ⟨_, _, Tryz.func158, rfl, rfl⟩
abbrev N_milepostref02_Mix : FuncId := 159
theorem f_milepostref02_Mix : PP.funcs[159]? = some Tryz.f159 := Tryz.func159
theorem n_milepostref02_Mix : Tryz.f159.ntmps = 110 := Tryz.ntmps159
theorem k_milepostref02_Mix : Fn PP 159 := ⟨_, _, Tryz.func159, rfl, rfl⟩
abbrev N_milepostref01_Put : FuncId := 160
theorem f_milepostref01_Put : PP.funcs[160]? = some Tryz.f160 := Tryz.func160
theorem n_milepostref01_Put : Tryz.f160.ntmps = 21 := Tryz.ntmps160
theorem k_milepostref01_Put : Fn PP 160 := ⟨_, _, Tryz.func160, rfl, rfl⟩
abbrev N_milepostref01_Byte : FuncId := 161
theorem f_milepostref01_Byte : PP.funcs[161]? = some Tryz.f161 := Tryz.func161
theorem n_milepostref01_Byte : Tryz.f161.ntmps = 7 := Tryz.ntmps161
theorem k_milepostref01_Byte : Fn PP 161 := ⟨_, _, Tryz.func161, rfl, rfl⟩
abbrev N_milepostref11_Root : FuncId := 162
theorem f_milepostref11_Root : PP.funcs[162]? = some Tryz.f162 := Tryz.func162
theorem n_milepostref11_Root : Tryz.f162.ntmps = 10 := Tryz.ntmps162
theorem k_milepostref11_Root : Fn PP 162 := ⟨_, _, Tryz.func162, rfl, rfl⟩
abbrev N_shape_Left : FuncId := 163
theorem f_shape_Left : PP.funcs[163]? = some Tryz.f163 := Tryz.func163
theorem n_shape_Left : Tryz.f163.ntmps = 14 := Tryz.ntmps163
theorem k_shape_Left : Fn PP 163 := ⟨_, _, Tryz.func163, rfl, rfl⟩
abbrev N_tree_Top : FuncId := 164
theorem f_tree_Top : PP.funcs[164]? = some Tryz.f164 := Tryz.func164
theorem n_tree_Top : Tryz.f164.ntmps = 25 := Tryz.ntmps164
theorem k_tree_Top : Fn PP 164 := ⟨_, _, Tryz.func164, rfl, rfl⟩
abbrev N_tree_each_string_api_Hash : FuncId := 165
theorem f_tree_each_string_api_Hash : PP.funcs[165]? = some Tryz.f165 := Tryz.func165
theorem n_tree_each_string_api_Hash : Tryz.f165.ntmps = 22 := Tryz.ntmps165
theorem k_tree_each_string_api_Hash : Fn PP 165 := ⟨_, _, Tryz.func165, rfl, rfl⟩
abbrev N_tag_LeafSum : FuncId := 166
theorem f_tag_LeafSum : PP.funcs[166]? = some Tryz.f166 := Tryz.func166
theorem n_tag_LeafSum : Tryz.f166.ntmps = 6 := Tryz.ntmps166
theorem k_tag_LeafSum : Fn PP 166 := ⟨_, _, Tryz.func166, rfl, rfl⟩
abbrev N_milepostref03_Node : FuncId := 167
theorem f_milepostref03_Node : PP.funcs[167]? = some Tryz.f167 := Tryz.func167
theorem n_milepostref03_Node : Tryz.f167.ntmps = 9 := Tryz.ntmps167
theorem k_milepostref03_Node : Fn PP 167 := ⟨_, _, Tryz.func167, rfl, rfl⟩
abbrev N_milepostref03_LeafText : FuncId := 168
theorem f_milepostref03_LeafText : PP.funcs[168]? = some Tryz.f168 := Tryz.func168
theorem n_milepostref03_LeafText : Tryz.f168.ntmps = 6 := Tryz.ntmps168
theorem k_milepostref03_LeafText : Fn PP 168 := ⟨_, _, Tryz.func168, rfl, rfl⟩
abbrev N_hold_May : FuncId := 169
theorem f_hold_May : PP.funcs[169]? = some Tryz.f169 := Tryz.func169
theorem n_hold_May : Tryz.f169.ntmps = 34 := Tryz.ntmps169
theorem k_hold_May : Fn PP 169 := ⟨_, _, Tryz.func169, rfl, rfl⟩
abbrev N_hold_Up : FuncId := 170
theorem f_hold_Up : PP.funcs[170]? = some Tryz.f170 := Tryz.func170
theorem n_hold_Up : Tryz.f170.ntmps = 48 := Tryz.ntmps170
theorem k_hold_Up : Fn PP 170 := ⟨_, _, Tryz.func170, rfl, rfl⟩
abbrev N_tag_RootSum : FuncId := 171
theorem f_tag_RootSum : PP.funcs[171]? = some Tryz.f171 := Tryz.func171
theorem n_tag_RootSum : Tryz.f171.ntmps = 9 := Tryz.ntmps171
theorem k_tag_RootSum : Fn PP 171 := ⟨_, _, Tryz.func171, rfl, rfl⟩
abbrev N_tree_Root : FuncId := 172
theorem f_tree_Root : PP.funcs[172]? = some Tryz.f172 := Tryz.func172
theorem n_tree_Root : Tryz.f172.ntmps = 10 := Tryz.ntmps172
theorem k_tree_Root : Fn PP 172 := ⟨_, _, Tryz.func172, rfl, rfl⟩
abbrev N_sha_New : FuncId := 173
theorem f_sha_New : PP.funcs[173]? = some Tryz.f173 := Tryz.func173
theorem n_sha_New : Tryz.f173.ntmps = 3 := Tryz.ntmps173
theorem k_sha_New : Fn PP 173 := ⟨_, _, Tryz.func173, rfl, rfl⟩
abbrev N_sha_State_Write : FuncId := 174
theorem f_sha_State_Write : PP.funcs[174]? = some Tryz.f174 := Tryz.func174
theorem n_sha_State_Write : Tryz.f174.ntmps = 72 := Tryz.ntmps174
theorem k_sha_State_Write : Fn PP 174 := ⟨_, _, Tryz.func174, rfl, rfl⟩
abbrev N_sha_State_Sum : FuncId := 175
theorem f_sha_State_Sum : PP.funcs[175]? = some Tryz.f175 := Tryz.func175
theorem n_sha_State_Sum : Tryz.f175.ntmps = 37 := Tryz.ntmps175
theorem k_sha_State_Sum : Fn PP 175 := ⟨_, _, Tryz.func175, rfl, rfl⟩
abbrev N_tag_Text : FuncId := 176
theorem f_tag_Text : PP.funcs[176]? = some Tryz.f176 := Tryz.func176
theorem n_tag_Text : Tryz.f176.ntmps = 11 := Tryz.ntmps176
theorem k_tag_Text : Fn PP 176 := ⟨_, _, Tryz.func176, rfl, rfl⟩
abbrev N_word_put : FuncId := 177
theorem f_word_put : PP.funcs[177]? = some Tryz.f177 := Tryz.func177
theorem n_word_put : Tryz.f177.ntmps = 26 := Tryz.ntmps177
theorem k_word_put : Fn PP 177 := ⟨_, _, Tryz.func177, rfl, rfl⟩
abbrev N_ratio_Above : FuncId := 178
theorem f_ratio_Above : PP.funcs[178]? = some Tryz.f178 := Tryz.func178
theorem n_ratio_Above : Tryz.f178.ntmps = 31 := Tryz.ntmps178
theorem k_ratio_Above : Fn PP 178 := ⟨_, _, Tryz.func178, rfl, rfl⟩
abbrev N_ratio_Least : FuncId := 179
theorem f_ratio_Least : PP.funcs[179]? = some Tryz.f179 := Tryz.func179
theorem n_ratio_Least : Tryz.f179.ntmps = 31 := Tryz.ntmps179
theorem k_ratio_Least : Fn PP 179 := ⟨_, _, Tryz.func179, rfl, rfl⟩
abbrev N_milepostref38_Count : FuncId := 180
theorem f_milepostref38_Count : PP.funcs[180]? = some Tryz.f180 := Tryz.func180
theorem n_milepostref38_Count : Tryz.f180.ntmps = 22 := Tryz.ntmps180
theorem k_milepostref38_Count : Fn PP 180 := ⟨_, _, Tryz.func180, rfl, rfl⟩
abbrev N_milepostref38_Local : FuncId := 181
theorem f_milepostref38_Local : PP.funcs[181]? = some Tryz.f181 := Tryz.func181
theorem n_milepostref38_Local : Tryz.f181.ntmps = 36 := Tryz.ntmps181
theorem k_milepostref38_Local : Fn PP 181 := ⟨_, _, Tryz.func181, rfl, rfl⟩
abbrev N_milepostref06_Cmp : FuncId := 182
theorem f_milepostref06_Cmp : PP.funcs[182]? = some Tryz.f182 := Tryz.func182
theorem n_milepostref06_Cmp : Tryz.f182.ntmps = 75 := Tryz.ntmps182
theorem k_milepostref06_Cmp : Fn PP 182 := ⟨_, _, Tryz.func182, rfl, rfl⟩
abbrev N_milepostref02_Spread : FuncId := 183
theorem f_milepostref02_Spread : PP.funcs[183]? = some Tryz.f183 := Tryz.func183
theorem n_milepostref02_Spread : Tryz.f183.ntmps = 61 := Tryz.ntmps183
theorem k_milepostref02_Spread : Fn PP 183 := ⟨_, _, Tryz.func183, rfl, rfl⟩
abbrev N_milepostref02_turn : FuncId := 184
theorem f_milepostref02_turn : PP.funcs[184]? = some Tryz.f184 := Tryz.func184
theorem n_milepostref02_turn : Tryz.f184.ntmps = 13 := Tryz.ntmps184
theorem k_milepostref02_turn : Fn PP 184 := ⟨_, _, Tryz.func184, rfl, rfl⟩
abbrev N_milepostref02_number : FuncId := 185
theorem f_milepostref02_number : PP.funcs[185]? = some Tryz.f185 := Tryz.func185
theorem n_milepostref02_number : Tryz.f185.ntmps = 9 := Tryz.ntmps185
theorem k_milepostref02_number : Fn PP 185 := ⟨_, _, Tryz.func185, rfl, rfl⟩
abbrev N_milepostref03_Root : FuncId := 186
theorem f_milepostref03_Root : PP.funcs[186]? = some Tryz.f186 := Tryz.func186
theorem n_milepostref03_Root : Tryz.f186.ntmps = 9 := Tryz.ntmps186
theorem k_milepostref03_Root : Fn PP 186 := ⟨_, _, Tryz.func186, rfl, rfl⟩
abbrev N_tree_parted_api_Hash : FuncId := 187
theorem f_tree_parted_api_Hash : PP.funcs[187]? = some Tryz.f187 := Tryz.func187
theorem n_tree_parted_api_Hash : Tryz.f187.ntmps = 14 := Tryz.ntmps187
theorem k_tree_parted_api_Hash : Fn PP 187 := ⟨_, _, Tryz.func187, rfl, rfl⟩
abbrev N_tag_NodeSum : FuncId := 188
theorem f_tag_NodeSum : PP.funcs[188]? = some Tryz.f188 := Tryz.func188
theorem n_tag_NodeSum : Tryz.f188.ntmps = 9 := Tryz.ntmps188
theorem k_tag_NodeSum : Fn PP 188 := ⟨_, _, Tryz.func188, rfl, rfl⟩
abbrev N_tag_LeafText : FuncId := 189
theorem f_tag_LeafText : PP.funcs[189]? = some Tryz.f189 := Tryz.func189
theorem n_tag_LeafText : Tryz.f189.ntmps = 6 := Tryz.ntmps189
theorem k_tag_LeafText : Fn PP 189 := ⟨_, _, Tryz.func189, rfl, rfl⟩
abbrev N_milepostref03_NodeText : FuncId := 190
theorem f_milepostref03_NodeText : PP.funcs[190]? = some Tryz.f190 := Tryz.func190
theorem n_milepostref03_NodeText : Tryz.f190.ntmps = 12 := Tryz.ntmps190
theorem k_milepostref03_NodeText : Fn PP 190 := ⟨_, _, Tryz.func190, rfl, rfl⟩
abbrev N_shape_Depth : FuncId := 191
theorem f_shape_Depth : PP.funcs[191]? = some Tryz.f191 := Tryz.func191
theorem n_shape_Depth : Tryz.f191.ntmps = 16 := Tryz.ntmps191
theorem k_shape_Depth : Fn PP 191 := ⟨_, _, Tryz.func191, rfl, rfl⟩
abbrev N_shape_Sides : FuncId := 192
theorem f_shape_Sides : PP.funcs[192]? = some Tryz.f192 := Tryz.func192
theorem n_shape_Sides : Tryz.f192.ntmps = 22 := Tryz.ntmps192
theorem k_shape_Sides : Fn PP 192 := ⟨_, _, Tryz.func192, rfl, rfl⟩
abbrev N_tag_RootText : FuncId := 193
theorem f_tag_RootText : PP.funcs[193]? = some Tryz.f193 := Tryz.func193
theorem n_tag_RootText : Tryz.f193.ntmps = 11 := Tryz.ntmps193
theorem k_tag_RootText : Fn PP 193 := ⟨_, _, Tryz.func193, rfl, rfl⟩
abbrev N_sha_First : FuncId := 194
theorem f_sha_First : PP.funcs[194]? = some Tryz.f194 := Tryz.func194
theorem n_sha_First : Tryz.f194.ntmps = 2 := Tryz.ntmps194
theorem k_sha_First : Fn PP 194 := ⟨_, _, Tryz.func194, rfl, rfl⟩
abbrev N_sha_Mix : FuncId := 195
theorem f_sha_Mix : PP.funcs[195]? = some Tryz.f195 := Tryz.func195
theorem n_sha_Mix : Tryz.f195.ntmps = 122 := Tryz.ntmps195
theorem k_sha_Mix : Fn PP 195 := ⟨_, _, Tryz.func195, rfl, rfl⟩
abbrev N_sha_Pad : FuncId := 196
theorem f_sha_Pad : PP.funcs[196]? = some Tryz.f196 := Tryz.func196
theorem n_sha_Pad : Tryz.f196.ntmps = 16 := Tryz.ntmps196
theorem k_sha_Pad : Fn PP 196 := ⟨_, _, Tryz.func196, rfl, rfl⟩
abbrev N_strings_Join : FuncId := 197
theorem f_strings_Join : PP.funcs[197]? = some Tryz.f197 := Tryz.func197
theorem n_strings_Join : Tryz.f197.ntmps = 75 := Tryz.ntmps197
theorem k_strings_Join : Fn PP 197 := ⟨_, _, Tryz.func197, rfl, rfl⟩
abbrev N_ratio_sides : FuncId := 198
theorem f_ratio_sides : PP.funcs[198]? = some Tryz.f198 := Tryz.func198
theorem n_ratio_sides : Tryz.f198.ntmps = 43 := Tryz.ntmps198
theorem k_ratio_sides : Fn PP 198 := ⟨_, _, Tryz.func198, rfl, rfl⟩
abbrev N_large_Cmp : FuncId := 199
theorem f_large_Cmp : PP.funcs[199]? = some Tryz.f199 := Tryz.func199
theorem n_large_Cmp : Tryz.f199.ntmps = 26 := Tryz.ntmps199
theorem k_large_Cmp : Fn PP 199 := ⟨_, _, Tryz.func199, rfl, rfl⟩
abbrev N_milepostref05_Mul : FuncId := 200
theorem f_milepostref05_Mul : PP.funcs[200]? = some Tryz.f200 := Tryz.func200
theorem n_milepostref05_Mul : Tryz.f200.ntmps = 67 := Tryz.ntmps200
theorem k_milepostref05_Mul : Fn PP 200 := ⟨_, _, Tryz.func200, rfl, rfl⟩
abbrev N_milepostref05_Of : FuncId := 201
theorem f_milepostref05_Of : PP.funcs[201]? = some Tryz.f201 := Tryz.func201
theorem n_milepostref05_Of : Tryz.f201.ntmps = 6 := Tryz.ntmps201
theorem k_milepostref05_Of : Fn PP 201 := ⟨_, _, Tryz.func201, rfl, rfl⟩
abbrev N_milepostref05_Power : FuncId := 202
theorem f_milepostref05_Power : PP.funcs[202]? = some Tryz.f202 := Tryz.func202
theorem n_milepostref05_Power : Tryz.f202.ntmps = 16 := Tryz.ntmps202
theorem k_milepostref05_Power : Fn PP 202 := ⟨_, _, Tryz.func202, rfl, rfl⟩
abbrev N_milepostref05_Cmp : FuncId := 203
theorem f_milepostref05_Cmp : PP.funcs[203]? = some Tryz.f203 := Tryz.func203
theorem n_milepostref05_Cmp : Tryz.f203.ntmps = 41 := Tryz.ntmps203
theorem k_milepostref05_Cmp : Fn PP 203 := ⟨_, _, Tryz.func203, rfl, rfl⟩
abbrev N_milepostref01_Take : FuncId := 204
theorem f_milepostref01_Take : PP.funcs[204]? = some Tryz.f204 := Tryz.func204
theorem n_milepostref01_Take : Tryz.f204.ntmps = 41 := Tryz.ntmps204
theorem k_milepostref01_Take : Fn PP 204 := ⟨_, _, Tryz.func204, rfl, rfl⟩
abbrev N_milepostref03_RootText : FuncId := 205
theorem f_milepostref03_RootText : PP.funcs[205]? = some Tryz.f205 := Tryz.func205
theorem n_milepostref03_RootText : Tryz.f205.ntmps = 12 := Tryz.ntmps205
theorem k_milepostref03_RootText : Fn PP 205 := ⟨_, _, Tryz.func205, rfl, rfl⟩
abbrev N_tag_NodeText : FuncId := 206
theorem f_tag_NodeText : PP.funcs[206]? = some Tryz.f206 := Tryz.func206
theorem n_tag_NodeText : Tryz.f206.ntmps = 11 := Tryz.ntmps206
theorem k_tag_NodeText : Fn PP 206 := ⟨_, _, Tryz.func206, rfl, rfl⟩
abbrev N_shape_Sides_1 : FuncId := 207
theorem f_shape_Sides_1 : PP.funcs[207]? = some Tryz.f207 := Tryz.func207
theorem n_shape_Sides_1 : Tryz.f207.ntmps = 8 := Tryz.ntmps207
theorem k_shape_Sides_1 : Fn PP 207 := ⟨_, _, Tryz.func207, rfl, rfl⟩
abbrev N_shape_down : FuncId := 208
theorem f_shape_down : PP.funcs[208]? = some Tryz.f208 := Tryz.func208
theorem n_shape_down : Tryz.f208.ntmps = 27 := Tryz.ntmps208
theorem k_shape_down : Fn PP 208 := ⟨_, _, Tryz.func208, rfl, rfl⟩
abbrev N_sha_Spread : FuncId := 209
theorem f_sha_Spread : PP.funcs[209]? = some Tryz.f209 := Tryz.func209
theorem n_sha_Spread : Tryz.f209.ntmps = 61 := Tryz.ntmps209
theorem k_sha_Spread : Fn PP 209 := ⟨_, _, Tryz.func209, rfl, rfl⟩
abbrev N_sha_rounds : FuncId := 210
theorem f_sha_rounds : PP.funcs[210]? = some Tryz.f210 := Tryz.func210
theorem n_sha_rounds : Tryz.f210.ntmps = 2 := Tryz.ntmps210
theorem k_sha_rounds : Fn PP 210 := ⟨_, _, Tryz.func210, rfl, rfl⟩
abbrev N_word_Rot : FuncId := 211
theorem f_word_Rot : PP.funcs[211]? = some Tryz.f211 := Tryz.func211
theorem n_word_Rot : Tryz.f211.ntmps = 17 := Tryz.ntmps211
theorem k_word_Rot : Fn PP 211 := ⟨_, _, Tryz.func211, rfl, rfl⟩
abbrev N_strings_Repeat : FuncId := 212
theorem f_strings_Repeat : PP.funcs[212]? = some Tryz.f212 := Tryz.func212
theorem n_strings_Repeat : Tryz.f212.ntmps = 125 := Tryz.ntmps212
theorem k_strings_Repeat : Fn PP 212 := ⟨_, _, Tryz.func212, rfl, rfl⟩
abbrev N_strings_Builder_Grow : FuncId := 213
theorem f_strings_Builder_Grow : PP.funcs[213]? = some Tryz.f213 := Tryz.func213
theorem n_strings_Builder_Grow : Tryz.f213.ntmps = 25 := Tryz.ntmps213
theorem k_strings_Builder_Grow : Fn PP 213 := ⟨_, _, Tryz.func213, rfl, rfl⟩
abbrev N_strings_Builder_WriteString : FuncId := 214
theorem f_strings_Builder_WriteString : PP.funcs[214]? = some Tryz.f214 := Tryz.func214
theorem n_strings_Builder_WriteString : Tryz.f214.ntmps = 19 := Tryz.ntmps214
theorem k_strings_Builder_WriteString : Fn PP 214 := ⟨_, _, Tryz.func214, rfl, rfl⟩
abbrev N_strings_Builder_String : FuncId := 215
theorem f_strings_Builder_String : PP.funcs[215]? = some Tryz.f215 := Tryz.func215
theorem n_strings_Builder_String : Tryz.f215.ntmps = 14 := Tryz.ntmps215
theorem k_strings_Builder_String : Fn PP 215 := ⟨_, _, Tryz.func215, rfl, rfl⟩
abbrev N_ratio_Product : FuncId := 216
theorem f_ratio_Product : PP.funcs[216]? = some Tryz.f216 := Tryz.func216
theorem n_ratio_Product : Tryz.f216.ntmps = 31 := Tryz.ntmps216
theorem k_ratio_Product : Fn PP 216 := ⟨_, _, Tryz.func216, rfl, rfl⟩
abbrev N_milepostref05_trim : FuncId := 217
theorem f_milepostref05_trim : PP.funcs[217]? = some Tryz.f217 := Tryz.func217
theorem n_milepostref05_trim : Tryz.f217.ntmps = 21 := Tryz.ntmps217
theorem k_milepostref05_trim : Fn PP 217 := ⟨_, _, Tryz.func217, rfl, rfl⟩
abbrev N_milepostref05_Limbs : FuncId := 218
theorem f_milepostref05_Limbs : PP.funcs[218]? = some Tryz.f218 := Tryz.func218
theorem n_milepostref05_Limbs : Tryz.f218.ntmps = 31 := Tryz.ntmps218
theorem k_milepostref05_Limbs : Fn PP 218 := ⟨_, _, Tryz.func218, rfl, rfl⟩
abbrev N_word_Take32 : FuncId := 219
theorem f_word_Take32 : PP.funcs[219]? = some Tryz.f219 := Tryz.func219
theorem n_word_Take32 : Tryz.f219.ntmps = 9 := Tryz.ntmps219
theorem k_word_Take32 : Fn PP 219 := ⟨_, _, Tryz.func219, rfl, rfl⟩
abbrev N_math_bits_Mul : FuncId := 220
theorem f_math_bits_Mul : PP.funcs[220]? = some Tryz.f220 := Tryz.func220
theorem n_math_bits_Mul : Tryz.f220.ntmps = 30 := Tryz.ntmps220
theorem k_math_bits_Mul : Fn PP 220 := ⟨_, _, Tryz.func220, rfl, rfl⟩
abbrev N_strings_HasPrefix : FuncId := 221
theorem f_strings_HasPrefix : PP.funcs[221]? = some Tryz.f221 := Tryz.func221
theorem n_strings_HasPrefix : Tryz.f221.ntmps = 8 := Tryz.ntmps221
theorem k_strings_HasPrefix : Fn PP 221 := ⟨_, _, Tryz.func221, rfl, rfl⟩
abbrev N_strings_Builder_Len : FuncId := 222
theorem f_strings_Builder_Len : PP.funcs[222]? = some Tryz.f222 := Tryz.func222
theorem n_strings_Builder_Len : Tryz.f222.ntmps = 8 := Tryz.ntmps222
theorem k_strings_Builder_Len : Fn PP 222 := ⟨_, _, Tryz.func222, rfl, rfl⟩
abbrev N_strings_Builder_copyCheck : FuncId := 223
theorem f_strings_Builder_copyCheck : PP.funcs[223]? = some Tryz.f223 := Tryz.func223
theorem n_strings_Builder_copyCheck : Tryz.f223.ntmps = 20 := Tryz.ntmps223
theorem k_strings_Builder_copyCheck : Fn PP 223 := ⟨_, _, Tryz.func223, rfl, rfl⟩
abbrev N_strings_Builder_grow : FuncId := 224
theorem f_strings_Builder_grow : PP.funcs[224]? = some Tryz.f224 := Tryz.func224
theorem n_strings_Builder_grow : Tryz.f224.ntmps = 30 := Tryz.ntmps224
theorem k_strings_Builder_grow : Fn PP 224 := ⟨_, _, Tryz.func224, rfl, rfl⟩
abbrev N_large_Mul : FuncId := 225
theorem f_large_Mul : PP.funcs[225]? = some Tryz.f225 := Tryz.func225
theorem n_large_Mul : Tryz.f225.ntmps = 42 := Tryz.ntmps225
theorem k_large_Mul : Fn PP 225 := ⟨_, _, Tryz.func225, rfl, rfl⟩
abbrev N_large_Of : FuncId := 226
theorem f_large_Of : PP.funcs[226]? = some Tryz.f226 := Tryz.func226
theorem n_large_Of : Tryz.f226.ntmps = 5 := Tryz.ntmps226
theorem k_large_Of : Fn PP 226 := ⟨_, _, Tryz.func226, rfl, rfl⟩
abbrev N_large_Shl : FuncId := 227
theorem f_large_Shl : PP.funcs[227]? = some Tryz.f227 := Tryz.func227
theorem n_large_Shl : Tryz.f227.ntmps = 70 := Tryz.ntmps227
theorem k_large_Shl : Fn PP 227 := ⟨_, _, Tryz.func227, rfl, rfl⟩
abbrev N_math_bits_Mul32 : FuncId := 228
theorem f_math_bits_Mul32 : PP.funcs[228]? = some Tryz.f228 := Tryz.func228
theorem n_math_bits_Mul32 : Tryz.f228.ntmps = 17 := Tryz.ntmps228
theorem k_math_bits_Mul32 : Fn PP 228 := ⟨_, _, Tryz.func228, rfl, rfl⟩
abbrev N_math_bits_Mul64 : FuncId := 229
theorem f_math_bits_Mul64 : PP.funcs[229]? = some Tryz.f229 := Tryz.func229
theorem n_math_bits_Mul64 : Tryz.f229.ntmps = 51 := Tryz.ntmps229
theorem k_math_bits_Mul64 : Fn PP 229 := ⟨_, _, Tryz.func229, rfl, rfl⟩
abbrev N_internal_stringslite_HasPrefix : FuncId := 230
theorem f_internal_stringslite_HasPrefix : PP.funcs[230]? = some Tryz.f230 := Tryz.func230
theorem n_internal_stringslite_HasPrefix : Tryz.f230.ntmps = 18 := Tryz.ntmps230
theorem k_internal_stringslite_HasPrefix : Fn PP 230 := ⟨_, _, Tryz.func230, rfl, rfl⟩
abbrev N_large_half : FuncId := 233
theorem f_large_half : PP.funcs[233]? = some Tryz.f233 := Tryz.func233
theorem n_large_half : Tryz.f233.ntmps = 44 := Tryz.ntmps233
theorem k_large_half : Fn PP 233 := ⟨_, _, Tryz.func233, rfl, rfl⟩
abbrev N_large_Add : FuncId := 234
theorem f_large_Add : PP.funcs[234]? = some Tryz.f234 := Tryz.func234
theorem n_large_Add : Tryz.f234.ntmps = 51 := Tryz.ntmps234
theorem k_large_Add : Fn PP 234 := ⟨_, _, Tryz.func234, rfl, rfl⟩
abbrev N_large_Len : FuncId := 235
theorem f_large_Len : PP.funcs[235]? = some Tryz.f235 := Tryz.func235
theorem n_large_Len : Tryz.f235.ntmps = 21 := Tryz.ntmps235
theorem k_large_Len : Fn PP 235 := ⟨_, _, Tryz.func235, rfl, rfl⟩
abbrev N_word_Lead : FuncId := 236
theorem f_word_Lead : PP.funcs[236]? = some Tryz.f236 := Tryz.func236
theorem n_word_Lead : Tryz.f236.ntmps = 18 := Tryz.ntmps236
theorem k_word_Lead : Fn PP 236 := ⟨_, _, Tryz.func236, rfl, rfl⟩
end Go.Proofs.YtmcapgjdflohfaaGreat.L
