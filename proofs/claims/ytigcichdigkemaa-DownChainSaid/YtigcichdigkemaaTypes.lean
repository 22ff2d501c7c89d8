/- Written by names.py for this seat: names for the numbers of functions and types. -/
import Derived.Test.YtigcichdigkemaaDraw
import Derived.Test.YtigcichdigkemaaProg
import Derived.KernelRfl
namespace Go.Proofs.Ytigcichdigkemaa.L
open Go Go.RowKit
set_option linter.unusedVariables false

set_option linter.all false
noncomputable abbrev PP : Program := Try.prog
/-- The fields that a fact on a type names. -/
abbrev fsOf {P : Program} {t : TypeId} {fs : Array Field} (_ : P.underlying t = some (.struct fs)) : Array Field := fs
theorem mix : PP.follows .mixedOrders = true := by kernel_rfl
abbrev T_int64 : TypeId := 2
theorem u_int64 : PP.underlying 2 = some (.int .i64) := Try.underlying2
theorem o_int64 : isOne PP 2 := ⟨_, Try.underlying2, rfl⟩
theorem s_int64 : (PP.info? 2).map (·.size) = some 1 := by kernel_rfl
theorem z_int64 : (PP.info? 2).map (·.zero) = some (some (.int .i64 0)) := by kernel_rfl
theorem i_int64 : (PP.info? 2).map (fun i => (i.zero, i.size, i.bytes)) = some (some (.int .i64 0), 1, 8) := by kernel_rfl
abbrev T_int : TypeId := 3
theorem u_int : PP.underlying 3 = some (.int .i64) := Try.underlying3
theorem o_int : isOne PP 3 := ⟨_, Try.underlying3, rfl⟩
theorem s_int : (PP.info? 3).map (·.size) = some 1 := by kernel_rfl
theorem z_int : (PP.info? 3).map (·.zero) = some (some (.int .i64 0)) := by kernel_rfl
theorem i_int : (PP.info? 3).map (fun i => (i.zero, i.size, i.bytes)) = some (some (.int .i64 0), 1, 8) := by kernel_rfl
abbrev T_bool : TypeId := 4
theorem u_bool : PP.underlying 4 = some (.bool) := Try.underlying4
theorem o_bool : isOne PP 4 := ⟨_, Try.underlying4, rfl⟩
theorem s_bool : (PP.info? 4).map (·.size) = some 1 := by kernel_rfl
theorem z_bool : (PP.info? 4).map (·.zero) = some (some (.bool false)) := by kernel_rfl
theorem i_bool : (PP.info? 4).map (fun i => (i.zero, i.size, i.bytes)) = some (some (.bool false), 1, 1) := by kernel_rfl
abbrev T_uint8 : TypeId := 5
theorem u_uint8 : PP.underlying 5 = some (.int .u8) := Try.underlying5
theorem o_uint8 : isOne PP 5 := ⟨_, Try.underlying5, rfl⟩
theorem s_uint8 : (PP.info? 5).map (·.size) = some 1 := by kernel_rfl
theorem z_uint8 : (PP.info? 5).map (·.zero) = some (some (.int .u8 0)) := by kernel_rfl
theorem i_uint8 : (PP.info? 5).map (fun i => (i.zero, i.size, i.bytes)) = some (some (.int .u8 0), 1, 1) := by kernel_rfl
abbrev T_internal_abi_BoundsErrorCode : TypeId := 6
theorem u_internal_abi_BoundsErrorCode : PP.underlying 6 = some (.int .u8) := Try.underlying6
theorem o_internal_abi_BoundsErrorCode : isOne PP 6 := ⟨_, Try.underlying6, rfl⟩
theorem s_internal_abi_BoundsErrorCode : (PP.info? 6).map (·.size) = some 1 := by kernel_rfl
theorem z_internal_abi_BoundsErrorCode : (PP.info? 6).map (·.zero) = some (some (.int .u8 0)) := by kernel_rfl
theorem i_internal_abi_BoundsErrorCode : (PP.info? 6).map (fun i => (i.zero, i.size, i.bytes)) = some (some (.int .u8 0), 1, 1) := by kernel_rfl
abbrev T_runtime_boundsError : TypeId := 8
noncomputable abbrev F_runtime_boundsError : Array Field := fsOf Try.underlying8
theorem u_runtime_boundsError : PP.underlying 8 = some (.struct F_runtime_boundsError) := Try.underlying8
theorem g_runtime_boundsError : isAg PP 8 4 := ⟨_, Try.underlying8, rfl, by kernel_rfl⟩
theorem s_runtime_boundsError : (PP.info? 8).map (·.size) = some 4 := by kernel_rfl
theorem z_runtime_boundsError : (PP.info? 8).map (·.zero) = some (some (ag ([.int .i64 0] ++ ([.int .i64 0] ++ ([.bool false] ++ ([.int .u8 0])))))) := by kernel_rfl
theorem i_runtime_boundsError : (PP.info? 8).map (fun i => (i.zero, i.size, i.bytes)) = some (some (ag ([.int .i64 0] ++ ([.int .i64 0] ++ ([.bool false] ++ ([.int .u8 0]))))), 4, 24) := by kernel_rfl
abbrev T_string : TypeId := 9
theorem u_string : PP.underlying 9 = some (.string) := Try.underlying9
theorem o_string : isOne PP 9 := ⟨_, Try.underlying9, rfl⟩
theorem s_string : (PP.info? 9).map (·.size) = some 1 := by kernel_rfl
theorem z_string : (PP.info? 9).map (·.zero) = some (some (.string ⟨#[]⟩)) := by kernel_rfl
theorem i_string : (PP.info? 9).map (fun i => (i.zero, i.size, i.bytes)) = some (some (.string ⟨#[]⟩), 1, 16) := by kernel_rfl
abbrev T_runtime_errorString : TypeId := 10
theorem u_runtime_errorString : PP.underlying 10 = some (.string) := Try.underlying10
theorem o_runtime_errorString : isOne PP 10 := ⟨_, Try.underlying10, rfl⟩
theorem s_runtime_errorString : (PP.info? 10).map (·.size) = some 1 := by kernel_rfl
theorem z_runtime_errorString : (PP.info? 10).map (·.zero) = some (some (.string ⟨#[]⟩)) := by kernel_rfl
theorem i_runtime_errorString : (PP.info? 10).map (fun i => (i.zero, i.size, i.bytes)) = some (some (.string ⟨#[]⟩), 1, 16) := by kernel_rfl
abbrev T_runtime_plainError : TypeId := 11
theorem u_runtime_plainError : PP.underlying 11 = some (.string) := Try.underlying11
theorem o_runtime_plainError : isOne PP 11 := ⟨_, Try.underlying11, rfl⟩
theorem s_runtime_plainError : (PP.info? 11).map (·.size) = some 1 := by kernel_rfl
theorem z_runtime_plainError : (PP.info? 11).map (·.zero) = some (some (.string ⟨#[]⟩)) := by kernel_rfl
theorem i_runtime_plainError : (PP.info? 11).map (fun i => (i.zero, i.size, i.bytes)) = some (some (.string ⟨#[]⟩), 1, 16) := by kernel_rfl
abbrev T_uintptr : TypeId := 12
theorem u_uintptr : PP.underlying 12 = some (.int .u64) := Try.underlying12
theorem o_uintptr : isOne PP 12 := ⟨_, Try.underlying12, rfl⟩
theorem s_uintptr : (PP.info? 12).map (·.size) = some 1 := by kernel_rfl
theorem z_uintptr : (PP.info? 12).map (·.zero) = some (some (.int .u64 0)) := by kernel_rfl
theorem i_uintptr : (PP.info? 12).map (fun i => (i.zero, i.size, i.bytes)) = some (some (.int .u64 0), 1, 8) := by kernel_rfl
abbrev T_runtime_errorAddressString : TypeId := 14
noncomputable abbrev F_runtime_errorAddressString : Array Field := fsOf Try.underlying14
theorem u_runtime_errorAddressString : PP.underlying 14 = some (.struct F_runtime_errorAddressString) := Try.underlying14
theorem g_runtime_errorAddressString : isAg PP 14 2 := ⟨_, Try.underlying14, rfl, by kernel_rfl⟩
theorem s_runtime_errorAddressString : (PP.info? 14).map (·.size) = some 2 := by kernel_rfl
theorem z_runtime_errorAddressString : (PP.info? 14).map (·.zero) = some (some (ag ([.string ⟨#[]⟩] ++ ([.int .u64 0])))) := by kernel_rfl
theorem i_runtime_errorAddressString : (PP.info? 14).map (fun i => (i.zero, i.size, i.bytes)) = some (some (ag ([.string ⟨#[]⟩] ++ ([.int .u64 0]))), 2, 24) := by kernel_rfl
abbrev T_p_runtime_TypeAssertionError : TypeId := 15
theorem u_p_runtime_TypeAssertionError : PP.underlying 15 = some (.pointer 137) := Try.underlying15
theorem o_p_runtime_TypeAssertionError : isOne PP 15 := ⟨_, Try.underlying15, rfl⟩
theorem s_p_runtime_TypeAssertionError : (PP.info? 15).map (·.size) = some 1 := by kernel_rfl
theorem z_p_runtime_TypeAssertionError : (PP.info? 15).map (·.zero) = some (some (.pointer none)) := by kernel_rfl
theorem i_p_runtime_TypeAssertionError : (PP.info? 15).map (fun i => (i.zero, i.size, i.bytes)) = some (some (.pointer none), 1, 8) := by kernel_rfl
abbrev T_p_runtime_PanicNilError : TypeId := 16
theorem u_p_runtime_PanicNilError : PP.underlying 16 = some (.pointer 140) := Try.underlying16
theorem o_p_runtime_PanicNilError : isOne PP 16 := ⟨_, Try.underlying16, rfl⟩
theorem s_p_runtime_PanicNilError : (PP.info? 16).map (·.size) = some 1 := by kernel_rfl
theorem z_p_runtime_PanicNilError : (PP.info? 16).map (·.zero) = some (some (.pointer none)) := by kernel_rfl
theorem i_p_runtime_PanicNilError : (PP.info? 16).map (fun i => (i.zero, i.size, i.bytes)) = some (some (.pointer none), 1, 8) := by kernel_rfl
abbrev T_p_internal_abi_Type : TypeId := 17
theorem u_p_internal_abi_Type : PP.underlying 17 = some (.pointer 147) := Try.underlying17
theorem o_p_internal_abi_Type : isOne PP 17 := ⟨_, Try.underlying17, rfl⟩
theorem s_p_internal_abi_Type : (PP.info? 17).map (·.size) = some 1 := by kernel_rfl
theorem z_p_internal_abi_Type : (PP.info? 17).map (·.zero) = some (some (.pointer none)) := by kernel_rfl
theorem i_p_internal_abi_Type : (PP.info? 17).map (fun i => (i.zero, i.size, i.bytes)) = some (some (.pointer none), 1, 8) := by kernel_rfl
abbrev T_internal_runtime_maps_unhashableTypeError : TypeId := 19
noncomputable abbrev F_internal_runtime_maps_unhashableTypeError : Array Field := fsOf Try.underlying19
theorem u_internal_runtime_maps_unhashableTypeError : PP.underlying 19 = some (.struct F_internal_runtime_maps_unhashableTypeError) := Try.underlying19
theorem g_internal_runtime_maps_unhashableTypeError : isAg PP 19 1 := ⟨_, Try.underlying19, rfl, by kernel_rfl⟩
theorem s_internal_runtime_maps_unhashableTypeError : (PP.info? 19).map (·.size) = some 1 := by kernel_rfl
theorem z_internal_runtime_maps_unhashableTypeError : (PP.info? 19).map (·.zero) = some (some (ag ([.pointer none]))) := by kernel_rfl
theorem i_internal_runtime_maps_unhashableTypeError : (PP.info? 19).map (fun i => (i.zero, i.size, i.bytes)) = some (some (ag ([.pointer none])), 1, 8) := by kernel_rfl
abbrev T_int32 : TypeId := 21
theorem u_int32 : PP.underlying 21 = some (.int .i32) := Try.underlying21
theorem o_int32 : isOne PP 21 := ⟨_, Try.underlying21, rfl⟩
theorem s_int32 : (PP.info? 21).map (·.size) = some 1 := by kernel_rfl
theorem z_int32 : (PP.info? 21).map (·.zero) = some (some (.int .i32 0)) := by kernel_rfl
theorem i_int32 : (PP.info? 21).map (fun i => (i.zero, i.size, i.bytes)) = some (some (.int .i32 0), 1, 4) := by kernel_rfl
abbrev T_uint32 : TypeId := 22
theorem u_uint32 : PP.underlying 22 = some (.int .u32) := Try.underlying22
theorem o_uint32 : isOne PP 22 := ⟨_, Try.underlying22, rfl⟩
theorem s_uint32 : (PP.info? 22).map (·.size) = some 1 := by kernel_rfl
theorem z_uint32 : (PP.info? 22).map (·.zero) = some (some (.int .u32 0)) := by kernel_rfl
theorem i_uint32 : (PP.info? 22).map (fun i => (i.zero, i.size, i.bytes)) = some (some (.int .u32 0), 1, 4) := by kernel_rfl
abbrev T_a32_uint8 : TypeId := 23
theorem u_a32_uint8 : PP.underlying 23 = some (.array 32 5) := Try.underlying23
theorem g_a32_uint8 : isAg PP 23 32 := ⟨_, Try.underlying23, rfl, by kernel_rfl⟩
theorem s_a32_uint8 : (PP.info? 23).map (·.size) = some 32 := by kernel_rfl
theorem z_a32_uint8 : (PP.info? 23).map (·.zero) = some (some (ag (List.replicate 32 (.int .u8 0)))) := by kernel_rfl
theorem i_a32_uint8 : (PP.info? 23).map (fun i => (i.zero, i.size, i.bytes)) = some (some (ag (List.replicate 32 (.int .u8 0))), 32, 32) := by kernel_rfl
abbrev T_api_Hash : TypeId := 24
theorem u_api_Hash : PP.underlying 24 = some (.array 32 5) := Try.underlying24
theorem g_api_Hash : isAg PP 24 32 := ⟨_, Try.underlying24, rfl, by kernel_rfl⟩
theorem s_api_Hash : (PP.info? 24).map (·.size) = some 32 := by kernel_rfl
theorem z_api_Hash : (PP.info? 24).map (·.zero) = some (some (ag (List.replicate 32 (.int .u8 0)))) := by kernel_rfl
theorem i_api_Hash : (PP.info? 24).map (fun i => (i.zero, i.size, i.bytes)) = some (some (ag (List.replicate 32 (.int .u8 0))), 32, 32) := by kernel_rfl
abbrev T_uint64 : TypeId := 25
theorem u_uint64 : PP.underlying 25 = some (.int .u64) := Try.underlying25
theorem o_uint64 : isOne PP 25 := ⟨_, Try.underlying25, rfl⟩
theorem s_uint64 : (PP.info? 25).map (·.size) = some 1 := by kernel_rfl
theorem z_uint64 : (PP.info? 25).map (·.zero) = some (some (.int .u64 0)) := by kernel_rfl
theorem i_uint64 : (PP.info? 25).map (fun i => (i.zero, i.size, i.bytes)) = some (some (.int .u64 0), 1, 8) := by kernel_rfl
abbrev T_api_Header : TypeId := 27
noncomputable abbrev F_api_Header : Array Field := fsOf Try.underlying27
theorem u_api_Header : PP.underlying 27 = some (.struct F_api_Header) := Try.underlying27
theorem g_api_Header : isAg PP 27 66 := ⟨_, Try.underlying27, rfl, by kernel_rfl⟩
theorem s_api_Header : (PP.info? 27).map (·.size) = some 66 := by kernel_rfl
theorem z_api_Header : (PP.info? 27).map (·.zero) = some (some (ag ([.int .u32 0] ++ ((List.replicate 32 (.int .u8 0)) ++ ((List.replicate 32 (.int .u8 0)) ++ ([.int .u64 0])))))) := by kernel_rfl
theorem i_api_Header : (PP.info? 27).map (fun i => (i.zero, i.size, i.bytes)) = some (some (ag ([.int .u32 0] ++ ((List.replicate 32 (.int .u8 0)) ++ ((List.replicate 32 (.int .u8 0)) ++ ([.int .u64 0]))))), 66, 80) := by kernel_rfl
abbrev T_api_Config : TypeId := 29
noncomputable abbrev F_api_Config : Array Field := fsOf Try.underlying29
theorem u_api_Config : PP.underlying 29 = some (.struct F_api_Config) := Try.underlying29
theorem g_api_Config : isAg PP 29 104 := ⟨_, Try.underlying29, rfl, by kernel_rfl⟩
theorem s_api_Config : (PP.info? 29).map (·.size) = some 104 := by kernel_rfl
theorem z_api_Config : (PP.info? 29).map (·.zero) = some (some (ag (([.int .u32 0] ++ ((List.replicate 32 (.int .u8 0)) ++ ((List.replicate 32 (.int .u8 0)) ++ ([.int .u64 0])))) ++ ((List.replicate 32 (.int .u8 0)) ++ ([.int .i64 0] ++ ([.int .i64 0] ++ ([.int .i64 0] ++ ([.int .i64 0] ++ ([.int .i64 0] ++ ([.int .i64 0])))))))))) := by kernel_rfl
theorem i_api_Config : (PP.info? 29).map (fun i => (i.zero, i.size, i.bytes)) = some (some (ag (([.int .u32 0] ++ ((List.replicate 32 (.int .u8 0)) ++ ((List.replicate 32 (.int .u8 0)) ++ ([.int .u64 0])))) ++ ((List.replicate 32 (.int .u8 0)) ++ ([.int .i64 0] ++ ([.int .i64 0] ++ ([.int .i64 0] ++ ([.int .i64 0] ++ ([.int .i64 0] ++ ([.int .i64 0]))))))))), 104, 160) := by kernel_rfl
abbrev T_sl_api_Block : TypeId := 30
theorem u_sl_api_Block : PP.underlying 30 = some (.slice 50) := Try.underlying30
theorem o_sl_api_Block : isOne PP 30 := ⟨_, Try.underlying30, rfl⟩
theorem s_sl_api_Block : (PP.info? 30).map (·.size) = some 1 := by kernel_rfl
theorem z_sl_api_Block : (PP.info? 30).map (·.zero) = some (some (.slice none 0 0)) := by kernel_rfl
theorem i_sl_api_Block : (PP.info? 30).map (fun i => (i.zero, i.size, i.bytes)) = some (some (.slice none 0 0), 1, 24) := by kernel_rfl
abbrev T_api_Errno : TypeId := 32
theorem u_api_Errno : PP.underlying 32 = some (.int .i64) := Try.underlying32
theorem o_api_Errno : isOne PP 32 := ⟨_, Try.underlying32, rfl⟩
theorem s_api_Errno : (PP.info? 32).map (·.size) = some 1 := by kernel_rfl
theorem z_api_Errno : (PP.info? 32).map (·.zero) = some (some (.int .i64 0)) := by kernel_rfl
theorem i_api_Errno : (PP.info? 32).map (fun i => (i.zero, i.size, i.bytes)) = some (some (.int .i64 0), 1, 8) := by kernel_rfl
abbrev T_api_Fault : TypeId := 34
noncomputable abbrev F_api_Fault : Array Field := fsOf Try.underlying34
theorem u_api_Fault : PP.underlying 34 = some (.struct F_api_Fault) := Try.underlying34
theorem g_api_Fault : isAg PP 34 2 := ⟨_, Try.underlying34, rfl, by kernel_rfl⟩
theorem s_api_Fault : (PP.info? 34).map (·.size) = some 2 := by kernel_rfl
theorem z_api_Fault : (PP.info? 34).map (·.zero) = some (some (ag ([.int .i64 0] ++ ([.int .i64 0])))) := by kernel_rfl
theorem i_api_Fault : (PP.info? 34).map (fun i => (i.zero, i.size, i.bytes)) = some (some (ag ([.int .i64 0] ++ ([.int .i64 0]))), 2, 16) := by kernel_rfl
abbrev T_sl_api_Hash : TypeId := 37
theorem u_sl_api_Hash : PP.underlying 37 = some (.slice 24) := Try.underlying37
theorem o_sl_api_Hash : isOne PP 37 := ⟨_, Try.underlying37, rfl⟩
theorem s_sl_api_Hash : (PP.info? 37).map (·.size) = some 1 := by kernel_rfl
theorem z_sl_api_Hash : (PP.info? 37).map (·.zero) = some (some (.slice none 0 0)) := by kernel_rfl
theorem i_sl_api_Hash : (PP.info? 37).map (fun i => (i.zero, i.size, i.bytes)) = some (some (.slice none 0 0), 1, 24) := by kernel_rfl
abbrev T_sl_int : TypeId := 39
theorem u_sl_int : PP.underlying 39 = some (.slice 3) := Try.underlying39
theorem o_sl_int : isOne PP 39 := ⟨_, Try.underlying39, rfl⟩
theorem s_sl_int : (PP.info? 39).map (·.size) = some 1 := by kernel_rfl
theorem z_sl_int : (PP.info? 39).map (·.zero) = some (some (.slice none 0 0)) := by kernel_rfl
theorem i_sl_int : (PP.info? 39).map (fun i => (i.zero, i.size, i.bytes)) = some (some (.slice none 0 0), 1, 24) := by kernel_rfl
abbrev T_sl_sl_api_Hash : TypeId := 41
theorem u_sl_sl_api_Hash : PP.underlying 41 = some (.slice 37) := Try.underlying41
theorem o_sl_sl_api_Hash : isOne PP 41 := ⟨_, Try.underlying41, rfl⟩
theorem s_sl_sl_api_Hash : (PP.info? 41).map (·.size) = some 1 := by kernel_rfl
theorem z_sl_sl_api_Hash : (PP.info? 41).map (·.zero) = some (some (.slice none 0 0)) := by kernel_rfl
theorem i_sl_sl_api_Hash : (PP.info? 41).map (fun i => (i.zero, i.size, i.bytes)) = some (some (.slice none 0 0), 1, 24) := by kernel_rfl
abbrev T_sl_string : TypeId := 48
theorem u_sl_string : PP.underlying 48 = some (.slice 9) := Try.underlying48
theorem o_sl_string : isOne PP 48 := ⟨_, Try.underlying48, rfl⟩
theorem s_sl_string : (PP.info? 48).map (·.size) = some 1 := by kernel_rfl
theorem z_sl_string : (PP.info? 48).map (·.zero) = some (some (.slice none 0 0)) := by kernel_rfl
theorem i_sl_string : (PP.info? 48).map (fun i => (i.zero, i.size, i.bytes)) = some (some (.slice none 0 0), 1, 24) := by kernel_rfl
abbrev T_api_Block : TypeId := 50
noncomputable abbrev F_api_Block : Array Field := fsOf Try.underlying50
theorem u_api_Block : PP.underlying 50 = some (.struct F_api_Block) := Try.underlying50
theorem g_api_Block : isAg PP 50 67 := ⟨_, Try.underlying50, rfl, by kernel_rfl⟩
theorem s_api_Block : (PP.info? 50).map (·.size) = some 67 := by kernel_rfl
theorem z_api_Block : (PP.info? 50).map (·.zero) = some (some (ag (([.int .u32 0] ++ ((List.replicate 32 (.int .u8 0)) ++ ((List.replicate 32 (.int .u8 0)) ++ ([.int .u64 0])))) ++ ([.slice none 0 0])))) := by kernel_rfl
theorem i_api_Block : (PP.info? 50).map (fun i => (i.zero, i.size, i.bytes)) = some (some (ag (([.int .u32 0] ++ ((List.replicate 32 (.int .u8 0)) ++ ((List.replicate 32 (.int .u8 0)) ++ ([.int .u64 0])))) ++ ([.slice none 0 0]))), 67, 104) := by kernel_rfl
abbrev T_chain_look : TypeId := 52
noncomputable abbrev F_chain_look : Array Field := fsOf Try.underlying52
theorem u_chain_look : PP.underlying 52 = some (.struct F_chain_look) := Try.underlying52
theorem g_chain_look : isAg PP 52 173 := ⟨_, Try.underlying52, rfl, by kernel_rfl⟩
theorem s_chain_look : (PP.info? 52).map (·.size) = some 173 := by kernel_rfl
theorem z_chain_look : (PP.info? 52).map (·.zero) = some (some (ag ((([.int .u32 0] ++ ((List.replicate 32 (.int .u8 0)) ++ ((List.replicate 32 (.int .u8 0)) ++ ([.int .u64 0])))) ++ ((List.replicate 32 (.int .u8 0)) ++ ([.int .i64 0] ++ ([.int .i64 0] ++ ([.int .i64 0] ++ ([.int .i64 0] ++ ([.int .i64 0] ++ ([.int .i64 0])))))))) ++ ([.int .i64 0] ++ ((([.int .u32 0] ++ ((List.replicate 32 (.int .u8 0)) ++ ((List.replicate 32 (.int .u8 0)) ++ ([.int .u64 0])))) ++ ([.slice none 0 0])) ++ ([.slice none 0 0])))))) := by kernel_rfl
theorem i_chain_look : (PP.info? 52).map (fun i => (i.zero, i.size, i.bytes)) = some (some (ag ((([.int .u32 0] ++ ((List.replicate 32 (.int .u8 0)) ++ ((List.replicate 32 (.int .u8 0)) ++ ([.int .u64 0])))) ++ ((List.replicate 32 (.int .u8 0)) ++ ([.int .i64 0] ++ ([.int .i64 0] ++ ([.int .i64 0] ++ ([.int .i64 0] ++ ([.int .i64 0] ++ ([.int .i64 0])))))))) ++ ([.int .i64 0] ++ ((([.int .u32 0] ++ ((List.replicate 32 (.int .u8 0)) ++ ((List.replicate 32 (.int .u8 0)) ++ ([.int .u64 0])))) ++ ([.slice none 0 0])) ++ ([.slice none 0 0]))))), 173, 296) := by kernel_rfl
abbrev T_fn__to_api_Errno : TypeId := 53
theorem o_fn__to_api_Errno : isOne PP 53 := ⟨_, Try.underlying53, rfl⟩
theorem s_fn__to_api_Errno : (PP.info? 53).map (·.size) = some 1 := by kernel_rfl
theorem z_fn__to_api_Errno : (PP.info? 53).map (·.zero) = some (some (.nilFunc)) := by kernel_rfl
theorem i_fn__to_api_Errno : (PP.info? 53).map (fun i => (i.zero, i.size, i.bytes)) = some (some (.nilFunc), 1, 8) := by kernel_rfl
abbrev T_sl_fn__to_api_Errno : TypeId := 54
theorem u_sl_fn__to_api_Errno : PP.underlying 54 = some (.slice 53) := Try.underlying54
theorem o_sl_fn__to_api_Errno : isOne PP 54 := ⟨_, Try.underlying54, rfl⟩
theorem s_sl_fn__to_api_Errno : (PP.info? 54).map (·.size) = some 1 := by kernel_rfl
theorem z_sl_fn__to_api_Errno : (PP.info? 54).map (·.zero) = some (some (.slice none 0 0)) := by kernel_rfl
theorem i_sl_fn__to_api_Errno : (PP.info? 54).map (fun i => (i.zero, i.size, i.bytes)) = some (some (.slice none 0 0), 1, 24) := by kernel_rfl
abbrev T_a4_uint64 : TypeId := 66
theorem u_a4_uint64 : PP.underlying 66 = some (.array 4 25) := Try.underlying66
theorem g_a4_uint64 : isAg PP 66 4 := ⟨_, Try.underlying66, rfl, by kernel_rfl⟩
theorem s_a4_uint64 : (PP.info? 66).map (·.size) = some 4 := by kernel_rfl
theorem z_a4_uint64 : (PP.info? 66).map (·.zero) = some (some (ag (List.replicate 4 (.int .u64 0)))) := by kernel_rfl
theorem i_a4_uint64 : (PP.info? 66).map (fun i => (i.zero, i.size, i.bytes)) = some (some (ag (List.replicate 4 (.int .u64 0))), 4, 32) := by kernel_rfl
abbrev T_wide_N : TypeId := 67
theorem u_wide_N : PP.underlying 67 = some (.array 4 25) := Try.underlying67
theorem g_wide_N : isAg PP 67 4 := ⟨_, Try.underlying67, rfl, by kernel_rfl⟩
theorem s_wide_N : (PP.info? 67).map (·.size) = some 4 := by kernel_rfl
theorem z_wide_N : (PP.info? 67).map (·.zero) = some (some (ag (List.replicate 4 (.int .u64 0)))) := by kernel_rfl
theorem i_wide_N : (PP.info? 67).map (fun i => (i.zero, i.size, i.bytes)) = some (some (ag (List.replicate 4 (.int .u64 0))), 4, 32) := by kernel_rfl
abbrev T_sl_uint8 : TypeId := 76
theorem u_sl_uint8 : PP.underlying 76 = some (.slice 5) := Try.underlying76
theorem o_sl_uint8 : isOne PP 76 := ⟨_, Try.underlying76, rfl⟩
theorem s_sl_uint8 : (PP.info? 76).map (·.size) = some 1 := by kernel_rfl
theorem z_sl_uint8 : (PP.info? 76).map (·.zero) = some (some (.slice none 0 0)) := by kernel_rfl
theorem i_sl_uint8 : (PP.info? 76).map (fun i => (i.zero, i.size, i.bytes)) = some (some (.slice none 0 0), 1, 24) := by kernel_rfl
abbrev T_uint : TypeId := 77
theorem u_uint : PP.underlying 77 = some (.int .u64) := Try.underlying77
theorem o_uint : isOne PP 77 := ⟨_, Try.underlying77, rfl⟩
theorem s_uint : (PP.info? 77).map (·.size) = some 1 := by kernel_rfl
theorem z_uint : (PP.info? 77).map (·.zero) = some (some (.int .u64 0)) := by kernel_rfl
theorem i_uint : (PP.info? 77).map (fun i => (i.zero, i.size, i.bytes)) = some (some (.int .u64 0), 1, 8) := by kernel_rfl
abbrev T_p_sha_State : TypeId := 86
theorem u_p_sha_State : PP.underlying 86 = some (.pointer 98) := Try.underlying86
theorem o_p_sha_State : isOne PP 86 := ⟨_, Try.underlying86, rfl⟩
theorem s_p_sha_State : (PP.info? 86).map (·.size) = some 1 := by kernel_rfl
theorem z_p_sha_State : (PP.info? 86).map (·.zero) = some (some (.pointer none)) := by kernel_rfl
theorem i_p_sha_State : (PP.info? 86).map (fun i => (i.zero, i.size, i.bytes)) = some (some (.pointer none), 1, 8) := by kernel_rfl
abbrev T_a8_uint32 : TypeId := 95
theorem u_a8_uint32 : PP.underlying 95 = some (.array 8 22) := Try.underlying95
theorem g_a8_uint32 : isAg PP 95 8 := ⟨_, Try.underlying95, rfl, by kernel_rfl⟩
theorem s_a8_uint32 : (PP.info? 95).map (·.size) = some 8 := by kernel_rfl
theorem z_a8_uint32 : (PP.info? 95).map (·.zero) = some (some (ag (List.replicate 8 (.int .u32 0)))) := by kernel_rfl
theorem i_a8_uint32 : (PP.info? 95).map (fun i => (i.zero, i.size, i.bytes)) = some (some (ag (List.replicate 8 (.int .u32 0))), 8, 32) := by kernel_rfl
abbrev T_sha_Words : TypeId := 96
theorem u_sha_Words : PP.underlying 96 = some (.array 8 22) := Try.underlying96
theorem g_sha_Words : isAg PP 96 8 := ⟨_, Try.underlying96, rfl, by kernel_rfl⟩
theorem s_sha_Words : (PP.info? 96).map (·.size) = some 8 := by kernel_rfl
theorem z_sha_Words : (PP.info? 96).map (·.zero) = some (some (ag (List.replicate 8 (.int .u32 0)))) := by kernel_rfl
theorem i_sha_Words : (PP.info? 96).map (fun i => (i.zero, i.size, i.bytes)) = some (some (ag (List.replicate 8 (.int .u32 0))), 8, 32) := by kernel_rfl
abbrev T_sha_State : TypeId := 98
noncomputable abbrev F_sha_State : Array Field := fsOf Try.underlying98
theorem u_sha_State : PP.underlying 98 = some (.struct F_sha_State) := Try.underlying98
theorem g_sha_State : isAg PP 98 11 := ⟨_, Try.underlying98, rfl, by kernel_rfl⟩
theorem s_sha_State : (PP.info? 98).map (·.size) = some 11 := by kernel_rfl
theorem z_sha_State : (PP.info? 98).map (·.zero) = some (some (ag ((List.replicate 8 (.int .u32 0)) ++ ([.string ⟨#[]⟩] ++ ([.int .u64 0] ++ ([.bool false])))))) := by kernel_rfl
theorem i_sha_State : (PP.info? 98).map (fun i => (i.zero, i.size, i.bytes)) = some (some (ag ((List.replicate 8 (.int .u32 0)) ++ ([.string ⟨#[]⟩] ++ ([.int .u64 0] ++ ([.bool false]))))), 11, 64) := by kernel_rfl
abbrev T_a64_uint32 : TypeId := 107
theorem u_a64_uint32 : PP.underlying 107 = some (.array 64 22) := Try.underlying107
theorem g_a64_uint32 : isAg PP 107 64 := ⟨_, Try.underlying107, rfl, by kernel_rfl⟩
theorem s_a64_uint32 : (PP.info? 107).map (·.size) = some 64 := by kernel_rfl
theorem z_a64_uint32 : (PP.info? 107).map (·.zero) = some (some (ag (List.replicate 64 (.int .u32 0)))) := by kernel_rfl
theorem i_a64_uint32 : (PP.info? 107).map (fun i => (i.zero, i.size, i.bytes)) = some (some (ag (List.replicate 64 (.int .u32 0))), 64, 256) := by kernel_rfl
abbrev T_p_strings_Builder : TypeId := 112
theorem u_p_strings_Builder : PP.underlying 112 = some (.pointer 114) := Try.underlying112
theorem o_p_strings_Builder : isOne PP 112 := ⟨_, Try.underlying112, rfl⟩
theorem s_p_strings_Builder : (PP.info? 112).map (·.size) = some 1 := by kernel_rfl
theorem z_p_strings_Builder : (PP.info? 112).map (·.zero) = some (some (.pointer none)) := by kernel_rfl
theorem i_p_strings_Builder : (PP.info? 112).map (fun i => (i.zero, i.size, i.bytes)) = some (some (.pointer none), 1, 8) := by kernel_rfl
abbrev T_strings_Builder : TypeId := 114
noncomputable abbrev F_strings_Builder : Array Field := fsOf Try.underlying114
theorem u_strings_Builder : PP.underlying 114 = some (.struct F_strings_Builder) := Try.underlying114
theorem g_strings_Builder : isAg PP 114 2 := ⟨_, Try.underlying114, rfl, by kernel_rfl⟩
theorem s_strings_Builder : (PP.info? 114).map (·.size) = some 2 := by kernel_rfl
theorem z_strings_Builder : (PP.info? 114).map (·.zero) = some (some (ag ([.pointer none] ++ ([.slice none 0 0])))) := by kernel_rfl
theorem i_strings_Builder : (PP.info? 114).map (fun i => (i.zero, i.size, i.bytes)) = some (some (ag ([.pointer none] ++ ([.slice none 0 0]))), 2, 32) := by kernel_rfl
abbrev T_error : TypeId := 117
theorem o_error : isOne PP 117 := ⟨_, Try.underlying117, rfl⟩
theorem s_error : (PP.info? 117).map (·.size) = some 1 := by kernel_rfl
theorem z_error : (PP.info? 117).map (·.zero) = some (some (.nilIface)) := by kernel_rfl
theorem i_error : (PP.info? 117).map (fun i => (i.zero, i.size, i.bytes)) = some (some (.nilIface), 1, 16) := by kernel_rfl
abbrev T_p_uint8 : TypeId := 128
theorem u_p_uint8 : PP.underlying 128 = some (.pointer 5) := Try.underlying128
theorem o_p_uint8 : isOne PP 128 := ⟨_, Try.underlying128, rfl⟩
theorem s_p_uint8 : (PP.info? 128).map (·.size) = some 1 := by kernel_rfl
theorem z_p_uint8 : (PP.info? 128).map (·.zero) = some (some (.pointer none)) := by kernel_rfl
theorem i_p_uint8 : (PP.info? 128).map (fun i => (i.zero, i.size, i.bytes)) = some (some (.pointer none), 1, 8) := by kernel_rfl
abbrev T_runtime_TypeAssertionError : TypeId := 137
noncomputable abbrev F_runtime_TypeAssertionError : Array Field := fsOf Try.underlying137
theorem u_runtime_TypeAssertionError : PP.underlying 137 = some (.struct F_runtime_TypeAssertionError) := Try.underlying137
theorem g_runtime_TypeAssertionError : isAg PP 137 4 := ⟨_, Try.underlying137, rfl, by kernel_rfl⟩
theorem s_runtime_TypeAssertionError : (PP.info? 137).map (·.size) = some 4 := by kernel_rfl
theorem z_runtime_TypeAssertionError : (PP.info? 137).map (·.zero) = some (some (ag ([.pointer none] ++ ([.pointer none] ++ ([.pointer none] ++ ([.string ⟨#[]⟩])))))) := by kernel_rfl
theorem i_runtime_TypeAssertionError : (PP.info? 137).map (fun i => (i.zero, i.size, i.bytes)) = some (some (ag ([.pointer none] ++ ([.pointer none] ++ ([.pointer none] ++ ([.string ⟨#[]⟩]))))), 4, 40) := by kernel_rfl
abbrev T_a0_p_runtime_PanicNilError : TypeId := 138
theorem u_a0_p_runtime_PanicNilError : PP.underlying 138 = some (.array 0 16) := Try.underlying138
abbrev T_runtime_PanicNilError : TypeId := 140
noncomputable abbrev F_runtime_PanicNilError : Array Field := fsOf Try.underlying140
theorem u_runtime_PanicNilError : PP.underlying 140 = some (.struct F_runtime_PanicNilError) := Try.underlying140
abbrev T_internal_abi_TFlag : TypeId := 141
theorem u_internal_abi_TFlag : PP.underlying 141 = some (.int .u8) := Try.underlying141
theorem o_internal_abi_TFlag : isOne PP 141 := ⟨_, Try.underlying141, rfl⟩
theorem s_internal_abi_TFlag : (PP.info? 141).map (·.size) = some 1 := by kernel_rfl
theorem z_internal_abi_TFlag : (PP.info? 141).map (·.zero) = some (some (.int .u8 0)) := by kernel_rfl
theorem i_internal_abi_TFlag : (PP.info? 141).map (fun i => (i.zero, i.size, i.bytes)) = some (some (.int .u8 0), 1, 1) := by kernel_rfl
abbrev T_internal_abi_Kind : TypeId := 142
theorem u_internal_abi_Kind : PP.underlying 142 = some (.int .u8) := Try.underlying142
theorem o_internal_abi_Kind : isOne PP 142 := ⟨_, Try.underlying142, rfl⟩
theorem s_internal_abi_Kind : (PP.info? 142).map (·.size) = some 1 := by kernel_rfl
theorem z_internal_abi_Kind : (PP.info? 142).map (·.zero) = some (some (.int .u8 0)) := by kernel_rfl
theorem i_internal_abi_Kind : (PP.info? 142).map (fun i => (i.zero, i.size, i.bytes)) = some (some (.int .u8 0), 1, 1) := by kernel_rfl
abbrev T_internal_abi_NameOff : TypeId := 144
theorem u_internal_abi_NameOff : PP.underlying 144 = some (.int .i32) := Try.underlying144
theorem o_internal_abi_NameOff : isOne PP 144 := ⟨_, Try.underlying144, rfl⟩
theorem s_internal_abi_NameOff : (PP.info? 144).map (·.size) = some 1 := by kernel_rfl
theorem z_internal_abi_NameOff : (PP.info? 144).map (·.zero) = some (some (.int .i32 0)) := by kernel_rfl
theorem i_internal_abi_NameOff : (PP.info? 144).map (fun i => (i.zero, i.size, i.bytes)) = some (some (.int .i32 0), 1, 4) := by kernel_rfl
abbrev T_internal_abi_TypeOff : TypeId := 145
theorem u_internal_abi_TypeOff : PP.underlying 145 = some (.int .i32) := Try.underlying145
theorem o_internal_abi_TypeOff : isOne PP 145 := ⟨_, Try.underlying145, rfl⟩
theorem s_internal_abi_TypeOff : (PP.info? 145).map (·.size) = some 1 := by kernel_rfl
theorem z_internal_abi_TypeOff : (PP.info? 145).map (·.zero) = some (some (.int .i32 0)) := by kernel_rfl
theorem i_internal_abi_TypeOff : (PP.info? 145).map (fun i => (i.zero, i.size, i.bytes)) = some (some (.int .i32 0), 1, 4) := by kernel_rfl
abbrev T_internal_abi_Type : TypeId := 147
noncomputable abbrev F_internal_abi_Type : Array Field := fsOf Try.underlying147
theorem u_internal_abi_Type : PP.underlying 147 = some (.struct F_internal_abi_Type) := Try.underlying147
theorem g_internal_abi_Type : isAg PP 147 11 := ⟨_, Try.underlying147, rfl, by kernel_rfl⟩
theorem s_internal_abi_Type : (PP.info? 147).map (·.size) = some 11 := by kernel_rfl
theorem z_internal_abi_Type : (PP.info? 147).map (·.zero) = some (some (ag ([.int .u64 0] ++ ([.int .u64 0] ++ ([.int .u32 0] ++ ([.int .u8 0] ++ ([.int .u8 0] ++ ([.int .u8 0] ++ ([.int .u8 0] ++ ([.nilFunc] ++ ([.pointer none] ++ ([.int .i32 0] ++ ([.int .i32 0]))))))))))))) := by kernel_rfl
theorem i_internal_abi_Type : (PP.info? 147).map (fun i => (i.zero, i.size, i.bytes)) = some (some (ag ([.int .u64 0] ++ ([.int .u64 0] ++ ([.int .u32 0] ++ ([.int .u8 0] ++ ([.int .u8 0] ++ ([.int .u8 0] ++ ([.int .u8 0] ++ ([.nilFunc] ++ ([.pointer none] ++ ([.int .i32 0] ++ ([.int .i32 0])))))))))))), 11, 48) := by kernel_rfl

abbrev N_milepostlaw26_NearVectors : FuncId := 3
theorem f_milepostlaw26_NearVectors : PP.funcs[3]? = some Try.f3 := Try.func3
theorem n_milepostlaw26_NearVectors : Try.f3.ntmps = 90 := Try.ntmps3
theorem k_milepostlaw26_NearVectors : Fn PP 3 := ⟨_, _, Try.func3, rfl, rfl⟩
abbrev N_milepostlaw27_DownChain : FuncId := 4
theorem f_milepostlaw27_DownChain : PP.funcs[4]? = some Try.f4 := Try.func4
theorem n_milepostlaw27_DownChain : Try.f4.ntmps = 146 := Try.ntmps4
theorem k_milepostlaw27_DownChain : Fn PP 4 := ⟨_, _, Try.func4, rfl, rfl⟩
abbrev N_milepostlaw24_Much : FuncId := 5
theorem f_milepostlaw24_Much : PP.funcs[5]? = some Try.f5 := Try.func5
theorem n_milepostlaw24_Much : Try.f5.ntmps = 36 := Try.ntmps5
theorem k_milepostlaw24_Much : Fn PP 5 := ⟨_, _, Try.func5, rfl, rfl⟩
abbrev N_chain_Check : FuncId := 6
theorem f_chain_Check : PP.funcs[6]? = some Try.f6 := Try.func6
theorem n_chain_Check : Try.f6.ntmps = 62 := Try.ntmps6
theorem k_chain_Check : Fn PP 6 := ⟨_, _, Try.func6, rfl, rfl⟩
abbrev N_milepostlaw26_awake : FuncId := 7
theorem f_milepostlaw26_awake : PP.funcs[7]? = some Try.f7 := Try.func7
theorem n_milepostlaw26_awake : Try.f7.ntmps = 5 := Try.ntmps7
theorem k_milepostlaw26_awake : Fn PP 7 := ⟨_, _, Try.func7, rfl, rfl⟩
abbrev N_chain_Ids : FuncId := 8
theorem f_chain_Ids : PP.funcs[8]? = some Try.f8 := Try.func8
theorem n_chain_Ids : Try.f8.ntmps = 19 := Try.ntmps8
theorem k_chain_Ids : Fn PP 8 := ⟨_, _, Try.func8, rfl, rfl⟩
abbrev N_chain_Levels : FuncId := 9
theorem f_chain_Levels : PP.funcs[9]? = some Try.f9 := Try.func9
theorem n_chain_Levels : Try.f9.ntmps = 28 := Try.ntmps9
theorem k_chain_Levels : Fn PP 9 := ⟨_, _, Try.func9, rfl, rfl⟩
abbrev N_chain_Vectors : FuncId := 10
theorem f_chain_Vectors : PP.funcs[10]? = some Try.f10 := Try.func10
theorem n_chain_Vectors : Try.f10.ntmps = 29 := Try.ntmps10
theorem k_chain_Vectors : Fn PP 10 := ⟨_, _, Try.func10, rfl, rfl⟩
abbrev N_near_All : FuncId := 11
theorem f_near_All : PP.funcs[11]? = some Try.f11 := Try.func11
theorem n_near_All : Try.f11.ntmps = 34 := Try.ntmps11
theorem k_near_All : Fn PP 11 := ⟨_, _, Try.func11, rfl, rfl⟩
abbrev N_milepostlaw27_awake : FuncId := 12
theorem f_milepostlaw27_awake : PP.funcs[12]? = some Try.f12 := Try.func12
theorem n_milepostlaw27_awake : Try.f12.ntmps = 10 := Try.ntmps12
theorem k_milepostlaw27_awake : Fn PP 12 := ⟨_, _, Try.func12, rfl, rfl⟩
abbrev N_down_Walk : FuncId := 13
theorem f_down_Walk : PP.funcs[13]? = some Try.f13 := Try.func13
theorem n_down_Walk : Try.f13.ntmps = 44 := Try.ntmps13
theorem k_down_Walk : Fn PP 13 := ⟨_, _, Try.func13, rfl, rfl⟩
abbrev N_down_Index : FuncId := 14
theorem f_down_Index : PP.funcs[14]? = some Try.f14 := Try.func14
theorem n_down_Index : Try.f14.ntmps = 23 := Try.ntmps14
theorem k_down_Index : Fn PP 14 := ⟨_, _, Try.func14, rfl, rfl⟩
abbrev N_milepostlaw22_Much : FuncId := 15
theorem f_milepostlaw22_Much : PP.funcs[15]? = some Try.f15 := Try.func15
theorem n_milepostlaw22_Much : Try.f15.ntmps = 41 := Try.ntmps15
theorem k_milepostlaw22_Much : Fn PP 15 := ⟨_, _, Try.func15, rfl, rfl⟩
abbrev N_chain_look_anchor : FuncId := 16
theorem f_chain_look_anchor : PP.funcs[16]? = some Try.f16 := Try.func16
theorem n_chain_look_anchor : Try.f16.ntmps = 15 := Try.ntmps16
theorem k_chain_look_anchor : Fn PP 16 := ⟨_, _, Try.func16, rfl, rfl⟩
abbrev N_chain_look_form : FuncId := 17
theorem f_chain_look_form : PP.funcs[17]? = some Try.f17 := Try.func17
theorem n_chain_look_form : Try.f17.ntmps = 11 := Try.ntmps17
theorem k_chain_look_form : Fn PP 17 := ⟨_, _, Try.func17, rfl, rfl⟩
abbrev N_chain_look_work : FuncId := 18
theorem f_chain_look_work : PP.funcs[18]? = some Try.f18 := Try.func18
theorem n_chain_look_work : Try.f18.ntmps = 11 := Try.ntmps18
theorem k_chain_look_work : Fn PP 18 := ⟨_, _, Try.func18, rfl, rfl⟩
abbrev N_chain_behind : FuncId := 19
theorem f_chain_behind : PP.funcs[19]? = some Try.f19 := Try.func19
theorem n_chain_behind : Try.f19.ntmps = 22 := Try.ntmps19
theorem k_chain_behind : Fn PP 19 := ⟨_, _, Try.func19, rfl, rfl⟩
abbrev N_milepostref22_Same : FuncId := 20
theorem f_milepostref22_Same : PP.funcs[20]? = some Try.f20 := Try.func20
theorem n_milepostref22_Same : Try.f20.ntmps = 26 := Try.ntmps20
theorem k_milepostref22_Same : Fn PP 20 := ⟨_, _, Try.func20, rfl, rfl⟩
abbrev N_chain_id : FuncId := 21
theorem f_chain_id : PP.funcs[21]? = some Try.f21 := Try.func21
theorem n_chain_id : Try.f21.ntmps = 6 := Try.ntmps21
theorem k_chain_id : Fn PP 21 := ⟨_, _, Try.func21, rfl, rfl⟩
abbrev N_work_Level : FuncId := 22
theorem f_work_Level : PP.funcs[22]? = some Try.f22 := Try.func22
theorem n_work_Level : Try.f22.ntmps = 25 := Try.ntmps22
theorem k_work_Level : Fn PP 22 := ⟨_, _, Try.func22, rfl, rfl⟩
abbrev N_near_Near : FuncId := 23
theorem f_near_Near : PP.funcs[23]? = some Try.f23 := Try.func23
theorem n_near_Near : Try.f23.ntmps = 25 := Try.ntmps23
theorem k_near_Near : Fn PP 23 := ⟨_, _, Try.func23, rfl, rfl⟩
abbrev N_down_far : FuncId := 24
theorem f_down_far : PP.funcs[24]? = some Try.f24 := Try.func24
theorem n_down_far : Try.f24.ntmps = 32 := Try.ntmps24
theorem k_down_far : Fn PP 24 := ⟨_, _, Try.func24, rfl, rfl⟩
abbrev N_block_Check : FuncId := 25
theorem f_block_Check : PP.funcs[25]? = some Try.f25 := Try.func25
theorem n_block_Check : Try.f25.ntmps = 31 := Try.ntmps25
theorem k_block_Check : Fn PP 25 := ⟨_, _, Try.func25, rfl, rfl⟩
abbrev N_work_Ok : FuncId := 26
theorem f_work_Ok : PP.funcs[26]? = some Try.f26 := Try.func26
theorem n_work_Ok : Try.f26.ntmps = 11 := Try.ntmps26
theorem k_work_Ok : Fn PP 26 := ⟨_, _, Try.func26, rfl, rfl⟩
abbrev N_inter_First : FuncId := 27
theorem f_inter_First : PP.funcs[27]? = some Try.f27 := Try.func27
theorem n_inter_First : Try.f27.ntmps = 5 := Try.ntmps27
theorem k_inter_First : Fn PP 27 := ⟨_, _, Try.func27, rfl, rfl⟩
abbrev N_inter_Next : FuncId := 28
theorem f_inter_Next : PP.funcs[28]? = some Try.f28 := Try.func28
theorem n_inter_Next : Try.f28.ntmps = 64 := Try.ntmps28
theorem k_inter_Next : Fn PP 28 := ⟨_, _, Try.func28, rfl, rfl⟩
abbrev N_ident_Id : FuncId := 29
theorem f_ident_Id : PP.funcs[29]? = some Try.f29 := Try.func29
theorem n_ident_Id : Try.f29.ntmps = 6 := Try.ntmps29
theorem k_ident_Id : Fn PP 29 := ⟨_, _, Try.func29, rfl, rfl⟩
abbrev N_wide_Of : FuncId := 30
theorem f_wide_Of : PP.funcs[30]? = some Try.f30 := Try.func30
theorem n_wide_Of : Try.f30.ntmps = 18 := Try.ntmps30
theorem k_wide_Of : Fn PP 30 := ⟨_, _, Try.func30, rfl, rfl⟩
abbrev N_wide_Cmp : FuncId := 31
theorem f_wide_Cmp : PP.funcs[31]? = some Try.f31 := Try.func31
theorem n_wide_Cmp : Try.f31.ntmps = 28 := Try.ntmps31
theorem k_wide_Cmp : Fn PP 31 := ⟨_, _, Try.func31, rfl, rfl⟩
abbrev N_wide_Shr : FuncId := 32
theorem f_wide_Shr : PP.funcs[32]? = some Try.f32 := Try.func32
theorem n_wide_Shr : Try.f32.ntmps = 59 := Try.ntmps32
theorem k_wide_Shr : Fn PP 32 := ⟨_, _, Try.func32, rfl, rfl⟩
abbrev N_txs_May : FuncId := 33
theorem f_txs_May : PP.funcs[33]? = some Try.f33 := Try.func33
theorem n_txs_May : Try.f33.ntmps = 18 := Try.ntmps33
theorem k_txs_May : Fn PP 33 := ⟨_, _, Try.func33, rfl, rfl⟩
abbrev N_block_Make : FuncId := 34
theorem f_block_Make : PP.funcs[34]? = some Try.f34 := Try.func34
theorem n_block_Make : Try.f34.ntmps = 21 := Try.ntmps34
theorem k_block_Make : Fn PP 34 := ⟨_, _, Try.func34, rfl, rfl⟩
abbrev N_tag_HeaderSum : FuncId := 35
theorem f_tag_HeaderSum : PP.funcs[35]? = some Try.f35 := Try.func35
theorem n_tag_HeaderSum : Try.f35.ntmps = 6 := Try.ntmps35
theorem k_tag_HeaderSum : Fn PP 35 := ⟨_, _, Try.func35, rfl, rfl⟩
abbrev N_head_Bytes : FuncId := 36
theorem f_head_Bytes : PP.funcs[36]? = some Try.f36 := Try.func36
theorem n_head_Bytes : Try.f36.ntmps = 18 := Try.ntmps36
theorem k_head_Bytes : Fn PP 36 := ⟨_, _, Try.func36, rfl, rfl⟩
abbrev N_word_Take64 : FuncId := 37
theorem f_word_Take64 : PP.funcs[37]? = some Try.f37 := Try.func37
theorem n_word_Take64 : Try.f37.ntmps = 8 := Try.ntmps37
theorem k_word_Take64 : Fn PP 37 := ⟨_, _, Try.func37, rfl, rfl⟩
abbrev N_link_Root : FuncId := 38
theorem f_link_Root : PP.funcs[38]? = some Try.f38 := Try.func38
theorem n_link_Root : Try.f38.ntmps = 6 := Try.ntmps38
theorem k_link_Root : Fn PP 38 := ⟨_, _, Try.func38, rfl, rfl⟩
abbrev N_txs_Root : FuncId := 39
theorem f_txs_Root : PP.funcs[39]? = some Try.f39 := Try.func39
theorem n_txs_Root : Try.f39.ntmps = 6 := Try.ntmps39
theorem k_txs_Root : Fn PP 39 := ⟨_, _, Try.func39, rfl, rfl⟩
abbrev N_sha_Sum : FuncId := 40
theorem f_sha_Sum : PP.funcs[40]? = some Try.f40 := Try.func40
theorem n_sha_Sum : Try.f40.ntmps = 10 := Try.ntmps40
theorem k_sha_Sum : Fn PP 40 := ⟨_, _, Try.func40, rfl, rfl⟩
abbrev N_tag_HeaderText : FuncId := 41
theorem f_tag_HeaderText : PP.funcs[41]? = some Try.f41 := Try.func41
theorem n_tag_HeaderText : Try.f41.ntmps = 6 := Try.ntmps41
theorem k_tag_HeaderText : Fn PP 41 := ⟨_, _, Try.func41, rfl, rfl⟩
abbrev N_word_Put32 : FuncId := 42
theorem f_word_Put32 : PP.funcs[42]? = some Try.f42 := Try.func42
theorem n_word_Put32 : Try.f42.ntmps = 6 := Try.ntmps42
theorem k_word_Put32 : Fn PP 42 := ⟨_, _, Try.func42, rfl, rfl⟩
abbrev N_word_Put64 : FuncId := 43
theorem f_word_Put64 : PP.funcs[43]? = some Try.f43 := Try.func43
theorem n_word_Put64 : Try.f43.ntmps = 5 := Try.ntmps43
theorem k_word_Put64 : Fn PP 43 := ⟨_, _, Try.func43, rfl, rfl⟩
abbrev N_word_take : FuncId := 44
theorem f_word_take : PP.funcs[44]? = some Try.f44 := Try.func44
theorem n_word_take : Try.f44.ntmps = 41 := Try.ntmps44
theorem k_word_take : Fn PP 44 := ⟨_, _, Try.func44, rfl, rfl⟩
abbrev N_tree_Root : FuncId := 45
theorem f_tree_Root : PP.funcs[45]? = some Try.f45 := Try.func45
theorem n_tree_Root : Try.f45.ntmps = 10 := Try.ntmps45
theorem k_tree_Root : Fn PP 45 := ⟨_, _, Try.func45, rfl, rfl⟩
abbrev N_link_texts : FuncId := 46
theorem f_link_texts : PP.funcs[46]? = some Try.f46 := Try.func46
theorem n_link_texts : Try.f46.ntmps = 19 := Try.ntmps46
theorem k_link_texts : Fn PP 46 := ⟨_, _, Try.func46, rfl, rfl⟩
abbrev N_txs_texts : FuncId := 47
theorem f_txs_texts : PP.funcs[47]? = some Try.f47 := Try.func47
theorem n_txs_texts : Try.f47.ntmps = 19 := Try.ntmps47
theorem k_txs_texts : Fn PP 47 := ⟨_, _, Try.func47, rfl, rfl⟩
abbrev N_sha_New : FuncId := 48
theorem f_sha_New : PP.funcs[48]? = some Try.f48 := Try.func48
theorem n_sha_New : Try.f48.ntmps = 3 := Try.ntmps48
theorem k_sha_New : Fn PP 48 := ⟨_, _, Try.func48, rfl, rfl⟩
abbrev N_sha_State_Write : FuncId := 49
theorem f_sha_State_Write : PP.funcs[49]? = some Try.f49 := Try.func49
theorem n_sha_State_Write : Try.f49.ntmps = 72 := Try.ntmps49
theorem k_sha_State_Write : Fn PP 49 := ⟨_, _, Try.func49, rfl, rfl⟩
abbrev N_sha_State_Sum : FuncId := 50
theorem f_sha_State_Sum : PP.funcs[50]? = some Try.f50 := Try.func50
theorem n_sha_State_Sum : Try.f50.ntmps = 37 := Try.ntmps50
theorem k_sha_State_Sum : Fn PP 50 := ⟨_, _, Try.func50, rfl, rfl⟩
abbrev N_tag_Text : FuncId := 51
theorem f_tag_Text : PP.funcs[51]? = some Try.f51 := Try.func51
theorem n_tag_Text : Try.f51.ntmps = 11 := Try.ntmps51
theorem k_tag_Text : Fn PP 51 := ⟨_, _, Try.func51, rfl, rfl⟩
abbrev N_word_put : FuncId := 52
theorem f_word_put : PP.funcs[52]? = some Try.f52 := Try.func52
theorem n_word_put : Try.f52.ntmps = 26 := Try.ntmps52
theorem k_word_put : Fn PP 52 := ⟨_, _, Try.func52, rfl, rfl⟩
abbrev N_tag_RootSum : FuncId := 53
theorem f_tag_RootSum : PP.funcs[53]? = some Try.f53 := Try.func53
theorem n_tag_RootSum : Try.f53.ntmps = 9 := Try.ntmps53
theorem k_tag_RootSum : Fn PP 53 := ⟨_, _, Try.func53, rfl, rfl⟩
abbrev N_tree_Top : FuncId := 54
theorem f_tree_Top : PP.funcs[54]? = some Try.f54 := Try.func54
theorem n_tree_Top : Try.f54.ntmps = 25 := Try.ntmps54
theorem k_tree_Top : Fn PP 54 := ⟨_, _, Try.func54, rfl, rfl⟩
abbrev N_tree_Leaves : FuncId := 55
theorem f_tree_Leaves : PP.funcs[55]? = some Try.f55 := Try.func55
theorem n_tree_Leaves : Try.f55.ntmps = 5 := Try.ntmps55
theorem k_tree_Leaves : Fn PP 55 := ⟨_, _, Try.func55, rfl, rfl⟩
abbrev N_link_Text : FuncId := 56
theorem f_link_Text : PP.funcs[56]? = some Try.f56 := Try.func56
theorem n_link_Text : Try.f56.ntmps = 6 := Try.ntmps56
theorem k_link_Text : Fn PP 56 := ⟨_, _, Try.func56, rfl, rfl⟩
abbrev N_txs_Text : FuncId := 57
theorem f_txs_Text : PP.funcs[57]? = some Try.f57 := Try.func57
theorem n_txs_Text : Try.f57.ntmps = 5 := Try.ntmps57
theorem k_txs_Text : Fn PP 57 := ⟨_, _, Try.func57, rfl, rfl⟩
abbrev N_sha_First : FuncId := 58
theorem f_sha_First : PP.funcs[58]? = some Try.f58 := Try.func58
theorem n_sha_First : Try.f58.ntmps = 2 := Try.ntmps58
theorem k_sha_First : Fn PP 58 := ⟨_, _, Try.func58, rfl, rfl⟩
abbrev N_sha_Mix : FuncId := 59
theorem f_sha_Mix : PP.funcs[59]? = some Try.f59 := Try.func59
theorem n_sha_Mix : Try.f59.ntmps = 122 := Try.ntmps59
theorem k_sha_Mix : Fn PP 59 := ⟨_, _, Try.func59, rfl, rfl⟩
abbrev N_sha_Pad : FuncId := 60
theorem f_sha_Pad : PP.funcs[60]? = some Try.f60 := Try.func60
theorem n_sha_Pad : Try.f60.ntmps = 16 := Try.ntmps60
theorem k_sha_Pad : Fn PP 60 := ⟨_, _, Try.func60, rfl, rfl⟩
abbrev N_strings_Join : FuncId := 61
theorem f_strings_Join : PP.funcs[61]? = some Try.f61 := Try.func61
theorem n_strings_Join : Try.f61.ntmps = 75 := Try.ntmps61
theorem k_strings_Join : Fn PP 61 := ⟨_, _, Try.func61, rfl, rfl⟩
abbrev N_tag_RootText : FuncId := 62
theorem f_tag_RootText : PP.funcs[62]? = some Try.f62 := Try.func62
theorem n_tag_RootText : Try.f62.ntmps = 11 := Try.ntmps62
theorem k_tag_RootText : Fn PP 62 := ⟨_, _, Try.func62, rfl, rfl⟩
abbrev N_tree_parted_api_Hash : FuncId := 63
theorem f_tree_parted_api_Hash : PP.funcs[63]? = some Try.f63 := Try.func63
theorem n_tree_parted_api_Hash : Try.f63.ntmps = 14 := Try.ntmps63
theorem k_tree_parted_api_Hash : Fn PP 63 := ⟨_, _, Try.func63, rfl, rfl⟩
abbrev N_tag_NodeSum : FuncId := 64
theorem f_tag_NodeSum : PP.funcs[64]? = some Try.f64 := Try.func64
theorem n_tag_NodeSum : Try.f64.ntmps = 9 := Try.ntmps64
theorem k_tag_NodeSum : Fn PP 64 := ⟨_, _, Try.func64, rfl, rfl⟩
abbrev N_tree_each_string_api_Hash : FuncId := 65
theorem f_tree_each_string_api_Hash : PP.funcs[65]? = some Try.f65 := Try.func65
theorem n_tree_each_string_api_Hash : Try.f65.ntmps = 22 := Try.ntmps65
theorem k_tree_each_string_api_Hash : Fn PP 65 := ⟨_, _, Try.func65, rfl, rfl⟩
abbrev N_tag_LeafSum : FuncId := 66
theorem f_tag_LeafSum : PP.funcs[66]? = some Try.f66 := Try.func66
theorem n_tag_LeafSum : Try.f66.ntmps = 6 := Try.ntmps66
theorem k_tag_LeafSum : Fn PP 66 := ⟨_, _, Try.func66, rfl, rfl⟩
abbrev N_sha_Spread : FuncId := 67
theorem f_sha_Spread : PP.funcs[67]? = some Try.f67 := Try.func67
theorem n_sha_Spread : Try.f67.ntmps = 61 := Try.ntmps67
theorem k_sha_Spread : Fn PP 67 := ⟨_, _, Try.func67, rfl, rfl⟩
abbrev N_sha_rounds : FuncId := 68
theorem f_sha_rounds : PP.funcs[68]? = some Try.f68 := Try.func68
theorem n_sha_rounds : Try.f68.ntmps = 2 := Try.ntmps68
theorem k_sha_rounds : Fn PP 68 := ⟨_, _, Try.func68, rfl, rfl⟩
abbrev N_word_Rot : FuncId := 69
theorem f_word_Rot : PP.funcs[69]? = some Try.f69 := Try.func69
theorem n_word_Rot : Try.f69.ntmps = 17 := Try.ntmps69
theorem k_word_Rot : Fn PP 69 := ⟨_, _, Try.func69, rfl, rfl⟩
abbrev N_strings_Repeat : FuncId := 70
theorem f_strings_Repeat : PP.funcs[70]? = some Try.f70 := Try.func70
theorem n_strings_Repeat : Try.f70.ntmps = 125 := Try.ntmps70
theorem k_strings_Repeat : Fn PP 70 := ⟨_, _, Try.func70, rfl, rfl⟩
abbrev N_strings_Builder_Grow : FuncId := 71
theorem f_strings_Builder_Grow : PP.funcs[71]? = some Try.f71 := Try.func71
theorem n_strings_Builder_Grow : Try.f71.ntmps = 25 := Try.ntmps71
theorem k_strings_Builder_Grow : Fn PP 71 := ⟨_, _, Try.func71, rfl, rfl⟩
abbrev N_strings_Builder_WriteString : FuncId := 72
theorem f_strings_Builder_WriteString : PP.funcs[72]? = some Try.f72 := Try.func72
theorem n_strings_Builder_WriteString : Try.f72.ntmps = 19 := Try.ntmps72
theorem k_strings_Builder_WriteString : Fn PP 72 := ⟨_, _, Try.func72, rfl, rfl⟩
abbrev N_strings_Builder_String : FuncId := 73
theorem f_strings_Builder_String : PP.funcs[73]? = some Try.f73 := Try.func73
theorem n_strings_Builder_String : Try.f73.ntmps = 14 := Try.ntmps73
theorem k_strings_Builder_String : Fn PP 73 := ⟨_, _, Try.func73, rfl, rfl⟩
abbrev N_shape_Left : FuncId := 74
theorem f_shape_Left : PP.funcs[74]? = some Try.f74 := Try.func74
theorem n_shape_Left : Try.f74.ntmps = 14 := Try.ntmps74
theorem k_shape_Left : Fn PP 74 := ⟨_, _, Try.func74, rfl, rfl⟩
abbrev N_tag_NodeText : FuncId := 75
theorem f_tag_NodeText : PP.funcs[75]? = some Try.f75 := Try.func75
theorem n_tag_NodeText : Try.f75.ntmps = 11 := Try.ntmps75
theorem k_tag_NodeText : Fn PP 75 := ⟨_, _, Try.func75, rfl, rfl⟩
abbrev N_tag_LeafText : FuncId := 76
theorem f_tag_LeafText : PP.funcs[76]? = some Try.f76 := Try.func76
theorem n_tag_LeafText : Try.f76.ntmps = 6 := Try.ntmps76
theorem k_tag_LeafText : Fn PP 76 := ⟨_, _, Try.func76, rfl, rfl⟩
abbrev N_word_Take32 : FuncId := 77
theorem f_word_Take32 : PP.funcs[77]? = some Try.f77 := Try.func77
theorem n_word_Take32 : Try.f77.ntmps = 9 := Try.ntmps77
theorem k_word_Take32 : Fn PP 77 := ⟨_, _, Try.func77, rfl, rfl⟩
abbrev N_math_bits_Mul : FuncId := 78
theorem f_math_bits_Mul : PP.funcs[78]? = some Try.f78 := Try.func78
theorem n_math_bits_Mul : Try.f78.ntmps = 30 := Try.ntmps78
theorem k_math_bits_Mul : Fn PP 78 := ⟨_, _, Try.func78, rfl, rfl⟩
abbrev N_strings_HasPrefix : FuncId := 79
theorem f_strings_HasPrefix : PP.funcs[79]? = some Try.f79 := Try.func79
theorem n_strings_HasPrefix : Try.f79.ntmps = 8 := Try.ntmps79
theorem k_strings_HasPrefix : Fn PP 79 := ⟨_, _, Try.func79, rfl, rfl⟩
abbrev N_strings_Builder_Len : FuncId := 80
theorem f_strings_Builder_Len : PP.funcs[80]? = some Try.f80 := Try.func80
theorem n_strings_Builder_Len : Try.f80.ntmps = 8 := Try.ntmps80
theorem k_strings_Builder_Len : Fn PP 80 := ⟨_, _, Try.func80, rfl, rfl⟩
abbrev N_strings_Builder_copyCheck : FuncId := 81
theorem f_strings_Builder_copyCheck : PP.funcs[81]? = some Try.f81 := Try.func81
theorem n_strings_Builder_copyCheck : Try.f81.ntmps = 20 := Try.ntmps81
theorem k_strings_Builder_copyCheck : Fn PP 81 := ⟨_, _, Try.func81, rfl, rfl⟩
abbrev N_strings_Builder_grow : FuncId := 82
theorem f_strings_Builder_grow : PP.funcs[82]? = some Try.f82 := Try.func82
theorem n_strings_Builder_grow : Try.f82.ntmps = 30 := Try.ntmps82
theorem k_strings_Builder_grow : Fn PP 82 := ⟨_, _, Try.func82, rfl, rfl⟩
abbrev N_math_bits_Mul32 : FuncId := 83
theorem f_math_bits_Mul32 : PP.funcs[83]? = some Try.f83 := Try.func83
theorem n_math_bits_Mul32 : Try.f83.ntmps = 17 := Try.ntmps83
theorem k_math_bits_Mul32 : Fn PP 83 := ⟨_, _, Try.func83, rfl, rfl⟩
abbrev N_math_bits_Mul64 : FuncId := 84
theorem f_math_bits_Mul64 : PP.funcs[84]? = some Try.f84 := Try.func84
theorem n_math_bits_Mul64 : Try.f84.ntmps = 51 := Try.ntmps84
theorem k_math_bits_Mul64 : Fn PP 84 := ⟨_, _, Try.func84, rfl, rfl⟩
abbrev N_internal_stringslite_HasPrefix : FuncId := 85
theorem f_internal_stringslite_HasPrefix : PP.funcs[85]? = some Try.f85 := Try.func85
theorem n_internal_stringslite_HasPrefix : Try.f85.ntmps = 18 := Try.ntmps85
theorem k_internal_stringslite_HasPrefix : Fn PP 85 := ⟨_, _, Try.func85, rfl, rfl⟩
end Go.Proofs.Ytigcichdigkemaa.L
