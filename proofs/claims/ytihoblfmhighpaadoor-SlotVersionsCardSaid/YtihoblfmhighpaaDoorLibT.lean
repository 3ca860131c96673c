/- The functions that this seat's laws reach, for the clean machine; each is what the translation makes of the given text. Conditions: none. Printed by program. -/
import Derived.Test.YtihoblfmhighpaaDoorLibTA
namespace Go.Proofs.YtihoblfmhighpaaDoor
open Go.Dp
def tree0 : Tr LF := (.node (.node (.node (.node (.node (.node (.node .leaf (some (.code pf_internal_strconv_log10Pow2)) .leaf) (some (.code pf_item_Store_Drop)) .leaf) (some (.code pf_slot_Slot_do)) (.node (.node .leaf (some (.code pf_chain_Hash)) .leaf) (some (.code pf_pack_grown)) .leaf)) (some (.code pf_depotbook_Within)) (.node (.node .leaf (some (.code pf_pack_Reader_At)) .leaf) (some (.code pf_wire_role)) (.node .leaf (some (.code pf_item_Store_Peek)) .leaf))) (some (.code pf_depotlaw17_SlotVersions)) (.node (.node (.node (.node .leaf (some (.code pf_math_bits_TrailingZeros)) .leaf) none .leaf) (some (.code pf_slot_Slot_Inc)) (.node .leaf (some (.code pf_internal_strconv_formatBase10)) .leaf)) (some (.code pf_wire_Right)) (.node (.node .leaf (some (.code pf_item_Store_gone)) .leaf) (some (.code pf_slot_Slot_stands)) (.node .leaf (some (.code pf_chain_Chain_Drop)) .leaf)))) none (.node (.node (.node (.node (.node .leaf (some (.code pf_internal_strconv_bool2_int)) .leaf) none .leaf) (some (.code pf_slot_Slot_Wipe)) (.node (.node .leaf (some (.code pf_math_bits_TrailingZeros64)) .leaf) (some (.code pf_internal_strconv_small)) .leaf)) (some (.code pf_depotlaw17_SlotRuns)) (.node (.node .leaf (some (.code pf_slab_Slab_Alloc)) .leaf) none (.node .leaf (some (.code pf_pack_Reader_fail)) .leaf))) (some (.code pf_slot_Slot_Take)) (.node (.node (.node .leaf (some (.code pf_pack_Read)) .leaf) (some (.code pf_chain_New)) .leaf) none (.node (.node .leaf (some (.code pf_chain_Chain_Put)) .leaf) (some (.code pf_slot_name)) (.node .leaf (some (.code pf_chain_Chain_bucket)) .leaf))))) none (.node (.node (.node (.node (.node (.node .leaf (some (.code pf_math_bits_Len64)) .leaf) (some (.code pf_internal_strconv_FormatInt)) .leaf) (some (.code pf_internal_strconv_Itoa)) (.node (.node .leaf (some (.code pf_math_bits_TrailingZeros32)) .leaf) (some (.code pf_chain_Chain_Get)) .leaf)) (some (.code pf_strconv_Itoa)) (.node (.node .leaf (some (.code pf_slab_Slab_Class)) .leaf) (some (.code pf_slot_Slot_clear)) (.node .leaf (some (.code pf_item_Store_out)) .leaf))) (some (.code pf_slot_New)) (.node (.node (.node .leaf (some (.code pf_item_Store_Get)) .leaf) (some (.code pf_slab_New)) (.node .leaf (some (.code pf_internal_strconv_formatBits)) .leaf)) (some (.code pf_slot_Slot_reset)) (.node (.node .leaf (some (.code pf_item_Store_in)) .leaf) (some (.code pf_item_Store_Put)) (.node .leaf (some (.code pf_chain_Chain_step)) .leaf)))) none (.node (.node (.node (.node (.node .leaf (some (.code pf_internal_strconv_isPowerOfTwo)) .leaf) none .leaf) (some (.code pf_slot_Slot_On)) (.node .leaf (some (.code pf_internal_strconv_numDigits)) .leaf)) (some (.code pf_item_New)) (.node .leaf none (.node .leaf (some (.code pf_slab_Slab_Free)) .leaf))) (some (.code pf_depotlaw17_ask)) (.node (.node (.node .leaf (some (.code pf_pack_Reader_Num)) .leaf) (some (.code pf_wire_within)) .leaf) (some (.code pf_slot_Slot_Take_1)) (.node (.node (.node .leaf (some (.code pf_slab_Slab_Read)) .leaf) (some (.code pf_pack_num)) .leaf) (some (.code pf_pack_Num)) (.node .leaf (some (.code pf_chain_find)) .leaf))))))
theorem bd3 : BodyOk cx 3 := ⟨Tryd.f3, Tryd.func3, by kernel_rfl, by kernel_rfl⟩
theorem bd4 : BodyOk cx 4 := ⟨Tryd.f4, Tryd.func4, by kernel_rfl, by kernel_rfl⟩
theorem bd5 : BodyOk cx 5 := ⟨Tryd.f5, Tryd.func5, by kernel_rfl, by kernel_rfl⟩
theorem bd6 : BodyOk cx 6 := ⟨Tryd.f6, Tryd.func6, by kernel_rfl, by kernel_rfl⟩
theorem bd7 : BodyOk cx 7 := ⟨Tryd.f7, Tryd.func7, by kernel_rfl, by kernel_rfl⟩
theorem bd8 : BodyOk cx 8 := ⟨Tryd.f8, Tryd.func8, by kernel_rfl, by kernel_rfl⟩
theorem bd9 : BodyOk cx 9 := ⟨Tryd.f9, Tryd.func9, by kernel_rfl, by kernel_rfl⟩
theorem bd10 : BodyOk cx 10 := ⟨Tryd.f10, Tryd.func10, by kernel_rfl, by kernel_rfl⟩
theorem bd11 : BodyOk cx 11 := ⟨Tryd.f11, Tryd.func11, by kernel_rfl, by kernel_rfl⟩
theorem bd12 : BodyOk cx 12 := ⟨Tryd.f12, Tryd.func12, by kernel_rfl, by kernel_rfl⟩
theorem bd14 : BodyOk cx 14 := ⟨Tryd.f14, Tryd.func14, by kernel_rfl, by kernel_rfl⟩
theorem bd15 : BodyOk cx 15 := ⟨Tryd.f15, Tryd.func15, by kernel_rfl, by kernel_rfl⟩
theorem bd16 : BodyOk cx 16 := ⟨Tryd.f16, Tryd.func16, by kernel_rfl, by kernel_rfl⟩
theorem bd17 : BodyOk cx 17 := ⟨Tryd.f17, Tryd.func17, by kernel_rfl, by kernel_rfl⟩
theorem bd18 : BodyOk cx 18 := ⟨Tryd.f18, Tryd.func18, by kernel_rfl, by kernel_rfl⟩
theorem bd19 : BodyOk cx 19 := ⟨Tryd.f19, Tryd.func19, by kernel_rfl, by kernel_rfl⟩
theorem bd20 : BodyOk cx 20 := ⟨Tryd.f20, Tryd.func20, by kernel_rfl, by kernel_rfl⟩
theorem bd21 : BodyOk cx 21 := ⟨Tryd.f21, Tryd.func21, by kernel_rfl, by kernel_rfl⟩
theorem bd22 : BodyOk cx 22 := ⟨Tryd.f22, Tryd.func22, by kernel_rfl, by kernel_rfl⟩
theorem bd23 : BodyOk cx 23 := ⟨Tryd.f23, Tryd.func23, by kernel_rfl, by kernel_rfl⟩
theorem bd24 : BodyOk cx 24 := ⟨Tryd.f24, Tryd.func24, by kernel_rfl, by kernel_rfl⟩
theorem bd27 : BodyOk cx 27 := ⟨Tryd.f27, Tryd.func27, by kernel_rfl, by kernel_rfl⟩
theorem bd28 : BodyOk cx 28 := ⟨Tryd.f28, Tryd.func28, by kernel_rfl, by kernel_rfl⟩
theorem bd29 : BodyOk cx 29 := ⟨Tryd.f29, Tryd.func29, by kernel_rfl, by kernel_rfl⟩
theorem bd30 : BodyOk cx 30 := ⟨Tryd.f30, Tryd.func30, by kernel_rfl, by kernel_rfl⟩
theorem bd31 : BodyOk cx 31 := ⟨Tryd.f31, Tryd.func31, by kernel_rfl, by kernel_rfl⟩
theorem bd32 : BodyOk cx 32 := ⟨Tryd.f32, Tryd.func32, by kernel_rfl, by kernel_rfl⟩
theorem bd36 : BodyOk cx 36 := ⟨Tryd.f36, Tryd.func36, by kernel_rfl, by kernel_rfl⟩
theorem bd37 : BodyOk cx 37 := ⟨Tryd.f37, Tryd.func37, by kernel_rfl, by kernel_rfl⟩
theorem bd38 : BodyOk cx 38 := ⟨Tryd.f38, Tryd.func38, by kernel_rfl, by kernel_rfl⟩
theorem bd39 : BodyOk cx 39 := ⟨Tryd.f39, Tryd.func39, by kernel_rfl, by kernel_rfl⟩
theorem bd40 : BodyOk cx 40 := ⟨Tryd.f40, Tryd.func40, by kernel_rfl, by kernel_rfl⟩
theorem bd41 : BodyOk cx 41 := ⟨Tryd.f41, Tryd.func41, by kernel_rfl, by kernel_rfl⟩
theorem bd43 : BodyOk cx 43 := ⟨Tryd.f43, Tryd.func43, by kernel_rfl, by kernel_rfl⟩
theorem bd44 : BodyOk cx 44 := ⟨Tryd.f44, Tryd.func44, by kernel_rfl, by kernel_rfl⟩
theorem bd45 : BodyOk cx 45 := ⟨Tryd.f45, Tryd.func45, by kernel_rfl, by kernel_rfl⟩
theorem bd46 : BodyOk cx 46 := ⟨Tryd.f46, Tryd.func46, by kernel_rfl, by kernel_rfl⟩
theorem bd47 : BodyOk cx 47 := ⟨Tryd.f47, Tryd.func47, by kernel_rfl, by kernel_rfl⟩
theorem bd48 : BodyOk cx 48 := ⟨Tryd.f48, Tryd.func48, by kernel_rfl, by kernel_rfl⟩
theorem bd49 : BodyOk cx 49 := ⟨Tryd.f49, Tryd.func49, by kernel_rfl, by kernel_rfl⟩
theorem bd50 : BodyOk cx 50 := ⟨Tryd.f50, Tryd.func50, by kernel_rfl, by kernel_rfl⟩
theorem bd51 : BodyOk cx 51 := ⟨Tryd.f51, Tryd.func51, by kernel_rfl, by kernel_rfl⟩
theorem bd52 : BodyOk cx 52 := ⟨Tryd.f52, Tryd.func52, by kernel_rfl, by kernel_rfl⟩
theorem bd55 : BodyOk cx 55 := ⟨Tryd.f55, Tryd.func55, by kernel_rfl, by kernel_rfl⟩
theorem bd56 : BodyOk cx 56 := ⟨Tryd.f56, Tryd.func56, by kernel_rfl, by kernel_rfl⟩
theorem bd57 : BodyOk cx 57 := ⟨Tryd.f57, Tryd.func57, by kernel_rfl, by kernel_rfl⟩
theorem bd58 : BodyOk cx 58 := ⟨Tryd.f58, Tryd.func58, by kernel_rfl, by kernel_rfl⟩
theorem bd59 : BodyOk cx 59 := ⟨Tryd.f59, Tryd.func59, by kernel_rfl, by kernel_rfl⟩
theorem bd60 : BodyOk cx 60 := ⟨Tryd.f60, Tryd.func60, by kernel_rfl, by kernel_rfl⟩
theorem bd61 : BodyOk cx 61 := ⟨Tryd.f61, Tryd.func61, by kernel_rfl, by kernel_rfl⟩
theorem bd62 : BodyOk cx 62 := ⟨Tryd.f62, Tryd.func62, by kernel_rfl, by kernel_rfl⟩
theorem bd63 : BodyOk cx 63 := ⟨Tryd.f63, Tryd.func63, by kernel_rfl, by kernel_rfl⟩
theorem bd64 : BodyOk cx 64 := ⟨Tryd.f64, Tryd.func64, by kernel_rfl, by kernel_rfl⟩
theorem bd65 : BodyOk cx 65 := ⟨Tryd.f65, Tryd.func65, by kernel_rfl, by kernel_rfl⟩
theorem bd66 : BodyOk cx 66 := ⟨Tryd.f66, Tryd.func66, by kernel_rfl, by kernel_rfl⟩
theorem bd67 : BodyOk cx 67 := ⟨Tryd.f67, Tryd.func67, by kernel_rfl, by kernel_rfl⟩
theorem bd78 : BodyOk cx 78 := ⟨Tryd.f78, Tryd.func78, by kernel_rfl, by kernel_rfl⟩
theorem bd79 : BodyOk cx 79 := ⟨Tryd.f79, Tryd.func79, by kernel_rfl, by kernel_rfl⟩
theorem bd80 : BodyOk cx 80 := ⟨Tryd.f80, Tryd.func80, by kernel_rfl, by kernel_rfl⟩
theorem bd81 : BodyOk cx 81 := ⟨Tryd.f81, Tryd.func81, by kernel_rfl, by kernel_rfl⟩
theorem bds : AllOf (BodyOk cx) nums := ⟨bd3, bd4, bd5, bd6, bd7, bd8, bd9, bd10, bd11, bd12, bd14, bd15, bd16, bd17, bd18, bd19, bd20, bd21, bd22, bd23, bd24, bd27, bd28, bd29, bd30, bd31, bd32, bd36, bd37, bd38, bd39, bd40, bd41, bd43, bd44, bd45, bd46, bd47, bd48, bd49, bd50, bd51, bd52, bd55, bd56, bd57, bd58, bd59, bd60, bd61, bd62, bd63, bd64, bd65, bd66, bd67, bd78, bd79, bd80, bd81, trivial⟩
theorem ext_ok : ExtOk cx := by
  refine ext_table (l := []) rfl fun p hp => ?_
  cases hp
theorem prog_ok : ProgOk cx := ⟨by kernel_rfl, ext_ok, fm_ok2 rfl bds⟩
namespace R
def nums : List Nat := [4, 5, 6, 9, 10, 11, 12, 14, 15, 17, 18, 19, 20, 21, 22, 23, 24, 27, 28, 29, 30, 31, 36, 37, 38, 39, 40, 41, 43, 44, 45, 46, 47, 48, 55, 56, 57, 58, 59, 60, 61, 62, 78, 79]
noncomputable def cx : Cx := { P := Tryd.prog, fm := fmOf nums, gm := fun _ => none, ext := extOf [], bt := none }
def tree0 : Tr LF := (.node (.node (.node (.node (.node (.node .leaf (some (.code pf_item_Store_Drop)) .leaf) (some (.code pf_slot_Slot_do)) (.node (.node .leaf (some (.code pf_chain_Hash)) .leaf) (some (.code pf_pack_grown)) .leaf)) none (.node (.node .leaf (some (.code pf_pack_Reader_At)) .leaf) (some (.code pf_wire_role)) (.node .leaf (some (.code pf_item_Store_Peek)) .leaf))) none (.node (.node .leaf (some (.code pf_slot_Slot_Inc)) .leaf) (some (.code pf_wire_Right)) (.node (.node .leaf (some (.code pf_item_Store_gone)) .leaf) (some (.code pf_slot_Slot_stands)) (.node .leaf (some (.code pf_chain_Chain_Drop)) .leaf)))) none (.node (.node (.node .leaf (some (.code pf_slot_Slot_Wipe)) .leaf) (some (.code pf_depotlaw17_SlotRuns)) (.node (.node .leaf (some (.code pf_slab_Slab_Alloc)) .leaf) none (.node .leaf (some (.code pf_pack_Reader_fail)) .leaf))) (some (.code pf_slot_Slot_Take)) (.node (.node (.node .leaf (some (.code pf_pack_Read)) .leaf) (some (.code pf_chain_New)) .leaf) none (.node (.node .leaf (some (.code pf_chain_Chain_Put)) .leaf) (some (.code pf_slot_name)) (.node .leaf (some (.code pf_chain_Chain_bucket)) .leaf))))) none (.node (.node (.node (.node .leaf none (.node .leaf (some (.code pf_chain_Chain_Get)) .leaf)) none (.node (.node .leaf (some (.code pf_slab_Slab_Class)) .leaf) (some (.code pf_slot_Slot_clear)) (.node .leaf (some (.code pf_item_Store_out)) .leaf))) (some (.code pf_slot_New)) (.node (.node (.node .leaf (some (.code pf_item_Store_Get)) .leaf) (some (.code pf_slab_New)) .leaf) (some (.code pf_slot_Slot_reset)) (.node (.node .leaf (some (.code pf_item_Store_in)) .leaf) (some (.code pf_item_Store_Put)) (.node .leaf (some (.code pf_chain_Chain_step)) .leaf)))) none (.node (.node (.node .leaf (some (.code pf_slot_Slot_On)) .leaf) (some (.code pf_item_New)) (.node .leaf none (.node .leaf (some (.code pf_slab_Slab_Free)) .leaf))) (some (.code pf_depotlaw17_ask)) (.node (.node (.node .leaf (some (.code pf_pack_Reader_Num)) .leaf) (some (.code pf_wire_within)) .leaf) (some (.code pf_slot_Slot_Take_1)) (.node (.node (.node .leaf (some (.code pf_slab_Slab_Read)) .leaf) (some (.code pf_pack_num)) .leaf) (some (.code pf_pack_Num)) (.node .leaf (some (.code pf_chain_find)) .leaf))))))
theorem tr4 : trF cx Tryd.f4 = pf_slot_New := by kernel_rfl
theorem bd4 : BodyOk cx 4 := ⟨Tryd.f4, Tryd.func4, by kernel_rfl, by kernel_rfl⟩
theorem tr5 : trF cx Tryd.f5 = pf_slot_Slot_Take := by kernel_rfl
theorem bd5 : BodyOk cx 5 := ⟨Tryd.f5, Tryd.func5, by kernel_rfl, by kernel_rfl⟩
theorem tr6 : trF cx Tryd.f6 = pf_depotlaw17_ask := by kernel_rfl
theorem bd6 : BodyOk cx 6 := ⟨Tryd.f6, Tryd.func6, by kernel_rfl, by kernel_rfl⟩
theorem tr9 : trF cx Tryd.f9 = pf_depotlaw17_SlotRuns := by kernel_rfl
theorem bd9 : BodyOk cx 9 := ⟨Tryd.f9, Tryd.func9, by kernel_rfl, by kernel_rfl⟩
theorem tr10 : trF cx Tryd.f10 = pf_item_New := by kernel_rfl
theorem bd10 : BodyOk cx 10 := ⟨Tryd.f10, Tryd.func10, by kernel_rfl, by kernel_rfl⟩
theorem tr11 : trF cx Tryd.f11 = pf_wire_Right := by kernel_rfl
theorem bd11 : BodyOk cx 11 := ⟨Tryd.f11, Tryd.func11, by kernel_rfl, by kernel_rfl⟩
theorem tr12 : trF cx Tryd.f12 = pf_slot_Slot_reset := by kernel_rfl
theorem bd12 : BodyOk cx 12 := ⟨Tryd.f12, Tryd.func12, by kernel_rfl, by kernel_rfl⟩
theorem tr14 : trF cx Tryd.f14 = pf_slot_Slot_Take_1 := by kernel_rfl
theorem bd14 : BodyOk cx 14 := ⟨Tryd.f14, Tryd.func14, by kernel_rfl, by kernel_rfl⟩
theorem tr15 : trF cx Tryd.f15 = pf_slot_Slot_do := by kernel_rfl
theorem bd15 : BodyOk cx 15 := ⟨Tryd.f15, Tryd.func15, by kernel_rfl, by kernel_rfl⟩
theorem tr17 : trF cx Tryd.f17 = pf_slot_Slot_Wipe := by kernel_rfl
theorem bd17 : BodyOk cx 17 := ⟨Tryd.f17, Tryd.func17, by kernel_rfl, by kernel_rfl⟩
theorem tr18 : trF cx Tryd.f18 = pf_slot_Slot_On := by kernel_rfl
theorem bd18 : BodyOk cx 18 := ⟨Tryd.f18, Tryd.func18, by kernel_rfl, by kernel_rfl⟩
theorem tr19 : trF cx Tryd.f19 = pf_slot_Slot_Inc := by kernel_rfl
theorem bd19 : BodyOk cx 19 := ⟨Tryd.f19, Tryd.func19, by kernel_rfl, by kernel_rfl⟩
theorem tr20 : trF cx Tryd.f20 = pf_slab_New := by kernel_rfl
theorem bd20 : BodyOk cx 20 := ⟨Tryd.f20, Tryd.func20, by kernel_rfl, by kernel_rfl⟩
theorem tr21 : trF cx Tryd.f21 = pf_chain_New := by kernel_rfl
theorem bd21 : BodyOk cx 21 := ⟨Tryd.f21, Tryd.func21, by kernel_rfl, by kernel_rfl⟩
theorem tr22 : trF cx Tryd.f22 = pf_wire_within := by kernel_rfl
theorem bd22 : BodyOk cx 22 := ⟨Tryd.f22, Tryd.func22, by kernel_rfl, by kernel_rfl⟩
theorem tr23 : trF cx Tryd.f23 = pf_wire_role := by kernel_rfl
theorem bd23 : BodyOk cx 23 := ⟨Tryd.f23, Tryd.func23, by kernel_rfl, by kernel_rfl⟩
theorem tr24 : trF cx Tryd.f24 = pf_slot_Slot_clear := by kernel_rfl
theorem bd24 : BodyOk cx 24 := ⟨Tryd.f24, Tryd.func24, by kernel_rfl, by kernel_rfl⟩
theorem tr27 : trF cx Tryd.f27 = pf_slot_Slot_stands := by kernel_rfl
theorem bd27 : BodyOk cx 27 := ⟨Tryd.f27, Tryd.func27, by kernel_rfl, by kernel_rfl⟩
theorem tr28 : trF cx Tryd.f28 = pf_item_Store_Put := by kernel_rfl
theorem bd28 : BodyOk cx 28 := ⟨Tryd.f28, Tryd.func28, by kernel_rfl, by kernel_rfl⟩
theorem tr29 : trF cx Tryd.f29 = pf_slot_name := by kernel_rfl
theorem bd29 : BodyOk cx 29 := ⟨Tryd.f29, Tryd.func29, by kernel_rfl, by kernel_rfl⟩
theorem tr30 : trF cx Tryd.f30 = pf_pack_Num := by kernel_rfl
theorem bd30 : BodyOk cx 30 := ⟨Tryd.f30, Tryd.func30, by kernel_rfl, by kernel_rfl⟩
theorem tr31 : trF cx Tryd.f31 = pf_item_Store_Drop := by kernel_rfl
theorem bd31 : BodyOk cx 31 := ⟨Tryd.f31, Tryd.func31, by kernel_rfl, by kernel_rfl⟩
theorem tr36 : trF cx Tryd.f36 = pf_item_Store_Get := by kernel_rfl
theorem bd36 : BodyOk cx 36 := ⟨Tryd.f36, Tryd.func36, by kernel_rfl, by kernel_rfl⟩
theorem tr37 : trF cx Tryd.f37 = pf_pack_Read := by kernel_rfl
theorem bd37 : BodyOk cx 37 := ⟨Tryd.f37, Tryd.func37, by kernel_rfl, by kernel_rfl⟩
theorem tr38 : trF cx Tryd.f38 = pf_pack_Reader_Num := by kernel_rfl
theorem bd38 : BodyOk cx 38 := ⟨Tryd.f38, Tryd.func38, by kernel_rfl, by kernel_rfl⟩
theorem tr39 : trF cx Tryd.f39 = pf_pack_Reader_At := by kernel_rfl
theorem bd39 : BodyOk cx 39 := ⟨Tryd.f39, Tryd.func39, by kernel_rfl, by kernel_rfl⟩
theorem tr40 : trF cx Tryd.f40 = pf_slab_Slab_Class := by kernel_rfl
theorem bd40 : BodyOk cx 40 := ⟨Tryd.f40, Tryd.func40, by kernel_rfl, by kernel_rfl⟩
theorem tr41 : trF cx Tryd.f41 = pf_slab_Slab_Alloc := by kernel_rfl
theorem bd41 : BodyOk cx 41 := ⟨Tryd.f41, Tryd.func41, by kernel_rfl, by kernel_rfl⟩
theorem tr43 : trF cx Tryd.f43 = pf_item_Store_gone := by kernel_rfl
theorem bd43 : BodyOk cx 43 := ⟨Tryd.f43, Tryd.func43, by kernel_rfl, by kernel_rfl⟩
theorem tr44 : trF cx Tryd.f44 = pf_item_Store_in := by kernel_rfl
theorem bd44 : BodyOk cx 44 := ⟨Tryd.f44, Tryd.func44, by kernel_rfl, by kernel_rfl⟩
theorem tr45 : trF cx Tryd.f45 = pf_chain_Chain_Put := by kernel_rfl
theorem bd45 : BodyOk cx 45 := ⟨Tryd.f45, Tryd.func45, by kernel_rfl, by kernel_rfl⟩
theorem tr46 : trF cx Tryd.f46 = pf_pack_num := by kernel_rfl
theorem bd46 : BodyOk cx 46 := ⟨Tryd.f46, Tryd.func46, by kernel_rfl, by kernel_rfl⟩
theorem tr47 : trF cx Tryd.f47 = pf_pack_grown := by kernel_rfl
theorem bd47 : BodyOk cx 47 := ⟨Tryd.f47, Tryd.func47, by kernel_rfl, by kernel_rfl⟩
theorem tr48 : trF cx Tryd.f48 = pf_chain_Chain_Get := by kernel_rfl
theorem bd48 : BodyOk cx 48 := ⟨Tryd.f48, Tryd.func48, by kernel_rfl, by kernel_rfl⟩
theorem tr55 : trF cx Tryd.f55 = pf_item_Store_Peek := by kernel_rfl
theorem bd55 : BodyOk cx 55 := ⟨Tryd.f55, Tryd.func55, by kernel_rfl, by kernel_rfl⟩
theorem tr56 : trF cx Tryd.f56 = pf_item_Store_out := by kernel_rfl
theorem bd56 : BodyOk cx 56 := ⟨Tryd.f56, Tryd.func56, by kernel_rfl, by kernel_rfl⟩
theorem tr57 : trF cx Tryd.f57 = pf_pack_Reader_fail := by kernel_rfl
theorem bd57 : BodyOk cx 57 := ⟨Tryd.f57, Tryd.func57, by kernel_rfl, by kernel_rfl⟩
theorem tr58 : trF cx Tryd.f58 = pf_slab_Slab_Free := by kernel_rfl
theorem bd58 : BodyOk cx 58 := ⟨Tryd.f58, Tryd.func58, by kernel_rfl, by kernel_rfl⟩
theorem tr59 : trF cx Tryd.f59 = pf_chain_Chain_Drop := by kernel_rfl
theorem bd59 : BodyOk cx 59 := ⟨Tryd.f59, Tryd.func59, by kernel_rfl, by kernel_rfl⟩
theorem tr60 : trF cx Tryd.f60 = pf_chain_Chain_step := by kernel_rfl
theorem bd60 : BodyOk cx 60 := ⟨Tryd.f60, Tryd.func60, by kernel_rfl, by kernel_rfl⟩
theorem tr61 : trF cx Tryd.f61 = pf_chain_Chain_bucket := by kernel_rfl
theorem bd61 : BodyOk cx 61 := ⟨Tryd.f61, Tryd.func61, by kernel_rfl, by kernel_rfl⟩
theorem tr62 : trF cx Tryd.f62 = pf_chain_find := by kernel_rfl
theorem bd62 : BodyOk cx 62 := ⟨Tryd.f62, Tryd.func62, by kernel_rfl, by kernel_rfl⟩
theorem tr78 : trF cx Tryd.f78 = pf_slab_Slab_Read := by kernel_rfl
theorem bd78 : BodyOk cx 78 := ⟨Tryd.f78, Tryd.func78, by kernel_rfl, by kernel_rfl⟩
theorem tr79 : trF cx Tryd.f79 = pf_chain_Hash := by kernel_rfl
theorem bd79 : BodyOk cx 79 := ⟨Tryd.f79, Tryd.func79, by kernel_rfl, by kernel_rfl⟩
theorem bds : AllOf (BodyOk cx) nums := ⟨bd4, bd5, bd6, bd9, bd10, bd11, bd12, bd14, bd15, bd17, bd18, bd19, bd20, bd21, bd22, bd23, bd24, bd27, bd28, bd29, bd30, bd31, bd36, bd37, bd38, bd39, bd40, bd41, bd43, bd44, bd45, bd46, bd47, bd48, bd55, bd56, bd57, bd58, bd59, bd60, bd61, bd62, bd78, bd79, trivial⟩
theorem ext_ok : ExtOk cx := by
  refine ext_table (l := []) rfl fun p hp => ?_
  cases hp
theorem prog_ok : ProgOk cx := ⟨by kernel_rfl, ext_ok, fm_ok2 rfl bds⟩
theorem ok4 : EntOk cx tree0.get 4 := .inl ⟨Tryd.f4, Tryd.func4, by rw [tr4]; kernel_rfl⟩
theorem ok5 : EntOk cx tree0.get 5 := .inl ⟨Tryd.f5, Tryd.func5, by rw [tr5]; kernel_rfl⟩
theorem ok6 : EntOk cx tree0.get 6 := .inl ⟨Tryd.f6, Tryd.func6, by rw [tr6]; kernel_rfl⟩
theorem ok9 : EntOk cx tree0.get 9 := .inl ⟨Tryd.f9, Tryd.func9, by rw [tr9]; kernel_rfl⟩
theorem ok10 : EntOk cx tree0.get 10 := .inl ⟨Tryd.f10, Tryd.func10, by rw [tr10]; kernel_rfl⟩
theorem ok11 : EntOk cx tree0.get 11 := .inl ⟨Tryd.f11, Tryd.func11, by rw [tr11]; kernel_rfl⟩
theorem ok12 : EntOk cx tree0.get 12 := .inl ⟨Tryd.f12, Tryd.func12, by rw [tr12]; kernel_rfl⟩
theorem ok14 : EntOk cx tree0.get 14 := .inl ⟨Tryd.f14, Tryd.func14, by rw [tr14]; kernel_rfl⟩
theorem ok15 : EntOk cx tree0.get 15 := .inl ⟨Tryd.f15, Tryd.func15, by rw [tr15]; kernel_rfl⟩
theorem ok17 : EntOk cx tree0.get 17 := .inl ⟨Tryd.f17, Tryd.func17, by rw [tr17]; kernel_rfl⟩
theorem ok18 : EntOk cx tree0.get 18 := .inl ⟨Tryd.f18, Tryd.func18, by rw [tr18]; kernel_rfl⟩
theorem ok19 : EntOk cx tree0.get 19 := .inl ⟨Tryd.f19, Tryd.func19, by rw [tr19]; kernel_rfl⟩
theorem ok20 : EntOk cx tree0.get 20 := .inl ⟨Tryd.f20, Tryd.func20, by rw [tr20]; kernel_rfl⟩
theorem ok21 : EntOk cx tree0.get 21 := .inl ⟨Tryd.f21, Tryd.func21, by rw [tr21]; kernel_rfl⟩
theorem ok22 : EntOk cx tree0.get 22 := .inl ⟨Tryd.f22, Tryd.func22, by rw [tr22]; kernel_rfl⟩
theorem ok23 : EntOk cx tree0.get 23 := .inl ⟨Tryd.f23, Tryd.func23, by rw [tr23]; kernel_rfl⟩
theorem ok24 : EntOk cx tree0.get 24 := .inl ⟨Tryd.f24, Tryd.func24, by rw [tr24]; kernel_rfl⟩
theorem ok27 : EntOk cx tree0.get 27 := .inl ⟨Tryd.f27, Tryd.func27, by rw [tr27]; kernel_rfl⟩
theorem ok28 : EntOk cx tree0.get 28 := .inl ⟨Tryd.f28, Tryd.func28, by rw [tr28]; kernel_rfl⟩
theorem ok29 : EntOk cx tree0.get 29 := .inl ⟨Tryd.f29, Tryd.func29, by rw [tr29]; kernel_rfl⟩
theorem ok30 : EntOk cx tree0.get 30 := .inl ⟨Tryd.f30, Tryd.func30, by rw [tr30]; kernel_rfl⟩
theorem ok31 : EntOk cx tree0.get 31 := .inl ⟨Tryd.f31, Tryd.func31, by rw [tr31]; kernel_rfl⟩
theorem ok36 : EntOk cx tree0.get 36 := .inl ⟨Tryd.f36, Tryd.func36, by rw [tr36]; kernel_rfl⟩
theorem ok37 : EntOk cx tree0.get 37 := .inl ⟨Tryd.f37, Tryd.func37, by rw [tr37]; kernel_rfl⟩
theorem ok38 : EntOk cx tree0.get 38 := .inl ⟨Tryd.f38, Tryd.func38, by rw [tr38]; kernel_rfl⟩
theorem ok39 : EntOk cx tree0.get 39 := .inl ⟨Tryd.f39, Tryd.func39, by rw [tr39]; kernel_rfl⟩
theorem ok40 : EntOk cx tree0.get 40 := .inl ⟨Tryd.f40, Tryd.func40, by rw [tr40]; kernel_rfl⟩
theorem ok41 : EntOk cx tree0.get 41 := .inl ⟨Tryd.f41, Tryd.func41, by rw [tr41]; kernel_rfl⟩
theorem ok43 : EntOk cx tree0.get 43 := .inl ⟨Tryd.f43, Tryd.func43, by rw [tr43]; kernel_rfl⟩
theorem ok44 : EntOk cx tree0.get 44 := .inl ⟨Tryd.f44, Tryd.func44, by rw [tr44]; kernel_rfl⟩
theorem ok45 : EntOk cx tree0.get 45 := .inl ⟨Tryd.f45, Tryd.func45, by rw [tr45]; kernel_rfl⟩
theorem ok46 : EntOk cx tree0.get 46 := .inl ⟨Tryd.f46, Tryd.func46, by rw [tr46]; kernel_rfl⟩
theorem ok47 : EntOk cx tree0.get 47 := .inl ⟨Tryd.f47, Tryd.func47, by rw [tr47]; kernel_rfl⟩
theorem ok48 : EntOk cx tree0.get 48 := .inl ⟨Tryd.f48, Tryd.func48, by rw [tr48]; kernel_rfl⟩
theorem ok55 : EntOk cx tree0.get 55 := .inl ⟨Tryd.f55, Tryd.func55, by rw [tr55]; kernel_rfl⟩
theorem ok56 : EntOk cx tree0.get 56 := .inl ⟨Tryd.f56, Tryd.func56, by rw [tr56]; kernel_rfl⟩
theorem ok57 : EntOk cx tree0.get 57 := .inl ⟨Tryd.f57, Tryd.func57, by rw [tr57]; kernel_rfl⟩
theorem ok58 : EntOk cx tree0.get 58 := .inl ⟨Tryd.f58, Tryd.func58, by rw [tr58]; kernel_rfl⟩
theorem ok59 : EntOk cx tree0.get 59 := .inl ⟨Tryd.f59, Tryd.func59, by rw [tr59]; kernel_rfl⟩
theorem ok60 : EntOk cx tree0.get 60 := .inl ⟨Tryd.f60, Tryd.func60, by rw [tr60]; kernel_rfl⟩
theorem ok61 : EntOk cx tree0.get 61 := .inl ⟨Tryd.f61, Tryd.func61, by rw [tr61]; kernel_rfl⟩
theorem ok62 : EntOk cx tree0.get 62 := .inl ⟨Tryd.f62, Tryd.func62, by rw [tr62]; kernel_rfl⟩
theorem ok78 : EntOk cx tree0.get 78 := .inl ⟨Tryd.f78, Tryd.func78, by rw [tr78]; kernel_rfl⟩
theorem ok79 : EntOk cx tree0.get 79 := .inl ⟨Tryd.f79, Tryd.func79, by rw [tr79]; kernel_rfl⟩
theorem oks : AllOf (EntOk cx tree0.get) nums := ⟨ok4, ok5, ok6, ok9, ok10, ok11, ok12, ok14, ok15, ok17, ok18, ok19, ok20, ok21, ok22, ok23, ok24, ok27, ok28, ok29, ok30, ok31, ok36, ok37, ok38, ok39, ok40, ok41, ok43, ok44, ok45, ok46, ok47, ok48, ok55, ok56, ok57, ok58, ok59, ok60, ok61, ok62, ok78, ok79, trivial⟩
theorem lib_ok0 : LibOk cx tree0.get := lib_ok2 rfl oks
theorem run_depotlaw17_SlotRuns : isTrue (call tree0.get 900 9 [] noHeap) = true := by decide +kernel
theorem walk_depotlaw17_SlotRuns (w : World) : Calls cx.P 9 #[] w fun e w' => e = .returned (.bool true) ∧ Go.RowKit.Below w.heap.size w w' :=
  run_closed prog_ok lib_ok0 (fun _ => rfl) (g := 9) (f := 9) rfl run_depotlaw17_SlotRuns w
end R
def lib : Lib := fun f => bif Nat.beq f 9 then some (.prim runsPrim) else tree0.get f
theorem lk3 : EntOk cx lib 3 := .inl ⟨Tryd.f3, Tryd.func3, by rw [tr_depotlaw17_SlotVersions]; kernel_rfl⟩
theorem at_depotlaw17_SlotVersions : lib n_depotlaw17_SlotVersions = some (.code pf_depotlaw17_SlotVersions) := by kernel_rfl
theorem lk4 : EntOk cx lib 4 := .inl ⟨Tryd.f4, Tryd.func4, by rw [tr_slot_New]; kernel_rfl⟩
theorem at_slot_New : lib n_slot_New = some (.code pf_slot_New) := by kernel_rfl
theorem lk5 : EntOk cx lib 5 := .inl ⟨Tryd.f5, Tryd.func5, by rw [tr_slot_Slot_Take]; kernel_rfl⟩
theorem at_slot_Slot_Take : lib n_slot_Slot_Take = some (.code pf_slot_Slot_Take) := by kernel_rfl
theorem lk6 : EntOk cx lib 6 := .inl ⟨Tryd.f6, Tryd.func6, by rw [tr_depotlaw17_ask]; kernel_rfl⟩
theorem at_depotlaw17_ask : lib n_depotlaw17_ask = some (.code pf_depotlaw17_ask) := by kernel_rfl
theorem lk7 : EntOk cx lib 7 := .inl ⟨Tryd.f7, Tryd.func7, by rw [tr_depotbook_Within]; kernel_rfl⟩
theorem at_depotbook_Within : lib n_depotbook_Within = some (.code pf_depotbook_Within) := by kernel_rfl
theorem lk8 : EntOk cx lib 8 := .inl ⟨Tryd.f8, Tryd.func8, by rw [tr_strconv_Itoa]; kernel_rfl⟩
theorem at_strconv_Itoa : lib n_strconv_Itoa = some (.code pf_strconv_Itoa) := by kernel_rfl
theorem lk9 : EntOk cx lib 9 := ent_runs (fun w => R.walk_depotlaw17_SlotRuns w) rfl
theorem lk10 : EntOk cx lib 10 := .inl ⟨Tryd.f10, Tryd.func10, by rw [tr_item_New]; kernel_rfl⟩
theorem at_item_New : lib n_item_New = some (.code pf_item_New) := by kernel_rfl
theorem lk11 : EntOk cx lib 11 := .inl ⟨Tryd.f11, Tryd.func11, by rw [tr_wire_Right]; kernel_rfl⟩
theorem at_wire_Right : lib n_wire_Right = some (.code pf_wire_Right) := by kernel_rfl
theorem lk12 : EntOk cx lib 12 := .inl ⟨Tryd.f12, Tryd.func12, by rw [tr_slot_Slot_reset]; kernel_rfl⟩
theorem at_slot_Slot_reset : lib n_slot_Slot_reset = some (.code pf_slot_Slot_reset) := by kernel_rfl
theorem lk14 : EntOk cx lib 14 := .inl ⟨Tryd.f14, Tryd.func14, by rw [tr_slot_Slot_Take_1]; kernel_rfl⟩
theorem at_slot_Slot_Take_1 : lib n_slot_Slot_Take_1 = some (.code pf_slot_Slot_Take_1) := by kernel_rfl
theorem lk15 : EntOk cx lib 15 := .inl ⟨Tryd.f15, Tryd.func15, by rw [tr_slot_Slot_do]; kernel_rfl⟩
theorem at_slot_Slot_do : lib n_slot_Slot_do = some (.code pf_slot_Slot_do) := by kernel_rfl
theorem lk16 : EntOk cx lib 16 := .inl ⟨Tryd.f16, Tryd.func16, by rw [tr_internal_strconv_Itoa]; kernel_rfl⟩
theorem at_internal_strconv_Itoa : lib n_internal_strconv_Itoa = some (.code pf_internal_strconv_Itoa) := by kernel_rfl
theorem lk17 : EntOk cx lib 17 := .inl ⟨Tryd.f17, Tryd.func17, by rw [tr_slot_Slot_Wipe]; kernel_rfl⟩
theorem at_slot_Slot_Wipe : lib n_slot_Slot_Wipe = some (.code pf_slot_Slot_Wipe) := by kernel_rfl
theorem lk18 : EntOk cx lib 18 := .inl ⟨Tryd.f18, Tryd.func18, by rw [tr_slot_Slot_On]; kernel_rfl⟩
theorem at_slot_Slot_On : lib n_slot_Slot_On = some (.code pf_slot_Slot_On) := by kernel_rfl
theorem lk19 : EntOk cx lib 19 := .inl ⟨Tryd.f19, Tryd.func19, by rw [tr_slot_Slot_Inc]; kernel_rfl⟩
theorem at_slot_Slot_Inc : lib n_slot_Slot_Inc = some (.code pf_slot_Slot_Inc) := by kernel_rfl
theorem lk20 : EntOk cx lib 20 := .inl ⟨Tryd.f20, Tryd.func20, by rw [tr_slab_New]; kernel_rfl⟩
theorem at_slab_New : lib n_slab_New = some (.code pf_slab_New) := by kernel_rfl
theorem lk21 : EntOk cx lib 21 := .inl ⟨Tryd.f21, Tryd.func21, by rw [tr_chain_New]; kernel_rfl⟩
theorem at_chain_New : lib n_chain_New = some (.code pf_chain_New) := by kernel_rfl
theorem lk22 : EntOk cx lib 22 := .inl ⟨Tryd.f22, Tryd.func22, by rw [tr_wire_within]; kernel_rfl⟩
theorem at_wire_within : lib n_wire_within = some (.code pf_wire_within) := by kernel_rfl
theorem lk23 : EntOk cx lib 23 := .inl ⟨Tryd.f23, Tryd.func23, by rw [tr_wire_role]; kernel_rfl⟩
theorem at_wire_role : lib n_wire_role = some (.code pf_wire_role) := by kernel_rfl
theorem lk24 : EntOk cx lib 24 := .inl ⟨Tryd.f24, Tryd.func24, by rw [tr_slot_Slot_clear]; kernel_rfl⟩
theorem at_slot_Slot_clear : lib n_slot_Slot_clear = some (.code pf_slot_Slot_clear) := by kernel_rfl
theorem lk27 : EntOk cx lib 27 := .inl ⟨Tryd.f27, Tryd.func27, by rw [tr_slot_Slot_stands]; kernel_rfl⟩
theorem at_slot_Slot_stands : lib n_slot_Slot_stands = some (.code pf_slot_Slot_stands) := by kernel_rfl
theorem lk28 : EntOk cx lib 28 := .inl ⟨Tryd.f28, Tryd.func28, by rw [tr_item_Store_Put]; kernel_rfl⟩
theorem at_item_Store_Put : lib n_item_Store_Put = some (.code pf_item_Store_Put) := by kernel_rfl
theorem lk29 : EntOk cx lib 29 := .inl ⟨Tryd.f29, Tryd.func29, by rw [tr_slot_name]; kernel_rfl⟩
theorem at_slot_name : lib n_slot_name = some (.code pf_slot_name) := by kernel_rfl
theorem lk30 : EntOk cx lib 30 := .inl ⟨Tryd.f30, Tryd.func30, by rw [tr_pack_Num]; kernel_rfl⟩
theorem at_pack_Num : lib n_pack_Num = some (.code pf_pack_Num) := by kernel_rfl
theorem lk31 : EntOk cx lib 31 := .inl ⟨Tryd.f31, Tryd.func31, by rw [tr_item_Store_Drop]; kernel_rfl⟩
theorem at_item_Store_Drop : lib n_item_Store_Drop = some (.code pf_item_Store_Drop) := by kernel_rfl
theorem lk32 : EntOk cx lib 32 := .inl ⟨Tryd.f32, Tryd.func32, by rw [tr_internal_strconv_FormatInt]; kernel_rfl⟩
theorem at_internal_strconv_FormatInt : lib n_internal_strconv_FormatInt = some (.code pf_internal_strconv_FormatInt) := by kernel_rfl
theorem lk36 : EntOk cx lib 36 := .inl ⟨Tryd.f36, Tryd.func36, by rw [tr_item_Store_Get]; kernel_rfl⟩
theorem at_item_Store_Get : lib n_item_Store_Get = some (.code pf_item_Store_Get) := by kernel_rfl
theorem lk37 : EntOk cx lib 37 := .inl ⟨Tryd.f37, Tryd.func37, by rw [tr_pack_Read]; kernel_rfl⟩
theorem at_pack_Read : lib n_pack_Read = some (.code pf_pack_Read) := by kernel_rfl
theorem lk38 : EntOk cx lib 38 := .inl ⟨Tryd.f38, Tryd.func38, by rw [tr_pack_Reader_Num]; kernel_rfl⟩
theorem at_pack_Reader_Num : lib n_pack_Reader_Num = some (.code pf_pack_Reader_Num) := by kernel_rfl
theorem lk39 : EntOk cx lib 39 := .inl ⟨Tryd.f39, Tryd.func39, by rw [tr_pack_Reader_At]; kernel_rfl⟩
theorem at_pack_Reader_At : lib n_pack_Reader_At = some (.code pf_pack_Reader_At) := by kernel_rfl
theorem lk40 : EntOk cx lib 40 := .inl ⟨Tryd.f40, Tryd.func40, by rw [tr_slab_Slab_Class]; kernel_rfl⟩
theorem at_slab_Slab_Class : lib n_slab_Slab_Class = some (.code pf_slab_Slab_Class) := by kernel_rfl
theorem lk41 : EntOk cx lib 41 := .inl ⟨Tryd.f41, Tryd.func41, by rw [tr_slab_Slab_Alloc]; kernel_rfl⟩
theorem at_slab_Slab_Alloc : lib n_slab_Slab_Alloc = some (.code pf_slab_Slab_Alloc) := by kernel_rfl
theorem lk43 : EntOk cx lib 43 := .inl ⟨Tryd.f43, Tryd.func43, by rw [tr_item_Store_gone]; kernel_rfl⟩
theorem at_item_Store_gone : lib n_item_Store_gone = some (.code pf_item_Store_gone) := by kernel_rfl
theorem lk44 : EntOk cx lib 44 := .inl ⟨Tryd.f44, Tryd.func44, by rw [tr_item_Store_in]; kernel_rfl⟩
theorem at_item_Store_in : lib n_item_Store_in = some (.code pf_item_Store_in) := by kernel_rfl
theorem lk45 : EntOk cx lib 45 := .inl ⟨Tryd.f45, Tryd.func45, by rw [tr_chain_Chain_Put]; kernel_rfl⟩
theorem at_chain_Chain_Put : lib n_chain_Chain_Put = some (.code pf_chain_Chain_Put) := by kernel_rfl
theorem lk46 : EntOk cx lib 46 := .inl ⟨Tryd.f46, Tryd.func46, by rw [tr_pack_num]; kernel_rfl⟩
theorem at_pack_num : lib n_pack_num = some (.code pf_pack_num) := by kernel_rfl
theorem lk47 : EntOk cx lib 47 := .inl ⟨Tryd.f47, Tryd.func47, by rw [tr_pack_grown]; kernel_rfl⟩
theorem at_pack_grown : lib n_pack_grown = some (.code pf_pack_grown) := by kernel_rfl
theorem lk48 : EntOk cx lib 48 := .inl ⟨Tryd.f48, Tryd.func48, by rw [tr_chain_Chain_Get]; kernel_rfl⟩
theorem at_chain_Chain_Get : lib n_chain_Chain_Get = some (.code pf_chain_Chain_Get) := by kernel_rfl
theorem lk49 : EntOk cx lib 49 := .inl ⟨Tryd.f49, Tryd.func49, by rw [tr_internal_strconv_small]; kernel_rfl⟩
theorem at_internal_strconv_small : lib n_internal_strconv_small = some (.code pf_internal_strconv_small) := by kernel_rfl
theorem lk50 : EntOk cx lib 50 := .inl ⟨Tryd.f50, Tryd.func50, by rw [tr_internal_strconv_numDigits]; kernel_rfl⟩
theorem at_internal_strconv_numDigits : lib n_internal_strconv_numDigits = some (.code pf_internal_strconv_numDigits) := by kernel_rfl
theorem lk51 : EntOk cx lib 51 := .inl ⟨Tryd.f51, Tryd.func51, by rw [tr_internal_strconv_formatBase10]; kernel_rfl⟩
theorem at_internal_strconv_formatBase10 : lib n_internal_strconv_formatBase10 = some (.code pf_internal_strconv_formatBase10) := by kernel_rfl
theorem lk52 : EntOk cx lib 52 := .inl ⟨Tryd.f52, Tryd.func52, by rw [tr_internal_strconv_formatBits]; kernel_rfl⟩
theorem at_internal_strconv_formatBits : lib n_internal_strconv_formatBits = some (.code pf_internal_strconv_formatBits) := by kernel_rfl
theorem lk55 : EntOk cx lib 55 := .inl ⟨Tryd.f55, Tryd.func55, by rw [tr_item_Store_Peek]; kernel_rfl⟩
theorem at_item_Store_Peek : lib n_item_Store_Peek = some (.code pf_item_Store_Peek) := by kernel_rfl
theorem lk56 : EntOk cx lib 56 := .inl ⟨Tryd.f56, Tryd.func56, by rw [tr_item_Store_out]; kernel_rfl⟩
theorem at_item_Store_out : lib n_item_Store_out = some (.code pf_item_Store_out) := by kernel_rfl
theorem lk57 : EntOk cx lib 57 := .inl ⟨Tryd.f57, Tryd.func57, by rw [tr_pack_Reader_fail]; kernel_rfl⟩
theorem at_pack_Reader_fail : lib n_pack_Reader_fail = some (.code pf_pack_Reader_fail) := by kernel_rfl
theorem lk58 : EntOk cx lib 58 := .inl ⟨Tryd.f58, Tryd.func58, by rw [tr_slab_Slab_Free]; kernel_rfl⟩
theorem at_slab_Slab_Free : lib n_slab_Slab_Free = some (.code pf_slab_Slab_Free) := by kernel_rfl
theorem lk59 : EntOk cx lib 59 := .inl ⟨Tryd.f59, Tryd.func59, by rw [tr_chain_Chain_Drop]; kernel_rfl⟩
theorem at_chain_Chain_Drop : lib n_chain_Chain_Drop = some (.code pf_chain_Chain_Drop) := by kernel_rfl
theorem lk60 : EntOk cx lib 60 := .inl ⟨Tryd.f60, Tryd.func60, by rw [tr_chain_Chain_step]; kernel_rfl⟩
theorem at_chain_Chain_step : lib n_chain_Chain_step = some (.code pf_chain_Chain_step) := by kernel_rfl
theorem lk61 : EntOk cx lib 61 := .inl ⟨Tryd.f61, Tryd.func61, by rw [tr_chain_Chain_bucket]; kernel_rfl⟩
theorem at_chain_Chain_bucket : lib n_chain_Chain_bucket = some (.code pf_chain_Chain_bucket) := by kernel_rfl
theorem lk62 : EntOk cx lib 62 := .inl ⟨Tryd.f62, Tryd.func62, by rw [tr_chain_find]; kernel_rfl⟩
theorem at_chain_find : lib n_chain_find = some (.code pf_chain_find) := by kernel_rfl
theorem lk63 : EntOk cx lib 63 := .inl ⟨Tryd.f63, Tryd.func63, by rw [tr_internal_strconv_log10Pow2]; kernel_rfl⟩
theorem at_internal_strconv_log10Pow2 : lib n_internal_strconv_log10Pow2 = some (.code pf_internal_strconv_log10Pow2) := by kernel_rfl
theorem lk64 : EntOk cx lib 64 := .inl ⟨Tryd.f64, Tryd.func64, by rw [tr_math_bits_Len64]; kernel_rfl⟩
theorem at_math_bits_Len64 : lib n_math_bits_Len64 = some (.code pf_math_bits_Len64) := by kernel_rfl
theorem lk65 : EntOk cx lib 65 := .inl ⟨Tryd.f65, Tryd.func65, by rw [tr_internal_strconv_bool2_int]; kernel_rfl⟩
theorem at_internal_strconv_bool2_int : lib n_internal_strconv_bool2_int = some (.code pf_internal_strconv_bool2_int) := by kernel_rfl
theorem lk66 : EntOk cx lib 66 := .inl ⟨Tryd.f66, Tryd.func66, by rw [tr_internal_strconv_isPowerOfTwo]; kernel_rfl⟩
theorem at_internal_strconv_isPowerOfTwo : lib n_internal_strconv_isPowerOfTwo = some (.code pf_internal_strconv_isPowerOfTwo) := by kernel_rfl
theorem lk67 : EntOk cx lib 67 := .inl ⟨Tryd.f67, Tryd.func67, by rw [tr_math_bits_TrailingZeros]; kernel_rfl⟩
theorem at_math_bits_TrailingZeros : lib n_math_bits_TrailingZeros = some (.code pf_math_bits_TrailingZeros) := by kernel_rfl
theorem lk78 : EntOk cx lib 78 := .inl ⟨Tryd.f78, Tryd.func78, by rw [tr_slab_Slab_Read]; kernel_rfl⟩
theorem at_slab_Slab_Read : lib n_slab_Slab_Read = some (.code pf_slab_Slab_Read) := by kernel_rfl
theorem lk79 : EntOk cx lib 79 := .inl ⟨Tryd.f79, Tryd.func79, by rw [tr_chain_Hash]; kernel_rfl⟩
theorem at_chain_Hash : lib n_chain_Hash = some (.code pf_chain_Hash) := by kernel_rfl
theorem lk80 : EntOk cx lib 80 := .inl ⟨Tryd.f80, Tryd.func80, by rw [tr_math_bits_TrailingZeros32]; kernel_rfl⟩
theorem at_math_bits_TrailingZeros32 : lib n_math_bits_TrailingZeros32 = some (.code pf_math_bits_TrailingZeros32) := by kernel_rfl
theorem lk81 : EntOk cx lib 81 := .inl ⟨Tryd.f81, Tryd.func81, by rw [tr_math_bits_TrailingZeros64]; kernel_rfl⟩
theorem at_math_bits_TrailingZeros64 : lib n_math_bits_TrailingZeros64 = some (.code pf_math_bits_TrailingZeros64) := by kernel_rfl
theorem lks : AllOf (EntOk cx lib) nums := ⟨lk3, lk4, lk5, lk6, lk7, lk8, lk9, lk10, lk11, lk12, lk14, lk15, lk16, lk17, lk18, lk19, lk20, lk21, lk22, lk23, lk24, lk27, lk28, lk29, lk30, lk31, lk32, lk36, lk37, lk38, lk39, lk40, lk41, lk43, lk44, lk45, lk46, lk47, lk48, lk49, lk50, lk51, lk52, lk55, lk56, lk57, lk58, lk59, lk60, lk61, lk62, lk63, lk64, lk65, lk66, lk67, lk78, lk79, lk80, lk81, trivial⟩
theorem lib_ok : LibOk cx lib := lib_ok2 rfl lks
-- roots [3, 9]
end Go.Proofs.YtihoblfmhighpaaDoor
