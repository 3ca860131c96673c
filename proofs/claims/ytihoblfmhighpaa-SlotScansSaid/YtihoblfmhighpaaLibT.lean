/- The functions that this seat's laws reach, for the clean machine; each is what the translation makes of the given text. Conditions: none. Printed by program. -/
import Derived.Test.YtihoblfmhighpaaLibTA
import Derived.Test.YtihoblfmhighpaaLibTB
namespace Go.Proofs.Ytihoblfmhighpaa
open Go.Dp
def tree0 : Tr LF := (.node (.node (.node (.node (.node (.node (.node .leaf (some (.code pf_chain_Chain_step)) .leaf) (some (.code pf_pack_Reader_fail)) .leaf) none (.node (.node .leaf (some (.code pf_slices_siftDownOrdered_string)) .leaf) (some (.code pf_pack_Text)) .leaf)) (some (.code pf_slot_New)) (.node (.node (.node .leaf (some (.code pf_slices_partialInsertionSortOrdered_string)) .leaf) (some (.code pf_item_Store_Put)) .leaf) (some (.code pf_slot_Slot_reset)) (.node .leaf (some (.code pf_pack_num)) .leaf))) (some (.code pf_depotlaw17_SlotRuns)) (.node (.node (.node (.node .leaf (some (.code pf_slices_heapSortOrdered_string)) .leaf) (some (.code pf_wire_role)) .leaf) (some (.code pf_pack_Reader_Text)) (.node (.node .leaf (some (.code pf_slices_medianOrdered_string)) .leaf) none .leaf)) (some (.code pf_slot_Slot_On)) (.node (.node (.node .leaf (some (.code pf_math_bits_Len32)) .leaf) none .leaf) (some (.code pf_slot_Slot_clear)) (.node .leaf (some (.code pf_item_Store_Peek)) .leaf)))) none (.node (.node (.node (.node (.node .leaf (some (.code pf_chain_find)) .leaf) (some (.code pf_chain_New)) .leaf) (some (.code pf_pack_Reader_At)) (.node (.node .leaf (some (.code pf_slices_xorshift_Next)) .leaf) (some (.code pf_slab_Slab_Class)) .leaf)) (some (.code pf_depotlaw17_ask)) (.node (.node .leaf (some (.code pf_pack_Num)) .leaf) (some (.code pf_slot_Slot_Take_1)) (.node .leaf (some (.code pf_slices_pdqsortOrdered_string)) .leaf))) none (.node (.node (.node (.node .leaf (some (.code pf_slices_choosePivotOrdered_string)) .leaf) (some (.code pf_slot_Slot_scan)) .leaf) (some (.code pf_item_New)) (.node (.node .leaf (some (.code pf_slices_order2Ordered_string)) .leaf) (some (.code pf_item_Store_in)) .leaf)) none (.node (.node (.node .leaf (some (.code pf_slab_Slab_Read)) .leaf) (some (.code pf_item_Store_Keys)) .leaf) (some (.code pf_pack_grown)) (.node .leaf (some (.code pf_slab_Slab_Free)) .leaf))))) none (.node (.node (.node (.node (.node (.node .leaf (some (.code pf_chain_Chain_bucket)) .leaf) (some (.code pf_slab_New)) .leaf) (some (.code pf_pack_Read)) (.node (.node .leaf (some (.code pf_slices_nextPowerOfTwo)) .leaf) (some (.code pf_item_Store_Get)) .leaf)) (some (.code pf_slot_Slot_Take)) (.node (.node (.node .leaf (some (.code pf_cmp_Less_string)) .leaf) (some (.code pf_slot_name)) .leaf) (some (.code pf_slices_DeleteFunc_slot_did_slot_did)) (.node .leaf (some (.code pf_chain_Chain_Get)) .leaf))) none (.node (.node (.node (.node .leaf (some (.code pf_slices_breakPatternsOrdered_string)) .leaf) (some (.code pf_slices_IndexFunc_slot_did_slot_did)) .leaf) (some (.code pf_depotbook_Same_string)) (.node (.node .leaf (some (.code pf_cmp_isNaN_string)) .leaf) (some (.code pf_item_Store_gone)) .leaf)) (some (.code pf_slot_Slot_Inc)) (.node (.node (.node .leaf (some (.code pf_math_bits_Len64)) .leaf) (some (.code pf_pack_Reader_Num)) .leaf) none (.node .leaf (some (.code pf_item_Store_out)) .leaf)))) none (.node (.node (.node (.node (.node .leaf (some (.code pf_slices_insertionSortOrdered_string)) .leaf) (some (.code pf_wire_within)) .leaf) (some (.code pf_pack_Reader_Wrong)) (.node (.node .leaf (some (.code pf_slices_medianAdjacentOrdered_string)) .leaf) (some (.code pf_slab_Slab_Alloc)) .leaf)) (some (.code pf_slot_Slot_Wipe)) (.node (.node (.node .leaf (some (.code pf_slices_partitionOrdered_string)) .leaf) (some (.code pf_item_Store_Drop)) .leaf) (some (.code pf_slot_Slot_do)) (.node .leaf (some (.code pf_math_bits_Len)) .leaf))) (some (.code pf_depotlaw17_SlotScans)) (.node (.node (.node (.node .leaf (some (.code pf_slices_reverseRangeOrdered_string)) .leaf) (some (.code pf_slot_Slot_stands)) .leaf) (some (.code pf_wire_Right)) (.node .leaf (some (.code pf_chain_Chain_Put)) .leaf)) none (.node (.node (.node .leaf (some (.code pf_chain_Hash)) .leaf) (some (.code pf_slices_Sort_string_string)) .leaf) (some (.code pf_pack_Reader_count)) (.node .leaf (some (.code pf_chain_Chain_Drop)) .leaf))))))
theorem bd3 : BodyOk cx 3 := ⟨Try.f3, Try.func3, by kernel_rfl, by kernel_rfl⟩
theorem bd6 : BodyOk cx 6 := ⟨Try.f6, Try.func6, by kernel_rfl, by kernel_rfl⟩
theorem bd7 : BodyOk cx 7 := ⟨Try.f7, Try.func7, by kernel_rfl, by kernel_rfl⟩
theorem bd8 : BodyOk cx 8 := ⟨Try.f8, Try.func8, by kernel_rfl, by kernel_rfl⟩
theorem bd9 : BodyOk cx 9 := ⟨Try.f9, Try.func9, by kernel_rfl, by kernel_rfl⟩
theorem bd10 : BodyOk cx 10 := ⟨Try.f10, Try.func10, by kernel_rfl, by kernel_rfl⟩
theorem bd11 : BodyOk cx 11 := ⟨Try.f11, Try.func11, by kernel_rfl, by kernel_rfl⟩
theorem bd12 : BodyOk cx 12 := ⟨Try.f12, Try.func12, by kernel_rfl, by kernel_rfl⟩
theorem bd16 : BodyOk cx 16 := ⟨Try.f16, Try.func16, by kernel_rfl, by kernel_rfl⟩
theorem bd17 : BodyOk cx 17 := ⟨Try.f17, Try.func17, by kernel_rfl, by kernel_rfl⟩
theorem bd18 : BodyOk cx 18 := ⟨Try.f18, Try.func18, by kernel_rfl, by kernel_rfl⟩
theorem bd19 : BodyOk cx 19 := ⟨Try.f19, Try.func19, by kernel_rfl, by kernel_rfl⟩
theorem bd20 : BodyOk cx 20 := ⟨Try.f20, Try.func20, by kernel_rfl, by kernel_rfl⟩
theorem bd21 : BodyOk cx 21 := ⟨Try.f21, Try.func21, by kernel_rfl, by kernel_rfl⟩
theorem bd22 : BodyOk cx 22 := ⟨Try.f22, Try.func22, by kernel_rfl, by kernel_rfl⟩
theorem bd23 : BodyOk cx 23 := ⟨Try.f23, Try.func23, by kernel_rfl, by kernel_rfl⟩
theorem bd24 : BodyOk cx 24 := ⟨Try.f24, Try.func24, by kernel_rfl, by kernel_rfl⟩
theorem bd25 : BodyOk cx 25 := ⟨Try.f25, Try.func25, by kernel_rfl, by kernel_rfl⟩
theorem bd26 : BodyOk cx 26 := ⟨Try.f26, Try.func26, by kernel_rfl, by kernel_rfl⟩
theorem bd27 : BodyOk cx 27 := ⟨Try.f27, Try.func27, by kernel_rfl, by kernel_rfl⟩
theorem bd29 : BodyOk cx 29 := ⟨Try.f29, Try.func29, by kernel_rfl, by kernel_rfl⟩
theorem bd30 : BodyOk cx 30 := ⟨Try.f30, Try.func30, by kernel_rfl, by kernel_rfl⟩
theorem bd31 : BodyOk cx 31 := ⟨Try.f31, Try.func31, by kernel_rfl, by kernel_rfl⟩
theorem bd32 : BodyOk cx 32 := ⟨Try.f32, Try.func32, by kernel_rfl, by kernel_rfl⟩
theorem bd33 : BodyOk cx 33 := ⟨Try.f33, Try.func33, by kernel_rfl, by kernel_rfl⟩
theorem bd34 : BodyOk cx 34 := ⟨Try.f34, Try.func34, by kernel_rfl, by kernel_rfl⟩
theorem bd35 : BodyOk cx 35 := ⟨Try.f35, Try.func35, by kernel_rfl, by kernel_rfl⟩
theorem bd36 : BodyOk cx 36 := ⟨Try.f36, Try.func36, by kernel_rfl, by kernel_rfl⟩
theorem bd37 : BodyOk cx 37 := ⟨Try.f37, Try.func37, by kernel_rfl, by kernel_rfl⟩
theorem bd38 : BodyOk cx 38 := ⟨Try.f38, Try.func38, by kernel_rfl, by kernel_rfl⟩
theorem bd39 : BodyOk cx 39 := ⟨Try.f39, Try.func39, by kernel_rfl, by kernel_rfl⟩
theorem bd40 : BodyOk cx 40 := ⟨Try.f40, Try.func40, by kernel_rfl, by kernel_rfl⟩
theorem bd41 : BodyOk cx 41 := ⟨Try.f41, Try.func41, by kernel_rfl, by kernel_rfl⟩
theorem bd42 : BodyOk cx 42 := ⟨Try.f42, Try.func42, by kernel_rfl, by kernel_rfl⟩
theorem bd44 : BodyOk cx 44 := ⟨Try.f44, Try.func44, by kernel_rfl, by kernel_rfl⟩
theorem bd45 : BodyOk cx 45 := ⟨Try.f45, Try.func45, by kernel_rfl, by kernel_rfl⟩
theorem bd46 : BodyOk cx 46 := ⟨Try.f46, Try.func46, by kernel_rfl, by kernel_rfl⟩
theorem bd47 : BodyOk cx 47 := ⟨Try.f47, Try.func47, by kernel_rfl, by kernel_rfl⟩
theorem bd48 : BodyOk cx 48 := ⟨Try.f48, Try.func48, by kernel_rfl, by kernel_rfl⟩
theorem bd49 : BodyOk cx 49 := ⟨Try.f49, Try.func49, by kernel_rfl, by kernel_rfl⟩
theorem bd50 : BodyOk cx 50 := ⟨Try.f50, Try.func50, by kernel_rfl, by kernel_rfl⟩
theorem bd52 : BodyOk cx 52 := ⟨Try.f52, Try.func52, by kernel_rfl, by kernel_rfl⟩
theorem bd53 : BodyOk cx 53 := ⟨Try.f53, Try.func53, by kernel_rfl, by kernel_rfl⟩
theorem bd54 : BodyOk cx 54 := ⟨Try.f54, Try.func54, by kernel_rfl, by kernel_rfl⟩
theorem bd55 : BodyOk cx 55 := ⟨Try.f55, Try.func55, by kernel_rfl, by kernel_rfl⟩
theorem bd56 : BodyOk cx 56 := ⟨Try.f56, Try.func56, by kernel_rfl, by kernel_rfl⟩
theorem bd57 : BodyOk cx 57 := ⟨Try.f57, Try.func57, by kernel_rfl, by kernel_rfl⟩
theorem bd58 : BodyOk cx 58 := ⟨Try.f58, Try.func58, by kernel_rfl, by kernel_rfl⟩
theorem bd59 : BodyOk cx 59 := ⟨Try.f59, Try.func59, by kernel_rfl, by kernel_rfl⟩
theorem bd60 : BodyOk cx 60 := ⟨Try.f60, Try.func60, by kernel_rfl, by kernel_rfl⟩
theorem bd61 : BodyOk cx 61 := ⟨Try.f61, Try.func61, by kernel_rfl, by kernel_rfl⟩
theorem bd62 : BodyOk cx 62 := ⟨Try.f62, Try.func62, by kernel_rfl, by kernel_rfl⟩
theorem bd63 : BodyOk cx 63 := ⟨Try.f63, Try.func63, by kernel_rfl, by kernel_rfl⟩
theorem bd64 : BodyOk cx 64 := ⟨Try.f64, Try.func64, by kernel_rfl, by kernel_rfl⟩
theorem bd65 : BodyOk cx 65 := ⟨Try.f65, Try.func65, by kernel_rfl, by kernel_rfl⟩
theorem bd66 : BodyOk cx 66 := ⟨Try.f66, Try.func66, by kernel_rfl, by kernel_rfl⟩
theorem bd67 : BodyOk cx 67 := ⟨Try.f67, Try.func67, by kernel_rfl, by kernel_rfl⟩
theorem bd68 : BodyOk cx 68 := ⟨Try.f68, Try.func68, by kernel_rfl, by kernel_rfl⟩
theorem bd69 : BodyOk cx 69 := ⟨Try.f69, Try.func69, by kernel_rfl, by kernel_rfl⟩
theorem bd70 : BodyOk cx 70 := ⟨Try.f70, Try.func70, by kernel_rfl, by kernel_rfl⟩
theorem bd71 : BodyOk cx 71 := ⟨Try.f71, Try.func71, by kernel_rfl, by kernel_rfl⟩
theorem bd72 : BodyOk cx 72 := ⟨Try.f72, Try.func72, by kernel_rfl, by kernel_rfl⟩
theorem bd74 : BodyOk cx 74 := ⟨Try.f74, Try.func74, by kernel_rfl, by kernel_rfl⟩
theorem bd75 : BodyOk cx 75 := ⟨Try.f75, Try.func75, by kernel_rfl, by kernel_rfl⟩
theorem bd76 : BodyOk cx 76 := ⟨Try.f76, Try.func76, by kernel_rfl, by kernel_rfl⟩
theorem bd77 : BodyOk cx 77 := ⟨Try.f77, Try.func77, by kernel_rfl, by kernel_rfl⟩
theorem bd78 : BodyOk cx 78 := ⟨Try.f78, Try.func78, by kernel_rfl, by kernel_rfl⟩
theorem bd79 : BodyOk cx 79 := ⟨Try.f79, Try.func79, by kernel_rfl, by kernel_rfl⟩
theorem bd80 : BodyOk cx 80 := ⟨Try.f80, Try.func80, by kernel_rfl, by kernel_rfl⟩
theorem bd81 : BodyOk cx 81 := ⟨Try.f81, Try.func81, by kernel_rfl, by kernel_rfl⟩
theorem bd82 : BodyOk cx 82 := ⟨Try.f82, Try.func82, by kernel_rfl, by kernel_rfl⟩
theorem bd83 : BodyOk cx 83 := ⟨Try.f83, Try.func83, by kernel_rfl, by kernel_rfl⟩
theorem bd84 : BodyOk cx 84 := ⟨Try.f84, Try.func84, by kernel_rfl, by kernel_rfl⟩
theorem bd85 : BodyOk cx 85 := ⟨Try.f85, Try.func85, by kernel_rfl, by kernel_rfl⟩
theorem bds : AllOf (BodyOk cx) nums := ⟨bd3, bd6, bd7, bd8, bd9, bd10, bd11, bd12, bd16, bd17, bd18, bd19, bd20, bd21, bd22, bd23, bd24, bd25, bd26, bd27, bd29, bd30, bd31, bd32, bd33, bd34, bd35, bd36, bd37, bd38, bd39, bd40, bd41, bd42, bd44, bd45, bd46, bd47, bd48, bd49, bd50, bd52, bd53, bd54, bd55, bd56, bd57, bd58, bd59, bd60, bd61, bd62, bd63, bd64, bd65, bd66, bd67, bd68, bd69, bd70, bd71, bd72, bd74, bd75, bd76, bd77, bd78, bd79, bd80, bd81, bd82, bd83, bd84, bd85, trivial⟩
theorem ext_ok : ExtOk cx := by
  refine ext_table (l := []) rfl fun p hp => ?_
  cases hp
theorem prog_ok : ProgOk cx := ⟨by kernel_rfl, ext_ok, fm_ok2 rfl bds⟩
namespace R
def nums : List Nat := [3, 7, 8, 9, 10, 11, 12, 16, 17, 21, 22, 23, 24, 25, 26, 27, 29, 31, 32, 33, 34, 35, 36, 37, 38, 39, 40, 41, 42, 44, 45, 46, 47, 48, 49, 50, 52, 53, 54, 55, 56, 57, 58, 59, 60, 61, 62, 63, 64, 65, 66, 67, 68, 69, 70, 71, 72, 74, 75, 76, 77, 78, 79, 80, 81, 82, 83, 84, 85]
noncomputable def cx : Cx := { P := Try.prog, fm := fmOf nums, gm := fun _ => none, ext := extOf [], bt := none }
def tree0 : Tr LF := (.node (.node (.node (.node (.node (.node (.node .leaf (some (.code pf_chain_Chain_step)) .leaf) (some (.code pf_pack_Reader_fail)) .leaf) none (.node (.node .leaf (some (.code pf_slices_siftDownOrdered_string)) .leaf) (some (.code pf_pack_Text)) .leaf)) (some (.code pf_slot_New)) (.node (.node (.node .leaf (some (.code pf_slices_partialInsertionSortOrdered_string)) .leaf) (some (.code pf_item_Store_Put)) .leaf) (some (.code pf_slot_Slot_reset)) (.node .leaf (some (.code pf_pack_num)) .leaf))) (some (.code pf_depotlaw17_SlotRuns)) (.node (.node (.node (.node .leaf (some (.code pf_slices_heapSortOrdered_string)) .leaf) (some (.code pf_wire_role)) .leaf) none (.node (.node .leaf (some (.code pf_slices_medianOrdered_string)) .leaf) none .leaf)) (some (.code pf_slot_Slot_On)) (.node (.node (.node .leaf (some (.code pf_math_bits_Len32)) .leaf) none .leaf) (some (.code pf_slot_Slot_clear)) (.node .leaf (some (.code pf_item_Store_Peek)) .leaf)))) none (.node (.node (.node (.node (.node .leaf (some (.code pf_chain_find)) .leaf) (some (.code pf_chain_New)) .leaf) (some (.code pf_pack_Reader_At)) (.node (.node .leaf (some (.code pf_slices_xorshift_Next)) .leaf) (some (.code pf_slab_Slab_Class)) .leaf)) (some (.code pf_depotlaw17_ask)) (.node (.node .leaf (some (.code pf_pack_Num)) .leaf) (some (.code pf_slot_Slot_Take_1)) (.node .leaf (some (.code pf_slices_pdqsortOrdered_string)) .leaf))) none (.node (.node (.node (.node .leaf (some (.code pf_slices_choosePivotOrdered_string)) .leaf) (some (.code pf_slot_Slot_scan)) .leaf) (some (.code pf_item_New)) (.node (.node .leaf (some (.code pf_slices_order2Ordered_string)) .leaf) (some (.code pf_item_Store_in)) .leaf)) none (.node (.node (.node .leaf (some (.code pf_slab_Slab_Read)) .leaf) (some (.code pf_item_Store_Keys)) .leaf) (some (.code pf_pack_grown)) (.node .leaf (some (.code pf_slab_Slab_Free)) .leaf))))) none (.node (.node (.node (.node (.node (.node .leaf (some (.code pf_chain_Chain_bucket)) .leaf) (some (.code pf_slab_New)) .leaf) (some (.code pf_pack_Read)) (.node (.node .leaf (some (.code pf_slices_nextPowerOfTwo)) .leaf) (some (.code pf_item_Store_Get)) .leaf)) (some (.code pf_slot_Slot_Take)) (.node (.node (.node .leaf (some (.code pf_cmp_Less_string)) .leaf) (some (.code pf_slot_name)) .leaf) (some (.code pf_slices_DeleteFunc_slot_did_slot_did)) (.node .leaf (some (.code pf_chain_Chain_Get)) .leaf))) none (.node (.node (.node (.node .leaf (some (.code pf_slices_breakPatternsOrdered_string)) .leaf) (some (.code pf_slices_IndexFunc_slot_did_slot_did)) .leaf) none (.node (.node .leaf (some (.code pf_cmp_isNaN_string)) .leaf) (some (.code pf_item_Store_gone)) .leaf)) (some (.code pf_slot_Slot_Inc)) (.node (.node (.node .leaf (some (.code pf_math_bits_Len64)) .leaf) (some (.code pf_pack_Reader_Num)) .leaf) none (.node .leaf (some (.code pf_item_Store_out)) .leaf)))) none (.node (.node (.node (.node (.node .leaf (some (.code pf_slices_insertionSortOrdered_string)) .leaf) (some (.code pf_wire_within)) .leaf) none (.node (.node .leaf (some (.code pf_slices_medianAdjacentOrdered_string)) .leaf) (some (.code pf_slab_Slab_Alloc)) .leaf)) (some (.code pf_slot_Slot_Wipe)) (.node (.node (.node .leaf (some (.code pf_slices_partitionOrdered_string)) .leaf) (some (.code pf_item_Store_Drop)) .leaf) (some (.code pf_slot_Slot_do)) (.node .leaf (some (.code pf_math_bits_Len)) .leaf))) none (.node (.node (.node (.node .leaf (some (.code pf_slices_reverseRangeOrdered_string)) .leaf) (some (.code pf_slot_Slot_stands)) .leaf) (some (.code pf_wire_Right)) (.node .leaf (some (.code pf_chain_Chain_Put)) .leaf)) none (.node (.node (.node .leaf (some (.code pf_chain_Hash)) .leaf) (some (.code pf_slices_Sort_string_string)) .leaf) none (.node .leaf (some (.code pf_chain_Chain_Drop)) .leaf))))))
theorem tr3 : trF cx Try.f3 = pf_depotlaw17_SlotRuns := by kernel_rfl
theorem bd3 : BodyOk cx 3 := ⟨Try.f3, Try.func3, by kernel_rfl, by kernel_rfl⟩
theorem tr7 : trF cx Try.f7 = pf_slot_New := by kernel_rfl
theorem bd7 : BodyOk cx 7 := ⟨Try.f7, Try.func7, by kernel_rfl, by kernel_rfl⟩
theorem tr8 : trF cx Try.f8 = pf_slot_Slot_Take := by kernel_rfl
theorem bd8 : BodyOk cx 8 := ⟨Try.f8, Try.func8, by kernel_rfl, by kernel_rfl⟩
theorem tr9 : trF cx Try.f9 = pf_depotlaw17_ask := by kernel_rfl
theorem bd9 : BodyOk cx 9 := ⟨Try.f9, Try.func9, by kernel_rfl, by kernel_rfl⟩
theorem tr10 : trF cx Try.f10 = pf_slot_Slot_Wipe := by kernel_rfl
theorem bd10 : BodyOk cx 10 := ⟨Try.f10, Try.func10, by kernel_rfl, by kernel_rfl⟩
theorem tr11 : trF cx Try.f11 = pf_slot_Slot_On := by kernel_rfl
theorem bd11 : BodyOk cx 11 := ⟨Try.f11, Try.func11, by kernel_rfl, by kernel_rfl⟩
theorem tr12 : trF cx Try.f12 = pf_slot_Slot_Inc := by kernel_rfl
theorem bd12 : BodyOk cx 12 := ⟨Try.f12, Try.func12, by kernel_rfl, by kernel_rfl⟩
theorem tr16 : trF cx Try.f16 = pf_pack_Read := by kernel_rfl
theorem bd16 : BodyOk cx 16 := ⟨Try.f16, Try.func16, by kernel_rfl, by kernel_rfl⟩
theorem tr17 : trF cx Try.f17 = pf_pack_Reader_At := by kernel_rfl
theorem bd17 : BodyOk cx 17 := ⟨Try.f17, Try.func17, by kernel_rfl, by kernel_rfl⟩
theorem tr21 : trF cx Try.f21 = pf_item_New := by kernel_rfl
theorem bd21 : BodyOk cx 21 := ⟨Try.f21, Try.func21, by kernel_rfl, by kernel_rfl⟩
theorem tr22 : trF cx Try.f22 = pf_wire_Right := by kernel_rfl
theorem bd22 : BodyOk cx 22 := ⟨Try.f22, Try.func22, by kernel_rfl, by kernel_rfl⟩
theorem tr23 : trF cx Try.f23 = pf_slot_Slot_reset := by kernel_rfl
theorem bd23 : BodyOk cx 23 := ⟨Try.f23, Try.func23, by kernel_rfl, by kernel_rfl⟩
theorem tr24 : trF cx Try.f24 = pf_slices_DeleteFunc_slot_did_slot_did := by kernel_rfl
theorem bd24 : BodyOk cx 24 := ⟨Try.f24, Try.func24, by kernel_rfl, by kernel_rfl⟩
theorem tr25 : trF cx Try.f25 = pf_slot_Slot_Take_1 := by kernel_rfl
theorem bd25 : BodyOk cx 25 := ⟨Try.f25, Try.func25, by kernel_rfl, by kernel_rfl⟩
theorem tr26 : trF cx Try.f26 = pf_slot_Slot_do := by kernel_rfl
theorem bd26 : BodyOk cx 26 := ⟨Try.f26, Try.func26, by kernel_rfl, by kernel_rfl⟩
theorem tr27 : trF cx Try.f27 = pf_slot_Slot_clear := by kernel_rfl
theorem bd27 : BodyOk cx 27 := ⟨Try.f27, Try.func27, by kernel_rfl, by kernel_rfl⟩
theorem tr29 : trF cx Try.f29 = pf_pack_grown := by kernel_rfl
theorem bd29 : BodyOk cx 29 := ⟨Try.f29, Try.func29, by kernel_rfl, by kernel_rfl⟩
theorem tr31 : trF cx Try.f31 = pf_pack_Reader_fail := by kernel_rfl
theorem bd31 : BodyOk cx 31 := ⟨Try.f31, Try.func31, by kernel_rfl, by kernel_rfl⟩
theorem tr32 : trF cx Try.f32 = pf_slab_New := by kernel_rfl
theorem bd32 : BodyOk cx 32 := ⟨Try.f32, Try.func32, by kernel_rfl, by kernel_rfl⟩
theorem tr33 : trF cx Try.f33 = pf_chain_New := by kernel_rfl
theorem bd33 : BodyOk cx 33 := ⟨Try.f33, Try.func33, by kernel_rfl, by kernel_rfl⟩
theorem tr34 : trF cx Try.f34 = pf_wire_within := by kernel_rfl
theorem bd34 : BodyOk cx 34 := ⟨Try.f34, Try.func34, by kernel_rfl, by kernel_rfl⟩
theorem tr35 : trF cx Try.f35 = pf_wire_role := by kernel_rfl
theorem bd35 : BodyOk cx 35 := ⟨Try.f35, Try.func35, by kernel_rfl, by kernel_rfl⟩
theorem tr36 : trF cx Try.f36 = pf_slices_IndexFunc_slot_did_slot_did := by kernel_rfl
theorem bd36 : BodyOk cx 36 := ⟨Try.f36, Try.func36, by kernel_rfl, by kernel_rfl⟩
theorem tr37 : trF cx Try.f37 = pf_slot_Slot_scan := by kernel_rfl
theorem bd37 : BodyOk cx 37 := ⟨Try.f37, Try.func37, by kernel_rfl, by kernel_rfl⟩
theorem tr38 : trF cx Try.f38 = pf_slot_Slot_stands := by kernel_rfl
theorem bd38 : BodyOk cx 38 := ⟨Try.f38, Try.func38, by kernel_rfl, by kernel_rfl⟩
theorem tr39 : trF cx Try.f39 = pf_item_Store_Put := by kernel_rfl
theorem bd39 : BodyOk cx 39 := ⟨Try.f39, Try.func39, by kernel_rfl, by kernel_rfl⟩
theorem tr40 : trF cx Try.f40 = pf_slot_name := by kernel_rfl
theorem bd40 : BodyOk cx 40 := ⟨Try.f40, Try.func40, by kernel_rfl, by kernel_rfl⟩
theorem tr41 : trF cx Try.f41 = pf_pack_Num := by kernel_rfl
theorem bd41 : BodyOk cx 41 := ⟨Try.f41, Try.func41, by kernel_rfl, by kernel_rfl⟩
theorem tr42 : trF cx Try.f42 = pf_item_Store_Drop := by kernel_rfl
theorem bd42 : BodyOk cx 42 := ⟨Try.f42, Try.func42, by kernel_rfl, by kernel_rfl⟩
theorem tr44 : trF cx Try.f44 = pf_pack_Reader_Num := by kernel_rfl
theorem bd44 : BodyOk cx 44 := ⟨Try.f44, Try.func44, by kernel_rfl, by kernel_rfl⟩
theorem tr45 : trF cx Try.f45 = pf_item_Store_Keys := by kernel_rfl
theorem bd45 : BodyOk cx 45 := ⟨Try.f45, Try.func45, by kernel_rfl, by kernel_rfl⟩
theorem tr46 : trF cx Try.f46 = pf_slices_Sort_string_string := by kernel_rfl
theorem bd46 : BodyOk cx 46 := ⟨Try.f46, Try.func46, by kernel_rfl, by kernel_rfl⟩
theorem tr47 : trF cx Try.f47 = pf_pack_Text := by kernel_rfl
theorem bd47 : BodyOk cx 47 := ⟨Try.f47, Try.func47, by kernel_rfl, by kernel_rfl⟩
theorem tr48 : trF cx Try.f48 = pf_item_Store_Get := by kernel_rfl
theorem bd48 : BodyOk cx 48 := ⟨Try.f48, Try.func48, by kernel_rfl, by kernel_rfl⟩
theorem tr49 : trF cx Try.f49 = pf_slab_Slab_Class := by kernel_rfl
theorem bd49 : BodyOk cx 49 := ⟨Try.f49, Try.func49, by kernel_rfl, by kernel_rfl⟩
theorem tr50 : trF cx Try.f50 = pf_slab_Slab_Alloc := by kernel_rfl
theorem bd50 : BodyOk cx 50 := ⟨Try.f50, Try.func50, by kernel_rfl, by kernel_rfl⟩
theorem tr52 : trF cx Try.f52 = pf_item_Store_gone := by kernel_rfl
theorem bd52 : BodyOk cx 52 := ⟨Try.f52, Try.func52, by kernel_rfl, by kernel_rfl⟩
theorem tr53 : trF cx Try.f53 = pf_item_Store_in := by kernel_rfl
theorem bd53 : BodyOk cx 53 := ⟨Try.f53, Try.func53, by kernel_rfl, by kernel_rfl⟩
theorem tr54 : trF cx Try.f54 = pf_chain_Chain_Put := by kernel_rfl
theorem bd54 : BodyOk cx 54 := ⟨Try.f54, Try.func54, by kernel_rfl, by kernel_rfl⟩
theorem tr55 : trF cx Try.f55 = pf_pack_num := by kernel_rfl
theorem bd55 : BodyOk cx 55 := ⟨Try.f55, Try.func55, by kernel_rfl, by kernel_rfl⟩
theorem tr56 : trF cx Try.f56 = pf_chain_Chain_Get := by kernel_rfl
theorem bd56 : BodyOk cx 56 := ⟨Try.f56, Try.func56, by kernel_rfl, by kernel_rfl⟩
theorem tr57 : trF cx Try.f57 = pf_slices_pdqsortOrdered_string := by kernel_rfl
theorem bd57 : BodyOk cx 57 := ⟨Try.f57, Try.func57, by kernel_rfl, by kernel_rfl⟩
theorem tr58 : trF cx Try.f58 = pf_math_bits_Len := by kernel_rfl
theorem bd58 : BodyOk cx 58 := ⟨Try.f58, Try.func58, by kernel_rfl, by kernel_rfl⟩
theorem tr59 : trF cx Try.f59 = pf_item_Store_Peek := by kernel_rfl
theorem bd59 : BodyOk cx 59 := ⟨Try.f59, Try.func59, by kernel_rfl, by kernel_rfl⟩
theorem tr60 : trF cx Try.f60 = pf_item_Store_out := by kernel_rfl
theorem bd60 : BodyOk cx 60 := ⟨Try.f60, Try.func60, by kernel_rfl, by kernel_rfl⟩
theorem tr61 : trF cx Try.f61 = pf_slab_Slab_Free := by kernel_rfl
theorem bd61 : BodyOk cx 61 := ⟨Try.f61, Try.func61, by kernel_rfl, by kernel_rfl⟩
theorem tr62 : trF cx Try.f62 = pf_chain_Chain_Drop := by kernel_rfl
theorem bd62 : BodyOk cx 62 := ⟨Try.f62, Try.func62, by kernel_rfl, by kernel_rfl⟩
theorem tr63 : trF cx Try.f63 = pf_chain_Chain_step := by kernel_rfl
theorem bd63 : BodyOk cx 63 := ⟨Try.f63, Try.func63, by kernel_rfl, by kernel_rfl⟩
theorem tr64 : trF cx Try.f64 = pf_chain_Chain_bucket := by kernel_rfl
theorem bd64 : BodyOk cx 64 := ⟨Try.f64, Try.func64, by kernel_rfl, by kernel_rfl⟩
theorem tr65 : trF cx Try.f65 = pf_chain_find := by kernel_rfl
theorem bd65 : BodyOk cx 65 := ⟨Try.f65, Try.func65, by kernel_rfl, by kernel_rfl⟩
theorem tr66 : trF cx Try.f66 = pf_slices_insertionSortOrdered_string := by kernel_rfl
theorem bd66 : BodyOk cx 66 := ⟨Try.f66, Try.func66, by kernel_rfl, by kernel_rfl⟩
theorem tr67 : trF cx Try.f67 = pf_slices_heapSortOrdered_string := by kernel_rfl
theorem bd67 : BodyOk cx 67 := ⟨Try.f67, Try.func67, by kernel_rfl, by kernel_rfl⟩
theorem tr68 : trF cx Try.f68 = pf_slices_breakPatternsOrdered_string := by kernel_rfl
theorem bd68 : BodyOk cx 68 := ⟨Try.f68, Try.func68, by kernel_rfl, by kernel_rfl⟩
theorem tr69 : trF cx Try.f69 = pf_slices_choosePivotOrdered_string := by kernel_rfl
theorem bd69 : BodyOk cx 69 := ⟨Try.f69, Try.func69, by kernel_rfl, by kernel_rfl⟩
theorem tr70 : trF cx Try.f70 = pf_slices_reverseRangeOrdered_string := by kernel_rfl
theorem bd70 : BodyOk cx 70 := ⟨Try.f70, Try.func70, by kernel_rfl, by kernel_rfl⟩
theorem tr71 : trF cx Try.f71 = pf_slices_partialInsertionSortOrdered_string := by kernel_rfl
theorem bd71 : BodyOk cx 71 := ⟨Try.f71, Try.func71, by kernel_rfl, by kernel_rfl⟩
theorem tr72 : trF cx Try.f72 = pf_cmp_Less_string := by kernel_rfl
theorem bd72 : BodyOk cx 72 := ⟨Try.f72, Try.func72, by kernel_rfl, by kernel_rfl⟩
theorem tr74 : trF cx Try.f74 = pf_slices_partitionOrdered_string := by kernel_rfl
theorem bd74 : BodyOk cx 74 := ⟨Try.f74, Try.func74, by kernel_rfl, by kernel_rfl⟩
theorem tr75 : trF cx Try.f75 = pf_math_bits_Len32 := by kernel_rfl
theorem bd75 : BodyOk cx 75 := ⟨Try.f75, Try.func75, by kernel_rfl, by kernel_rfl⟩
theorem tr76 : trF cx Try.f76 = pf_math_bits_Len64 := by kernel_rfl
theorem bd76 : BodyOk cx 76 := ⟨Try.f76, Try.func76, by kernel_rfl, by kernel_rfl⟩
theorem tr77 : trF cx Try.f77 = pf_slab_Slab_Read := by kernel_rfl
theorem bd77 : BodyOk cx 77 := ⟨Try.f77, Try.func77, by kernel_rfl, by kernel_rfl⟩
theorem tr78 : trF cx Try.f78 = pf_chain_Hash := by kernel_rfl
theorem bd78 : BodyOk cx 78 := ⟨Try.f78, Try.func78, by kernel_rfl, by kernel_rfl⟩
theorem tr79 : trF cx Try.f79 = pf_slices_siftDownOrdered_string := by kernel_rfl
theorem bd79 : BodyOk cx 79 := ⟨Try.f79, Try.func79, by kernel_rfl, by kernel_rfl⟩
theorem tr80 : trF cx Try.f80 = pf_slices_nextPowerOfTwo := by kernel_rfl
theorem bd80 : BodyOk cx 80 := ⟨Try.f80, Try.func80, by kernel_rfl, by kernel_rfl⟩
theorem tr81 : trF cx Try.f81 = pf_slices_xorshift_Next := by kernel_rfl
theorem bd81 : BodyOk cx 81 := ⟨Try.f81, Try.func81, by kernel_rfl, by kernel_rfl⟩
theorem tr82 : trF cx Try.f82 = pf_slices_medianAdjacentOrdered_string := by kernel_rfl
theorem bd82 : BodyOk cx 82 := ⟨Try.f82, Try.func82, by kernel_rfl, by kernel_rfl⟩
theorem tr83 : trF cx Try.f83 = pf_slices_medianOrdered_string := by kernel_rfl
theorem bd83 : BodyOk cx 83 := ⟨Try.f83, Try.func83, by kernel_rfl, by kernel_rfl⟩
theorem tr84 : trF cx Try.f84 = pf_cmp_isNaN_string := by kernel_rfl
theorem bd84 : BodyOk cx 84 := ⟨Try.f84, Try.func84, by kernel_rfl, by kernel_rfl⟩
theorem tr85 : trF cx Try.f85 = pf_slices_order2Ordered_string := by kernel_rfl
theorem bd85 : BodyOk cx 85 := ⟨Try.f85, Try.func85, by kernel_rfl, by kernel_rfl⟩
theorem bds : AllOf (BodyOk cx) nums := ⟨bd3, bd7, bd8, bd9, bd10, bd11, bd12, bd16, bd17, bd21, bd22, bd23, bd24, bd25, bd26, bd27, bd29, bd31, bd32, bd33, bd34, bd35, bd36, bd37, bd38, bd39, bd40, bd41, bd42, bd44, bd45, bd46, bd47, bd48, bd49, bd50, bd52, bd53, bd54, bd55, bd56, bd57, bd58, bd59, bd60, bd61, bd62, bd63, bd64, bd65, bd66, bd67, bd68, bd69, bd70, bd71, bd72, bd74, bd75, bd76, bd77, bd78, bd79, bd80, bd81, bd82, bd83, bd84, bd85, trivial⟩
theorem ext_ok : ExtOk cx := by
  refine ext_table (l := []) rfl fun p hp => ?_
  cases hp
theorem prog_ok : ProgOk cx := ⟨by kernel_rfl, ext_ok, fm_ok2 rfl bds⟩
theorem ok3 : EntOk cx tree0.get 3 := .inl ⟨Try.f3, Try.func3, by rw [tr3]; kernel_rfl⟩
theorem ok7 : EntOk cx tree0.get 7 := .inl ⟨Try.f7, Try.func7, by rw [tr7]; kernel_rfl⟩
theorem ok8 : EntOk cx tree0.get 8 := .inl ⟨Try.f8, Try.func8, by rw [tr8]; kernel_rfl⟩
theorem ok9 : EntOk cx tree0.get 9 := .inl ⟨Try.f9, Try.func9, by rw [tr9]; kernel_rfl⟩
theorem ok10 : EntOk cx tree0.get 10 := .inl ⟨Try.f10, Try.func10, by rw [tr10]; kernel_rfl⟩
theorem ok11 : EntOk cx tree0.get 11 := .inl ⟨Try.f11, Try.func11, by rw [tr11]; kernel_rfl⟩
theorem ok12 : EntOk cx tree0.get 12 := .inl ⟨Try.f12, Try.func12, by rw [tr12]; kernel_rfl⟩
theorem ok16 : EntOk cx tree0.get 16 := .inl ⟨Try.f16, Try.func16, by rw [tr16]; kernel_rfl⟩
theorem ok17 : EntOk cx tree0.get 17 := .inl ⟨Try.f17, Try.func17, by rw [tr17]; kernel_rfl⟩
theorem ok21 : EntOk cx tree0.get 21 := .inl ⟨Try.f21, Try.func21, by rw [tr21]; kernel_rfl⟩
theorem ok22 : EntOk cx tree0.get 22 := .inl ⟨Try.f22, Try.func22, by rw [tr22]; kernel_rfl⟩
theorem ok23 : EntOk cx tree0.get 23 := .inl ⟨Try.f23, Try.func23, by rw [tr23]; kernel_rfl⟩
theorem ok24 : EntOk cx tree0.get 24 := .inl ⟨Try.f24, Try.func24, by rw [tr24]; kernel_rfl⟩
theorem ok25 : EntOk cx tree0.get 25 := .inl ⟨Try.f25, Try.func25, by rw [tr25]; kernel_rfl⟩
theorem ok26 : EntOk cx tree0.get 26 := .inl ⟨Try.f26, Try.func26, by rw [tr26]; kernel_rfl⟩
theorem ok27 : EntOk cx tree0.get 27 := .inl ⟨Try.f27, Try.func27, by rw [tr27]; kernel_rfl⟩
theorem ok29 : EntOk cx tree0.get 29 := .inl ⟨Try.f29, Try.func29, by rw [tr29]; kernel_rfl⟩
theorem ok31 : EntOk cx tree0.get 31 := .inl ⟨Try.f31, Try.func31, by rw [tr31]; kernel_rfl⟩
theorem ok32 : EntOk cx tree0.get 32 := .inl ⟨Try.f32, Try.func32, by rw [tr32]; kernel_rfl⟩
theorem ok33 : EntOk cx tree0.get 33 := .inl ⟨Try.f33, Try.func33, by rw [tr33]; kernel_rfl⟩
theorem ok34 : EntOk cx tree0.get 34 := .inl ⟨Try.f34, Try.func34, by rw [tr34]; kernel_rfl⟩
theorem ok35 : EntOk cx tree0.get 35 := .inl ⟨Try.f35, Try.func35, by rw [tr35]; kernel_rfl⟩
theorem ok36 : EntOk cx tree0.get 36 := .inl ⟨Try.f36, Try.func36, by rw [tr36]; kernel_rfl⟩
theorem ok37 : EntOk cx tree0.get 37 := .inl ⟨Try.f37, Try.func37, by rw [tr37]; kernel_rfl⟩
theorem ok38 : EntOk cx tree0.get 38 := .inl ⟨Try.f38, Try.func38, by rw [tr38]; kernel_rfl⟩
theorem ok39 : EntOk cx tree0.get 39 := .inl ⟨Try.f39, Try.func39, by rw [tr39]; kernel_rfl⟩
theorem ok40 : EntOk cx tree0.get 40 := .inl ⟨Try.f40, Try.func40, by rw [tr40]; kernel_rfl⟩
theorem ok41 : EntOk cx tree0.get 41 := .inl ⟨Try.f41, Try.func41, by rw [tr41]; kernel_rfl⟩
theorem ok42 : EntOk cx tree0.get 42 := .inl ⟨Try.f42, Try.func42, by rw [tr42]; kernel_rfl⟩
theorem ok44 : EntOk cx tree0.get 44 := .inl ⟨Try.f44, Try.func44, by rw [tr44]; kernel_rfl⟩
theorem ok45 : EntOk cx tree0.get 45 := .inl ⟨Try.f45, Try.func45, by rw [tr45]; kernel_rfl⟩
theorem ok46 : EntOk cx tree0.get 46 := .inl ⟨Try.f46, Try.func46, by rw [tr46]; kernel_rfl⟩
theorem ok47 : EntOk cx tree0.get 47 := .inl ⟨Try.f47, Try.func47, by rw [tr47]; kernel_rfl⟩
theorem ok48 : EntOk cx tree0.get 48 := .inl ⟨Try.f48, Try.func48, by rw [tr48]; kernel_rfl⟩
theorem ok49 : EntOk cx tree0.get 49 := .inl ⟨Try.f49, Try.func49, by rw [tr49]; kernel_rfl⟩
theorem ok50 : EntOk cx tree0.get 50 := .inl ⟨Try.f50, Try.func50, by rw [tr50]; kernel_rfl⟩
theorem ok52 : EntOk cx tree0.get 52 := .inl ⟨Try.f52, Try.func52, by rw [tr52]; kernel_rfl⟩
theorem ok53 : EntOk cx tree0.get 53 := .inl ⟨Try.f53, Try.func53, by rw [tr53]; kernel_rfl⟩
theorem ok54 : EntOk cx tree0.get 54 := .inl ⟨Try.f54, Try.func54, by rw [tr54]; kernel_rfl⟩
theorem ok55 : EntOk cx tree0.get 55 := .inl ⟨Try.f55, Try.func55, by rw [tr55]; kernel_rfl⟩
theorem ok56 : EntOk cx tree0.get 56 := .inl ⟨Try.f56, Try.func56, by rw [tr56]; kernel_rfl⟩
theorem ok57 : EntOk cx tree0.get 57 := .inl ⟨Try.f57, Try.func57, by rw [tr57]; kernel_rfl⟩
theorem ok58 : EntOk cx tree0.get 58 := .inl ⟨Try.f58, Try.func58, by rw [tr58]; kernel_rfl⟩
theorem ok59 : EntOk cx tree0.get 59 := .inl ⟨Try.f59, Try.func59, by rw [tr59]; kernel_rfl⟩
theorem ok60 : EntOk cx tree0.get 60 := .inl ⟨Try.f60, Try.func60, by rw [tr60]; kernel_rfl⟩
theorem ok61 : EntOk cx tree0.get 61 := .inl ⟨Try.f61, Try.func61, by rw [tr61]; kernel_rfl⟩
theorem ok62 : EntOk cx tree0.get 62 := .inl ⟨Try.f62, Try.func62, by rw [tr62]; kernel_rfl⟩
theorem ok63 : EntOk cx tree0.get 63 := .inl ⟨Try.f63, Try.func63, by rw [tr63]; kernel_rfl⟩
theorem ok64 : EntOk cx tree0.get 64 := .inl ⟨Try.f64, Try.func64, by rw [tr64]; kernel_rfl⟩
theorem ok65 : EntOk cx tree0.get 65 := .inl ⟨Try.f65, Try.func65, by rw [tr65]; kernel_rfl⟩
theorem ok66 : EntOk cx tree0.get 66 := .inl ⟨Try.f66, Try.func66, by rw [tr66]; kernel_rfl⟩
theorem ok67 : EntOk cx tree0.get 67 := .inl ⟨Try.f67, Try.func67, by rw [tr67]; kernel_rfl⟩
theorem ok68 : EntOk cx tree0.get 68 := .inl ⟨Try.f68, Try.func68, by rw [tr68]; kernel_rfl⟩
theorem ok69 : EntOk cx tree0.get 69 := .inl ⟨Try.f69, Try.func69, by rw [tr69]; kernel_rfl⟩
theorem ok70 : EntOk cx tree0.get 70 := .inl ⟨Try.f70, Try.func70, by rw [tr70]; kernel_rfl⟩
theorem ok71 : EntOk cx tree0.get 71 := .inl ⟨Try.f71, Try.func71, by rw [tr71]; kernel_rfl⟩
theorem ok72 : EntOk cx tree0.get 72 := .inl ⟨Try.f72, Try.func72, by rw [tr72]; kernel_rfl⟩
theorem ok74 : EntOk cx tree0.get 74 := .inl ⟨Try.f74, Try.func74, by rw [tr74]; kernel_rfl⟩
theorem ok75 : EntOk cx tree0.get 75 := .inl ⟨Try.f75, Try.func75, by rw [tr75]; kernel_rfl⟩
theorem ok76 : EntOk cx tree0.get 76 := .inl ⟨Try.f76, Try.func76, by rw [tr76]; kernel_rfl⟩
theorem ok77 : EntOk cx tree0.get 77 := .inl ⟨Try.f77, Try.func77, by rw [tr77]; kernel_rfl⟩
theorem ok78 : EntOk cx tree0.get 78 := .inl ⟨Try.f78, Try.func78, by rw [tr78]; kernel_rfl⟩
theorem ok79 : EntOk cx tree0.get 79 := .inl ⟨Try.f79, Try.func79, by rw [tr79]; kernel_rfl⟩
theorem ok80 : EntOk cx tree0.get 80 := .inl ⟨Try.f80, Try.func80, by rw [tr80]; kernel_rfl⟩
theorem ok81 : EntOk cx tree0.get 81 := .inl ⟨Try.f81, Try.func81, by rw [tr81]; kernel_rfl⟩
theorem ok82 : EntOk cx tree0.get 82 := .inl ⟨Try.f82, Try.func82, by rw [tr82]; kernel_rfl⟩
theorem ok83 : EntOk cx tree0.get 83 := .inl ⟨Try.f83, Try.func83, by rw [tr83]; kernel_rfl⟩
theorem ok84 : EntOk cx tree0.get 84 := .inl ⟨Try.f84, Try.func84, by rw [tr84]; kernel_rfl⟩
theorem ok85 : EntOk cx tree0.get 85 := .inl ⟨Try.f85, Try.func85, by rw [tr85]; kernel_rfl⟩
theorem oks : AllOf (EntOk cx tree0.get) nums := ⟨ok3, ok7, ok8, ok9, ok10, ok11, ok12, ok16, ok17, ok21, ok22, ok23, ok24, ok25, ok26, ok27, ok29, ok31, ok32, ok33, ok34, ok35, ok36, ok37, ok38, ok39, ok40, ok41, ok42, ok44, ok45, ok46, ok47, ok48, ok49, ok50, ok52, ok53, ok54, ok55, ok56, ok57, ok58, ok59, ok60, ok61, ok62, ok63, ok64, ok65, ok66, ok67, ok68, ok69, ok70, ok71, ok72, ok74, ok75, ok76, ok77, ok78, ok79, ok80, ok81, ok82, ok83, ok84, ok85, trivial⟩
theorem lib_ok0 : LibOk cx tree0.get := lib_ok2 rfl oks
theorem run_depotlaw17_SlotRuns : isTrue (call tree0.get 900 3 [] noHeap) = true := by decide +kernel
theorem walk_depotlaw17_SlotRuns (w : World) : Calls cx.P 3 #[] w fun e w' => e = .returned (.bool true) ∧ Go.RowKit.Below w.heap.size w w' :=
  run_closed prog_ok lib_ok0 (fun _ => rfl) (g := 3) (f := 3) rfl run_depotlaw17_SlotRuns w
end R
def lib : Lib := fun f => bif Nat.beq f 3 then some (.prim runsPrim) else tree0.get f
theorem lk3 : EntOk cx lib 3 := ent_runs (fun w => R.walk_depotlaw17_SlotRuns w) rfl
theorem lk6 : EntOk cx lib 6 := .inl ⟨Try.f6, Try.func6, by rw [tr_depotlaw17_SlotScans]; kernel_rfl⟩
theorem at_depotlaw17_SlotScans : lib n_depotlaw17_SlotScans = some (.code pf_depotlaw17_SlotScans) := by kernel_rfl
theorem lk7 : EntOk cx lib 7 := .inl ⟨Try.f7, Try.func7, by rw [tr_slot_New]; kernel_rfl⟩
theorem at_slot_New : lib n_slot_New = some (.code pf_slot_New) := by kernel_rfl
theorem lk8 : EntOk cx lib 8 := .inl ⟨Try.f8, Try.func8, by rw [tr_slot_Slot_Take]; kernel_rfl⟩
theorem at_slot_Slot_Take : lib n_slot_Slot_Take = some (.code pf_slot_Slot_Take) := by kernel_rfl
theorem lk9 : EntOk cx lib 9 := .inl ⟨Try.f9, Try.func9, by rw [tr_depotlaw17_ask]; kernel_rfl⟩
theorem at_depotlaw17_ask : lib n_depotlaw17_ask = some (.code pf_depotlaw17_ask) := by kernel_rfl
theorem lk10 : EntOk cx lib 10 := .inl ⟨Try.f10, Try.func10, by rw [tr_slot_Slot_Wipe]; kernel_rfl⟩
theorem lk11 : EntOk cx lib 11 := .inl ⟨Try.f11, Try.func11, by rw [tr_slot_Slot_On]; kernel_rfl⟩
theorem lk12 : EntOk cx lib 12 := .inl ⟨Try.f12, Try.func12, by rw [tr_slot_Slot_Inc]; kernel_rfl⟩
theorem lk16 : EntOk cx lib 16 := .inl ⟨Try.f16, Try.func16, by rw [tr_pack_Read]; kernel_rfl⟩
theorem at_pack_Read : lib n_pack_Read = some (.code pf_pack_Read) := by kernel_rfl
theorem lk17 : EntOk cx lib 17 := .inl ⟨Try.f17, Try.func17, by rw [tr_pack_Reader_At]; kernel_rfl⟩
theorem at_pack_Reader_At : lib n_pack_Reader_At = some (.code pf_pack_Reader_At) := by kernel_rfl
theorem lk18 : EntOk cx lib 18 := .inl ⟨Try.f18, Try.func18, by rw [tr_pack_Reader_Wrong]; kernel_rfl⟩
theorem at_pack_Reader_Wrong : lib n_pack_Reader_Wrong = some (.code pf_pack_Reader_Wrong) := by kernel_rfl
theorem lk19 : EntOk cx lib 19 := .inl ⟨Try.f19, Try.func19, by rw [tr_pack_Reader_Text]; kernel_rfl⟩
theorem at_pack_Reader_Text : lib n_pack_Reader_Text = some (.code pf_pack_Reader_Text) := by kernel_rfl
theorem lk20 : EntOk cx lib 20 := .inl ⟨Try.f20, Try.func20, by rw [tr_depotbook_Same_string]; kernel_rfl⟩
theorem at_depotbook_Same_string : lib n_depotbook_Same_string = some (.code pf_depotbook_Same_string) := by kernel_rfl
theorem lk21 : EntOk cx lib 21 := .inl ⟨Try.f21, Try.func21, by rw [tr_item_New]; kernel_rfl⟩
theorem at_item_New : lib n_item_New = some (.code pf_item_New) := by kernel_rfl
theorem lk22 : EntOk cx lib 22 := .inl ⟨Try.f22, Try.func22, by rw [tr_wire_Right]; kernel_rfl⟩
theorem at_wire_Right : lib n_wire_Right = some (.code pf_wire_Right) := by kernel_rfl
theorem lk23 : EntOk cx lib 23 := .inl ⟨Try.f23, Try.func23, by rw [tr_slot_Slot_reset]; kernel_rfl⟩
theorem at_slot_Slot_reset : lib n_slot_Slot_reset = some (.code pf_slot_Slot_reset) := by kernel_rfl
theorem lk24 : EntOk cx lib 24 := .inl ⟨Try.f24, Try.func24, by rw [tr_slices_DeleteFunc_slot_did_slot_did]; kernel_rfl⟩
theorem lk25 : EntOk cx lib 25 := .inl ⟨Try.f25, Try.func25, by rw [tr_slot_Slot_Take_1]; kernel_rfl⟩
theorem lk26 : EntOk cx lib 26 := .inl ⟨Try.f26, Try.func26, by rw [tr_slot_Slot_do]; kernel_rfl⟩
theorem at_slot_Slot_do : lib n_slot_Slot_do = some (.code pf_slot_Slot_do) := by kernel_rfl
theorem lk27 : EntOk cx lib 27 := .inl ⟨Try.f27, Try.func27, by rw [tr_slot_Slot_clear]; kernel_rfl⟩
theorem at_slot_Slot_clear : lib n_slot_Slot_clear = some (.code pf_slot_Slot_clear) := by kernel_rfl
theorem lk29 : EntOk cx lib 29 := .inl ⟨Try.f29, Try.func29, by rw [tr_pack_grown]; kernel_rfl⟩
theorem at_pack_grown : lib n_pack_grown = some (.code pf_pack_grown) := by kernel_rfl
theorem lk30 : EntOk cx lib 30 := .inl ⟨Try.f30, Try.func30, by rw [tr_pack_Reader_count]; kernel_rfl⟩
theorem at_pack_Reader_count : lib n_pack_Reader_count = some (.code pf_pack_Reader_count) := by kernel_rfl
theorem lk31 : EntOk cx lib 31 := .inl ⟨Try.f31, Try.func31, by rw [tr_pack_Reader_fail]; kernel_rfl⟩
theorem at_pack_Reader_fail : lib n_pack_Reader_fail = some (.code pf_pack_Reader_fail) := by kernel_rfl
theorem lk32 : EntOk cx lib 32 := .inl ⟨Try.f32, Try.func32, by rw [tr_slab_New]; kernel_rfl⟩
theorem at_slab_New : lib n_slab_New = some (.code pf_slab_New) := by kernel_rfl
theorem lk33 : EntOk cx lib 33 := .inl ⟨Try.f33, Try.func33, by rw [tr_chain_New]; kernel_rfl⟩
theorem at_chain_New : lib n_chain_New = some (.code pf_chain_New) := by kernel_rfl
theorem lk34 : EntOk cx lib 34 := .inl ⟨Try.f34, Try.func34, by rw [tr_wire_within]; kernel_rfl⟩
theorem at_wire_within : lib n_wire_within = some (.code pf_wire_within) := by kernel_rfl
theorem lk35 : EntOk cx lib 35 := .inl ⟨Try.f35, Try.func35, by rw [tr_wire_role]; kernel_rfl⟩
theorem at_wire_role : lib n_wire_role = some (.code pf_wire_role) := by kernel_rfl
theorem lk36 : EntOk cx lib 36 := .inl ⟨Try.f36, Try.func36, by rw [tr_slices_IndexFunc_slot_did_slot_did]; kernel_rfl⟩
theorem lk37 : EntOk cx lib 37 := .inl ⟨Try.f37, Try.func37, by rw [tr_slot_Slot_scan]; kernel_rfl⟩
theorem at_slot_Slot_scan : lib n_slot_Slot_scan = some (.code pf_slot_Slot_scan) := by kernel_rfl
theorem lk38 : EntOk cx lib 38 := .inl ⟨Try.f38, Try.func38, by rw [tr_slot_Slot_stands]; kernel_rfl⟩
theorem at_slot_Slot_stands : lib n_slot_Slot_stands = some (.code pf_slot_Slot_stands) := by kernel_rfl
theorem lk39 : EntOk cx lib 39 := .inl ⟨Try.f39, Try.func39, by rw [tr_item_Store_Put]; kernel_rfl⟩
theorem at_item_Store_Put : lib n_item_Store_Put = some (.code pf_item_Store_Put) := by kernel_rfl
theorem lk40 : EntOk cx lib 40 := .inl ⟨Try.f40, Try.func40, by rw [tr_slot_name]; kernel_rfl⟩
theorem at_slot_name : lib n_slot_name = some (.code pf_slot_name) := by kernel_rfl
theorem lk41 : EntOk cx lib 41 := .inl ⟨Try.f41, Try.func41, by rw [tr_pack_Num]; kernel_rfl⟩
theorem at_pack_Num : lib n_pack_Num = some (.code pf_pack_Num) := by kernel_rfl
theorem lk42 : EntOk cx lib 42 := .inl ⟨Try.f42, Try.func42, by rw [tr_item_Store_Drop]; kernel_rfl⟩
theorem at_item_Store_Drop : lib n_item_Store_Drop = some (.code pf_item_Store_Drop) := by kernel_rfl
theorem lk44 : EntOk cx lib 44 := .inl ⟨Try.f44, Try.func44, by rw [tr_pack_Reader_Num]; kernel_rfl⟩
theorem at_pack_Reader_Num : lib n_pack_Reader_Num = some (.code pf_pack_Reader_Num) := by kernel_rfl
theorem lk45 : EntOk cx lib 45 := .inl ⟨Try.f45, Try.func45, by rw [tr_item_Store_Keys]; kernel_rfl⟩
theorem at_item_Store_Keys : lib n_item_Store_Keys = some (.code pf_item_Store_Keys) := by kernel_rfl
theorem lk46 : EntOk cx lib 46 := .inl ⟨Try.f46, Try.func46, by rw [tr_slices_Sort_string_string]; kernel_rfl⟩
theorem at_slices_Sort_string_string : lib n_slices_Sort_string_string = some (.code pf_slices_Sort_string_string) := by kernel_rfl
theorem lk47 : EntOk cx lib 47 := .inl ⟨Try.f47, Try.func47, by rw [tr_pack_Text]; kernel_rfl⟩
theorem at_pack_Text : lib n_pack_Text = some (.code pf_pack_Text) := by kernel_rfl
theorem lk48 : EntOk cx lib 48 := .inl ⟨Try.f48, Try.func48, by rw [tr_item_Store_Get]; kernel_rfl⟩
theorem at_item_Store_Get : lib n_item_Store_Get = some (.code pf_item_Store_Get) := by kernel_rfl
theorem lk49 : EntOk cx lib 49 := .inl ⟨Try.f49, Try.func49, by rw [tr_slab_Slab_Class]; kernel_rfl⟩
theorem at_slab_Slab_Class : lib n_slab_Slab_Class = some (.code pf_slab_Slab_Class) := by kernel_rfl
theorem lk50 : EntOk cx lib 50 := .inl ⟨Try.f50, Try.func50, by rw [tr_slab_Slab_Alloc]; kernel_rfl⟩
theorem at_slab_Slab_Alloc : lib n_slab_Slab_Alloc = some (.code pf_slab_Slab_Alloc) := by kernel_rfl
theorem lk52 : EntOk cx lib 52 := .inl ⟨Try.f52, Try.func52, by rw [tr_item_Store_gone]; kernel_rfl⟩
theorem at_item_Store_gone : lib n_item_Store_gone = some (.code pf_item_Store_gone) := by kernel_rfl
theorem lk53 : EntOk cx lib 53 := .inl ⟨Try.f53, Try.func53, by rw [tr_item_Store_in]; kernel_rfl⟩
theorem at_item_Store_in : lib n_item_Store_in = some (.code pf_item_Store_in) := by kernel_rfl
theorem lk54 : EntOk cx lib 54 := .inl ⟨Try.f54, Try.func54, by rw [tr_chain_Chain_Put]; kernel_rfl⟩
theorem at_chain_Chain_Put : lib n_chain_Chain_Put = some (.code pf_chain_Chain_Put) := by kernel_rfl
theorem lk55 : EntOk cx lib 55 := .inl ⟨Try.f55, Try.func55, by rw [tr_pack_num]; kernel_rfl⟩
theorem at_pack_num : lib n_pack_num = some (.code pf_pack_num) := by kernel_rfl
theorem lk56 : EntOk cx lib 56 := .inl ⟨Try.f56, Try.func56, by rw [tr_chain_Chain_Get]; kernel_rfl⟩
theorem at_chain_Chain_Get : lib n_chain_Chain_Get = some (.code pf_chain_Chain_Get) := by kernel_rfl
theorem lk57 : EntOk cx lib 57 := .inl ⟨Try.f57, Try.func57, by rw [tr_slices_pdqsortOrdered_string]; kernel_rfl⟩
theorem at_slices_pdqsortOrdered_string : lib n_slices_pdqsortOrdered_string = some (.code pf_slices_pdqsortOrdered_string) := by kernel_rfl
theorem lk58 : EntOk cx lib 58 := .inl ⟨Try.f58, Try.func58, by rw [tr_math_bits_Len]; kernel_rfl⟩
theorem at_math_bits_Len : lib n_math_bits_Len = some (.code pf_math_bits_Len) := by kernel_rfl
theorem lk59 : EntOk cx lib 59 := .inl ⟨Try.f59, Try.func59, by rw [tr_item_Store_Peek]; kernel_rfl⟩
theorem at_item_Store_Peek : lib n_item_Store_Peek = some (.code pf_item_Store_Peek) := by kernel_rfl
theorem lk60 : EntOk cx lib 60 := .inl ⟨Try.f60, Try.func60, by rw [tr_item_Store_out]; kernel_rfl⟩
theorem at_item_Store_out : lib n_item_Store_out = some (.code pf_item_Store_out) := by kernel_rfl
theorem lk61 : EntOk cx lib 61 := .inl ⟨Try.f61, Try.func61, by rw [tr_slab_Slab_Free]; kernel_rfl⟩
theorem at_slab_Slab_Free : lib n_slab_Slab_Free = some (.code pf_slab_Slab_Free) := by kernel_rfl
theorem lk62 : EntOk cx lib 62 := .inl ⟨Try.f62, Try.func62, by rw [tr_chain_Chain_Drop]; kernel_rfl⟩
theorem at_chain_Chain_Drop : lib n_chain_Chain_Drop = some (.code pf_chain_Chain_Drop) := by kernel_rfl
theorem lk63 : EntOk cx lib 63 := .inl ⟨Try.f63, Try.func63, by rw [tr_chain_Chain_step]; kernel_rfl⟩
theorem at_chain_Chain_step : lib n_chain_Chain_step = some (.code pf_chain_Chain_step) := by kernel_rfl
theorem lk64 : EntOk cx lib 64 := .inl ⟨Try.f64, Try.func64, by rw [tr_chain_Chain_bucket]; kernel_rfl⟩
theorem at_chain_Chain_bucket : lib n_chain_Chain_bucket = some (.code pf_chain_Chain_bucket) := by kernel_rfl
theorem lk65 : EntOk cx lib 65 := .inl ⟨Try.f65, Try.func65, by rw [tr_chain_find]; kernel_rfl⟩
theorem at_chain_find : lib n_chain_find = some (.code pf_chain_find) := by kernel_rfl
theorem lk66 : EntOk cx lib 66 := .inl ⟨Try.f66, Try.func66, by rw [tr_slices_insertionSortOrdered_string]; kernel_rfl⟩
theorem at_slices_insertionSortOrdered_string : lib n_slices_insertionSortOrdered_string = some (.code pf_slices_insertionSortOrdered_string) := by kernel_rfl
theorem lk67 : EntOk cx lib 67 := .inl ⟨Try.f67, Try.func67, by rw [tr_slices_heapSortOrdered_string]; kernel_rfl⟩
theorem at_slices_heapSortOrdered_string : lib n_slices_heapSortOrdered_string = some (.code pf_slices_heapSortOrdered_string) := by kernel_rfl
theorem lk68 : EntOk cx lib 68 := .inl ⟨Try.f68, Try.func68, by rw [tr_slices_breakPatternsOrdered_string]; kernel_rfl⟩
theorem at_slices_breakPatternsOrdered_string : lib n_slices_breakPatternsOrdered_string = some (.code pf_slices_breakPatternsOrdered_string) := by kernel_rfl
theorem lk69 : EntOk cx lib 69 := .inl ⟨Try.f69, Try.func69, by rw [tr_slices_choosePivotOrdered_string]; kernel_rfl⟩
theorem at_slices_choosePivotOrdered_string : lib n_slices_choosePivotOrdered_string = some (.code pf_slices_choosePivotOrdered_string) := by kernel_rfl
theorem lk70 : EntOk cx lib 70 := .inl ⟨Try.f70, Try.func70, by rw [tr_slices_reverseRangeOrdered_string]; kernel_rfl⟩
theorem at_slices_reverseRangeOrdered_string : lib n_slices_reverseRangeOrdered_string = some (.code pf_slices_reverseRangeOrdered_string) := by kernel_rfl
theorem lk71 : EntOk cx lib 71 := .inl ⟨Try.f71, Try.func71, by rw [tr_slices_partialInsertionSortOrdered_string]; kernel_rfl⟩
theorem at_slices_partialInsertionSortOrdered_string : lib n_slices_partialInsertionSortOrdered_string = some (.code pf_slices_partialInsertionSortOrdered_string) := by kernel_rfl
theorem lk72 : EntOk cx lib 72 := .inl ⟨Try.f72, Try.func72, by rw [tr_cmp_Less_string]; kernel_rfl⟩
theorem at_cmp_Less_string : lib n_cmp_Less_string = some (.code pf_cmp_Less_string) := by kernel_rfl
theorem lk74 : EntOk cx lib 74 := .inl ⟨Try.f74, Try.func74, by rw [tr_slices_partitionOrdered_string]; kernel_rfl⟩
theorem at_slices_partitionOrdered_string : lib n_slices_partitionOrdered_string = some (.code pf_slices_partitionOrdered_string) := by kernel_rfl
theorem lk75 : EntOk cx lib 75 := .inl ⟨Try.f75, Try.func75, by rw [tr_math_bits_Len32]; kernel_rfl⟩
theorem lk76 : EntOk cx lib 76 := .inl ⟨Try.f76, Try.func76, by rw [tr_math_bits_Len64]; kernel_rfl⟩
theorem at_math_bits_Len64 : lib n_math_bits_Len64 = some (.code pf_math_bits_Len64) := by kernel_rfl
theorem lk77 : EntOk cx lib 77 := .inl ⟨Try.f77, Try.func77, by rw [tr_slab_Slab_Read]; kernel_rfl⟩
theorem at_slab_Slab_Read : lib n_slab_Slab_Read = some (.code pf_slab_Slab_Read) := by kernel_rfl
theorem lk78 : EntOk cx lib 78 := .inl ⟨Try.f78, Try.func78, by rw [tr_chain_Hash]; kernel_rfl⟩
theorem at_chain_Hash : lib n_chain_Hash = some (.code pf_chain_Hash) := by kernel_rfl
theorem lk79 : EntOk cx lib 79 := .inl ⟨Try.f79, Try.func79, by rw [tr_slices_siftDownOrdered_string]; kernel_rfl⟩
theorem at_slices_siftDownOrdered_string : lib n_slices_siftDownOrdered_string = some (.code pf_slices_siftDownOrdered_string) := by kernel_rfl
theorem lk80 : EntOk cx lib 80 := .inl ⟨Try.f80, Try.func80, by rw [tr_slices_nextPowerOfTwo]; kernel_rfl⟩
theorem at_slices_nextPowerOfTwo : lib n_slices_nextPowerOfTwo = some (.code pf_slices_nextPowerOfTwo) := by kernel_rfl
theorem lk81 : EntOk cx lib 81 := .inl ⟨Try.f81, Try.func81, by rw [tr_slices_xorshift_Next]; kernel_rfl⟩
theorem at_slices_xorshift_Next : lib n_slices_xorshift_Next = some (.code pf_slices_xorshift_Next) := by kernel_rfl
theorem lk82 : EntOk cx lib 82 := .inl ⟨Try.f82, Try.func82, by rw [tr_slices_medianAdjacentOrdered_string]; kernel_rfl⟩
theorem at_slices_medianAdjacentOrdered_string : lib n_slices_medianAdjacentOrdered_string = some (.code pf_slices_medianAdjacentOrdered_string) := by kernel_rfl
theorem lk83 : EntOk cx lib 83 := .inl ⟨Try.f83, Try.func83, by rw [tr_slices_medianOrdered_string]; kernel_rfl⟩
theorem at_slices_medianOrdered_string : lib n_slices_medianOrdered_string = some (.code pf_slices_medianOrdered_string) := by kernel_rfl
theorem lk84 : EntOk cx lib 84 := .inl ⟨Try.f84, Try.func84, by rw [tr_cmp_isNaN_string]; kernel_rfl⟩
theorem at_cmp_isNaN_string : lib n_cmp_isNaN_string = some (.code pf_cmp_isNaN_string) := by kernel_rfl
theorem lk85 : EntOk cx lib 85 := .inl ⟨Try.f85, Try.func85, by rw [tr_slices_order2Ordered_string]; kernel_rfl⟩
theorem at_slices_order2Ordered_string : lib n_slices_order2Ordered_string = some (.code pf_slices_order2Ordered_string) := by kernel_rfl
theorem lks : AllOf (EntOk cx lib) nums := ⟨lk3, lk6, lk7, lk8, lk9, lk10, lk11, lk12, lk16, lk17, lk18, lk19, lk20, lk21, lk22, lk23, lk24, lk25, lk26, lk27, lk29, lk30, lk31, lk32, lk33, lk34, lk35, lk36, lk37, lk38, lk39, lk40, lk41, lk42, lk44, lk45, lk46, lk47, lk48, lk49, lk50, lk52, lk53, lk54, lk55, lk56, lk57, lk58, lk59, lk60, lk61, lk62, lk63, lk64, lk65, lk66, lk67, lk68, lk69, lk70, lk71, lk72, lk74, lk75, lk76, lk77, lk78, lk79, lk80, lk81, lk82, lk83, lk84, lk85, trivial⟩
theorem lib_ok : LibOk cx lib := lib_ok2 rfl lks
-- roots [3, 6]
end Go.Proofs.Ytihoblfmhighpaa
