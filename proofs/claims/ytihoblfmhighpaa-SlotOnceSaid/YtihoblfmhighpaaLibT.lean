/- The functions that this seat's laws reach, for the clean machine; each is what the translation makes of the given text. Conditions: none. Printed by program. -/
import Derived.Test.YtihoblfmhighpaaLibTA
namespace Go.Proofs.Ytihoblfmhighpaa
open Go.Dp
def tree0 : Tr LF := (.node (.node (.node (.node (.node (.node (.node .leaf (some (.code pf_chain_Chain_step)) .leaf) (some (.code pf_pack_Reader_fail)) .leaf) (some (.code pf_slot_Slot_Len)) .leaf) (some (.code pf_slot_New)) (.node (.node .leaf (some (.code pf_item_Store_Put)) .leaf) (some (.code pf_slot_Slot_reset)) (.node .leaf (some (.code pf_pack_num)) .leaf))) (some (.code pf_depotlaw17_SlotRuns)) (.node (.node (.node .leaf (some (.code pf_wire_role)) .leaf) none .leaf) (some (.code pf_slot_Slot_On)) (.node (.node .leaf (some (.code pf_chain_Chain_Len)) .leaf) (some (.code pf_slot_Slot_clear)) (.node .leaf (some (.code pf_item_Store_Peek)) .leaf)))) none (.node (.node (.node (.node (.node .leaf (some (.code pf_chain_find)) .leaf) (some (.code pf_chain_New)) .leaf) (some (.code pf_pack_Reader_At)) (.node .leaf (some (.code pf_slab_Slab_Class)) .leaf)) (some (.code pf_depotlaw17_ask)) (.node (.node .leaf (some (.code pf_pack_Num)) .leaf) (some (.code pf_slot_Slot_Take_1)) .leaf)) (some (.code pf_depotlaw17_SlotFences)) (.node (.node .leaf (some (.code pf_item_New)) (.node .leaf (some (.code pf_item_Store_in)) .leaf)) (some (.code pf_depotbook_Within)) (.node (.node (.node .leaf (some (.code pf_slab_Slab_Read)) .leaf) none .leaf) (some (.code pf_pack_grown)) (.node .leaf (some (.code pf_slab_Slab_Free)) .leaf))))) none (.node (.node (.node (.node (.node (.node .leaf (some (.code pf_chain_Chain_bucket)) .leaf) (some (.code pf_slab_New)) .leaf) (some (.code pf_pack_Read)) (.node .leaf (some (.code pf_item_Store_Get)) .leaf)) (some (.code pf_slot_Slot_Take)) (.node (.node .leaf (some (.code pf_slot_name)) .leaf) (some (.code pf_slices_DeleteFunc_slot_did_slot_did)) (.node .leaf (some (.code pf_chain_Chain_Get)) .leaf))) (some (.code pf_depotlaw17_SlotOnce)) (.node (.node (.node .leaf (some (.code pf_slices_IndexFunc_slot_did_slot_did)) .leaf) none (.node .leaf (some (.code pf_item_Store_gone)) .leaf)) (some (.code pf_slot_Slot_Inc)) (.node (.node .leaf (some (.code pf_pack_Reader_Num)) .leaf) (some (.code pf_item_Store_Len)) (.node .leaf (some (.code pf_item_Store_out)) .leaf)))) none (.node (.node (.node (.node .leaf (some (.code pf_wire_within)) .leaf) none (.node .leaf (some (.code pf_slab_Slab_Alloc)) .leaf)) (some (.code pf_slot_Slot_Wipe)) (.node (.node .leaf (some (.code pf_item_Store_Drop)) .leaf) (some (.code pf_slot_Slot_do)) .leaf)) none (.node (.node (.node .leaf (some (.code pf_slot_Slot_stands)) .leaf) (some (.code pf_wire_Right)) (.node .leaf (some (.code pf_chain_Chain_Put)) .leaf)) (some (.code pf_depotlaw17_light)) (.node (.node (.node .leaf (some (.code pf_chain_Hash)) .leaf) none .leaf) none (.node .leaf (some (.code pf_chain_Chain_Drop)) .leaf))))))
theorem bd3 : BodyOk cx 3 := ⟨Try.f3, Try.func3, by kernel_rfl, by kernel_rfl⟩
theorem bd4 : BodyOk cx 4 := ⟨Try.f4, Try.func4, by kernel_rfl, by kernel_rfl⟩
theorem bd5 : BodyOk cx 5 := ⟨Try.f5, Try.func5, by kernel_rfl, by kernel_rfl⟩
theorem bd7 : BodyOk cx 7 := ⟨Try.f7, Try.func7, by kernel_rfl, by kernel_rfl⟩
theorem bd8 : BodyOk cx 8 := ⟨Try.f8, Try.func8, by kernel_rfl, by kernel_rfl⟩
theorem bd9 : BodyOk cx 9 := ⟨Try.f9, Try.func9, by kernel_rfl, by kernel_rfl⟩
theorem bd10 : BodyOk cx 10 := ⟨Try.f10, Try.func10, by kernel_rfl, by kernel_rfl⟩
theorem bd11 : BodyOk cx 11 := ⟨Try.f11, Try.func11, by kernel_rfl, by kernel_rfl⟩
theorem bd12 : BodyOk cx 12 := ⟨Try.f12, Try.func12, by kernel_rfl, by kernel_rfl⟩
theorem bd13 : BodyOk cx 13 := ⟨Try.f13, Try.func13, by kernel_rfl, by kernel_rfl⟩
theorem bd14 : BodyOk cx 14 := ⟨Try.f14, Try.func14, by kernel_rfl, by kernel_rfl⟩
theorem bd15 : BodyOk cx 15 := ⟨Try.f15, Try.func15, by kernel_rfl, by kernel_rfl⟩
theorem bd16 : BodyOk cx 16 := ⟨Try.f16, Try.func16, by kernel_rfl, by kernel_rfl⟩
theorem bd17 : BodyOk cx 17 := ⟨Try.f17, Try.func17, by kernel_rfl, by kernel_rfl⟩
theorem bd21 : BodyOk cx 21 := ⟨Try.f21, Try.func21, by kernel_rfl, by kernel_rfl⟩
theorem bd22 : BodyOk cx 22 := ⟨Try.f22, Try.func22, by kernel_rfl, by kernel_rfl⟩
theorem bd23 : BodyOk cx 23 := ⟨Try.f23, Try.func23, by kernel_rfl, by kernel_rfl⟩
theorem bd24 : BodyOk cx 24 := ⟨Try.f24, Try.func24, by kernel_rfl, by kernel_rfl⟩
theorem bd25 : BodyOk cx 25 := ⟨Try.f25, Try.func25, by kernel_rfl, by kernel_rfl⟩
theorem bd26 : BodyOk cx 26 := ⟨Try.f26, Try.func26, by kernel_rfl, by kernel_rfl⟩
theorem bd27 : BodyOk cx 27 := ⟨Try.f27, Try.func27, by kernel_rfl, by kernel_rfl⟩
theorem bd28 : BodyOk cx 28 := ⟨Try.f28, Try.func28, by kernel_rfl, by kernel_rfl⟩
theorem bd29 : BodyOk cx 29 := ⟨Try.f29, Try.func29, by kernel_rfl, by kernel_rfl⟩
theorem bd31 : BodyOk cx 31 := ⟨Try.f31, Try.func31, by kernel_rfl, by kernel_rfl⟩
theorem bd32 : BodyOk cx 32 := ⟨Try.f32, Try.func32, by kernel_rfl, by kernel_rfl⟩
theorem bd33 : BodyOk cx 33 := ⟨Try.f33, Try.func33, by kernel_rfl, by kernel_rfl⟩
theorem bd34 : BodyOk cx 34 := ⟨Try.f34, Try.func34, by kernel_rfl, by kernel_rfl⟩
theorem bd35 : BodyOk cx 35 := ⟨Try.f35, Try.func35, by kernel_rfl, by kernel_rfl⟩
theorem bd36 : BodyOk cx 36 := ⟨Try.f36, Try.func36, by kernel_rfl, by kernel_rfl⟩
theorem bd38 : BodyOk cx 38 := ⟨Try.f38, Try.func38, by kernel_rfl, by kernel_rfl⟩
theorem bd39 : BodyOk cx 39 := ⟨Try.f39, Try.func39, by kernel_rfl, by kernel_rfl⟩
theorem bd40 : BodyOk cx 40 := ⟨Try.f40, Try.func40, by kernel_rfl, by kernel_rfl⟩
theorem bd41 : BodyOk cx 41 := ⟨Try.f41, Try.func41, by kernel_rfl, by kernel_rfl⟩
theorem bd42 : BodyOk cx 42 := ⟨Try.f42, Try.func42, by kernel_rfl, by kernel_rfl⟩
theorem bd43 : BodyOk cx 43 := ⟨Try.f43, Try.func43, by kernel_rfl, by kernel_rfl⟩
theorem bd44 : BodyOk cx 44 := ⟨Try.f44, Try.func44, by kernel_rfl, by kernel_rfl⟩
theorem bd48 : BodyOk cx 48 := ⟨Try.f48, Try.func48, by kernel_rfl, by kernel_rfl⟩
theorem bd49 : BodyOk cx 49 := ⟨Try.f49, Try.func49, by kernel_rfl, by kernel_rfl⟩
theorem bd50 : BodyOk cx 50 := ⟨Try.f50, Try.func50, by kernel_rfl, by kernel_rfl⟩
theorem bd52 : BodyOk cx 52 := ⟨Try.f52, Try.func52, by kernel_rfl, by kernel_rfl⟩
theorem bd53 : BodyOk cx 53 := ⟨Try.f53, Try.func53, by kernel_rfl, by kernel_rfl⟩
theorem bd54 : BodyOk cx 54 := ⟨Try.f54, Try.func54, by kernel_rfl, by kernel_rfl⟩
theorem bd55 : BodyOk cx 55 := ⟨Try.f55, Try.func55, by kernel_rfl, by kernel_rfl⟩
theorem bd56 : BodyOk cx 56 := ⟨Try.f56, Try.func56, by kernel_rfl, by kernel_rfl⟩
theorem bd59 : BodyOk cx 59 := ⟨Try.f59, Try.func59, by kernel_rfl, by kernel_rfl⟩
theorem bd60 : BodyOk cx 60 := ⟨Try.f60, Try.func60, by kernel_rfl, by kernel_rfl⟩
theorem bd61 : BodyOk cx 61 := ⟨Try.f61, Try.func61, by kernel_rfl, by kernel_rfl⟩
theorem bd62 : BodyOk cx 62 := ⟨Try.f62, Try.func62, by kernel_rfl, by kernel_rfl⟩
theorem bd63 : BodyOk cx 63 := ⟨Try.f63, Try.func63, by kernel_rfl, by kernel_rfl⟩
theorem bd64 : BodyOk cx 64 := ⟨Try.f64, Try.func64, by kernel_rfl, by kernel_rfl⟩
theorem bd65 : BodyOk cx 65 := ⟨Try.f65, Try.func65, by kernel_rfl, by kernel_rfl⟩
theorem bd77 : BodyOk cx 77 := ⟨Try.f77, Try.func77, by kernel_rfl, by kernel_rfl⟩
theorem bd78 : BodyOk cx 78 := ⟨Try.f78, Try.func78, by kernel_rfl, by kernel_rfl⟩
theorem bds : AllOf (BodyOk cx) nums := ⟨bd3, bd4, bd5, bd7, bd8, bd9, bd10, bd11, bd12, bd13, bd14, bd15, bd16, bd17, bd21, bd22, bd23, bd24, bd25, bd26, bd27, bd28, bd29, bd31, bd32, bd33, bd34, bd35, bd36, bd38, bd39, bd40, bd41, bd42, bd43, bd44, bd48, bd49, bd50, bd52, bd53, bd54, bd55, bd56, bd59, bd60, bd61, bd62, bd63, bd64, bd65, bd77, bd78, trivial⟩
theorem ext_ok : ExtOk cx := by
  refine ext_table (l := []) rfl fun p hp => ?_
  cases hp
theorem prog_ok : ProgOk cx := ⟨by kernel_rfl, ext_ok, fm_ok2 rfl bds⟩
namespace R
def nums : List Nat := [3, 7, 8, 9, 10, 11, 12, 16, 17, 21, 22, 23, 24, 25, 26, 27, 29, 31, 32, 33, 34, 35, 36, 38, 39, 40, 41, 42, 44, 48, 49, 50, 52, 53, 54, 55, 56, 59, 60, 61, 62, 63, 64, 65, 77, 78]
noncomputable def cx : Cx := { P := Try.prog, fm := fmOf nums, gm := fun _ => none, ext := extOf [], bt := none }
def tree0 : Tr LF := (.node (.node (.node (.node (.node (.node (.node .leaf (some (.code pf_chain_Chain_step)) .leaf) (some (.code pf_pack_Reader_fail)) .leaf) none .leaf) (some (.code pf_slot_New)) (.node (.node .leaf (some (.code pf_item_Store_Put)) .leaf) (some (.code pf_slot_Slot_reset)) (.node .leaf (some (.code pf_pack_num)) .leaf))) (some (.code pf_depotlaw17_SlotRuns)) (.node (.node (.node .leaf (some (.code pf_wire_role)) .leaf) none .leaf) (some (.code pf_slot_Slot_On)) (.node .leaf (some (.code pf_slot_Slot_clear)) (.node .leaf (some (.code pf_item_Store_Peek)) .leaf)))) none (.node (.node (.node (.node (.node .leaf (some (.code pf_chain_find)) .leaf) (some (.code pf_chain_New)) .leaf) (some (.code pf_pack_Reader_At)) (.node .leaf (some (.code pf_slab_Slab_Class)) .leaf)) (some (.code pf_depotlaw17_ask)) (.node (.node .leaf (some (.code pf_pack_Num)) .leaf) (some (.code pf_slot_Slot_Take_1)) .leaf)) none (.node (.node .leaf (some (.code pf_item_New)) (.node .leaf (some (.code pf_item_Store_in)) .leaf)) none (.node (.node (.node .leaf (some (.code pf_slab_Slab_Read)) .leaf) none .leaf) (some (.code pf_pack_grown)) (.node .leaf (some (.code pf_slab_Slab_Free)) .leaf))))) none (.node (.node (.node (.node (.node (.node .leaf (some (.code pf_chain_Chain_bucket)) .leaf) (some (.code pf_slab_New)) .leaf) (some (.code pf_pack_Read)) (.node .leaf (some (.code pf_item_Store_Get)) .leaf)) (some (.code pf_slot_Slot_Take)) (.node (.node .leaf (some (.code pf_slot_name)) .leaf) (some (.code pf_slices_DeleteFunc_slot_did_slot_did)) (.node .leaf (some (.code pf_chain_Chain_Get)) .leaf))) none (.node (.node (.node .leaf (some (.code pf_slices_IndexFunc_slot_did_slot_did)) .leaf) none (.node .leaf (some (.code pf_item_Store_gone)) .leaf)) (some (.code pf_slot_Slot_Inc)) (.node (.node .leaf (some (.code pf_pack_Reader_Num)) .leaf) none (.node .leaf (some (.code pf_item_Store_out)) .leaf)))) none (.node (.node (.node (.node .leaf (some (.code pf_wire_within)) .leaf) none (.node .leaf (some (.code pf_slab_Slab_Alloc)) .leaf)) (some (.code pf_slot_Slot_Wipe)) (.node (.node .leaf (some (.code pf_item_Store_Drop)) .leaf) (some (.code pf_slot_Slot_do)) .leaf)) none (.node (.node (.node .leaf (some (.code pf_slot_Slot_stands)) .leaf) (some (.code pf_wire_Right)) (.node .leaf (some (.code pf_chain_Chain_Put)) .leaf)) none (.node (.node (.node .leaf (some (.code pf_chain_Hash)) .leaf) none .leaf) none (.node .leaf (some (.code pf_chain_Chain_Drop)) .leaf))))))
theorem tr3 : trF cx Try.f3 = pf_depotlaw17_SlotRuns := by kernel_rfl
theorem bd3 : BodyOk cx 3 := ⟨Try.f3, Try.func3, by kernel_rfl, by kernel_rfl⟩
theorem tr7 : trF cx Try.f7 = pf_slot_New := by kernel_rfl
theorem bd7 : BodyOk cx 7 := ⟨Try.f7, Try.func7, by kernel_rfl, by kernel_rfl⟩
theorem tr8 : trF cx Try.f8 = pf_slot_Slot_Take := by kernel_rfl
theorem bd8 : BodyOk cx 8 := ⟨Try.f8, Try.func8, by kernel_rfl, by kernel_rfl⟩
theorem tr9 : trF cx Try.f9 = pf_depotlaw17_ask := by kernel_rfl
theorem bd9 : BodyOk cx 9 := ⟨Try.f9, Try.func9, by kernel_rfl, by kernel_rfl⟩
theorem tr10 : trF cx Try.f10 = pf_slot_Slot_Wipe := by kernel_rfl
theorem bd10 : BodyOk cx 10 := ⟨Try.f10, Try.func10, by kernel_rfl, by kernel_rfl⟩
theorem tr11 : trF cx Try.f11 = pf_slot_Slot_On := by kernel_rfl
theorem bd11 : BodyOk cx 11 := ⟨Try.f11, Try.func11, by kernel_rfl, by kernel_rfl⟩
theorem tr12 : trF cx Try.f12 = pf_slot_Slot_Inc := by kernel_rfl
theorem bd12 : BodyOk cx 12 := ⟨Try.f12, Try.func12, by kernel_rfl, by kernel_rfl⟩
theorem tr16 : trF cx Try.f16 = pf_pack_Read := by kernel_rfl
theorem bd16 : BodyOk cx 16 := ⟨Try.f16, Try.func16, by kernel_rfl, by kernel_rfl⟩
theorem tr17 : trF cx Try.f17 = pf_pack_Reader_At := by kernel_rfl
theorem bd17 : BodyOk cx 17 := ⟨Try.f17, Try.func17, by kernel_rfl, by kernel_rfl⟩
theorem tr21 : trF cx Try.f21 = pf_item_New := by kernel_rfl
theorem bd21 : BodyOk cx 21 := ⟨Try.f21, Try.func21, by kernel_rfl, by kernel_rfl⟩
theorem tr22 : trF cx Try.f22 = pf_wire_Right := by kernel_rfl
theorem bd22 : BodyOk cx 22 := ⟨Try.f22, Try.func22, by kernel_rfl, by kernel_rfl⟩
theorem tr23 : trF cx Try.f23 = pf_slot_Slot_reset := by kernel_rfl
theorem bd23 : BodyOk cx 23 := ⟨Try.f23, Try.func23, by kernel_rfl, by kernel_rfl⟩
theorem tr24 : trF cx Try.f24 = pf_slices_DeleteFunc_slot_did_slot_did := by kernel_rfl
theorem bd24 : BodyOk cx 24 := ⟨Try.f24, Try.func24, by kernel_rfl, by kernel_rfl⟩
theorem tr25 : trF cx Try.f25 = pf_slot_Slot_Take_1 := by kernel_rfl
theorem bd25 : BodyOk cx 25 := ⟨Try.f25, Try.func25, by kernel_rfl, by kernel_rfl⟩
theorem tr26 : trF cx Try.f26 = pf_slot_Slot_do := by kernel_rfl
theorem bd26 : BodyOk cx 26 := ⟨Try.f26, Try.func26, by kernel_rfl, by kernel_rfl⟩
theorem tr27 : trF cx Try.f27 = pf_slot_Slot_clear := by kernel_rfl
theorem bd27 : BodyOk cx 27 := ⟨Try.f27, Try.func27, by kernel_rfl, by kernel_rfl⟩
theorem tr29 : trF cx Try.f29 = pf_pack_grown := by kernel_rfl
theorem bd29 : BodyOk cx 29 := ⟨Try.f29, Try.func29, by kernel_rfl, by kernel_rfl⟩
theorem tr31 : trF cx Try.f31 = pf_pack_Reader_fail := by kernel_rfl
theorem bd31 : BodyOk cx 31 := ⟨Try.f31, Try.func31, by kernel_rfl, by kernel_rfl⟩
theorem tr32 : trF cx Try.f32 = pf_slab_New := by kernel_rfl
theorem bd32 : BodyOk cx 32 := ⟨Try.f32, Try.func32, by kernel_rfl, by kernel_rfl⟩
theorem tr33 : trF cx Try.f33 = pf_chain_New := by kernel_rfl
theorem bd33 : BodyOk cx 33 := ⟨Try.f33, Try.func33, by kernel_rfl, by kernel_rfl⟩
theorem tr34 : trF cx Try.f34 = pf_wire_within := by kernel_rfl
theorem bd34 : BodyOk cx 34 := ⟨Try.f34, Try.func34, by kernel_rfl, by kernel_rfl⟩
theorem tr35 : trF cx Try.f35 = pf_wire_role := by kernel_rfl
theorem bd35 : BodyOk cx 35 := ⟨Try.f35, Try.func35, by kernel_rfl, by kernel_rfl⟩
theorem tr36 : trF cx Try.f36 = pf_slices_IndexFunc_slot_did_slot_did := by kernel_rfl
theorem bd36 : BodyOk cx 36 := ⟨Try.f36, Try.func36, by kernel_rfl, by kernel_rfl⟩
theorem tr38 : trF cx Try.f38 = pf_slot_Slot_stands := by kernel_rfl
theorem bd38 : BodyOk cx 38 := ⟨Try.f38, Try.func38, by kernel_rfl, by kernel_rfl⟩
theorem tr39 : trF cx Try.f39 = pf_item_Store_Put := by kernel_rfl
theorem bd39 : BodyOk cx 39 := ⟨Try.f39, Try.func39, by kernel_rfl, by kernel_rfl⟩
theorem tr40 : trF cx Try.f40 = pf_slot_name := by kernel_rfl
theorem bd40 : BodyOk cx 40 := ⟨Try.f40, Try.func40, by kernel_rfl, by kernel_rfl⟩
theorem tr41 : trF cx Try.f41 = pf_pack_Num := by kernel_rfl
theorem bd41 : BodyOk cx 41 := ⟨Try.f41, Try.func41, by kernel_rfl, by kernel_rfl⟩
theorem tr42 : trF cx Try.f42 = pf_item_Store_Drop := by kernel_rfl
theorem bd42 : BodyOk cx 42 := ⟨Try.f42, Try.func42, by kernel_rfl, by kernel_rfl⟩
theorem tr44 : trF cx Try.f44 = pf_pack_Reader_Num := by kernel_rfl
theorem bd44 : BodyOk cx 44 := ⟨Try.f44, Try.func44, by kernel_rfl, by kernel_rfl⟩
theorem tr48 : trF cx Try.f48 = pf_item_Store_Get := by kernel_rfl
theorem bd48 : BodyOk cx 48 := ⟨Try.f48, Try.func48, by kernel_rfl, by kernel_rfl⟩
theorem tr49 : trF cx Try.f49 = pf_slab_Slab_Class := by kernel_rfl
theorem bd49 : BodyOk cx 49 := ⟨Try.f49, Try.func49, by kernel_rfl, by kernel_rfl⟩
theorem tr50 : trF cx Try.f50 = pf_slab_Slab_Alloc := by kernel_rfl
theorem bd50 : BodyOk cx 50 := ⟨Try.f50, Try.func50, by kernel_rfl, by kernel_rfl⟩
theorem tr52 : trF cx Try.f52 = pf_item_Store_gone := by kernel_rfl
theorem bd52 : BodyOk cx 52 := ⟨Try.f52, Try.func52, by kernel_rfl, by kernel_rfl⟩
theorem tr53 : trF cx Try.f53 = pf_item_Store_in := by kernel_rfl
theorem bd53 : BodyOk cx 53 := ⟨Try.f53, Try.func53, by kernel_rfl, by kernel_rfl⟩
theorem tr54 : trF cx Try.f54 = pf_chain_Chain_Put := by kernel_rfl
theorem bd54 : BodyOk cx 54 := ⟨Try.f54, Try.func54, by kernel_rfl, by kernel_rfl⟩
theorem tr55 : trF cx Try.f55 = pf_pack_num := by kernel_rfl
theorem bd55 : BodyOk cx 55 := ⟨Try.f55, Try.func55, by kernel_rfl, by kernel_rfl⟩
theorem tr56 : trF cx Try.f56 = pf_chain_Chain_Get := by kernel_rfl
theorem bd56 : BodyOk cx 56 := ⟨Try.f56, Try.func56, by kernel_rfl, by kernel_rfl⟩
theorem tr59 : trF cx Try.f59 = pf_item_Store_Peek := by kernel_rfl
theorem bd59 : BodyOk cx 59 := ⟨Try.f59, Try.func59, by kernel_rfl, by kernel_rfl⟩
theorem tr60 : trF cx Try.f60 = pf_item_Store_out := by kernel_rfl
theorem bd60 : BodyOk cx 60 := ⟨Try.f60, Try.func60, by kernel_rfl, by kernel_rfl⟩
theorem tr61 : trF cx Try.f61 = pf_slab_Slab_Free := by kernel_rfl
theorem bd61 : BodyOk cx 61 := ⟨Try.f61, Try.func61, by kernel_rfl, by kernel_rfl⟩
theorem tr62 : trF cx Try.f62 = pf_chain_Chain_Drop := by kernel_rfl
theorem bd62 : BodyOk cx 62 := ⟨Try.f62, Try.func62, by kernel_rfl, by kernel_rfl⟩
theorem tr63 : trF cx Try.f63 = pf_chain_Chain_step := by kernel_rfl
theorem bd63 : BodyOk cx 63 := ⟨Try.f63, Try.func63, by kernel_rfl, by kernel_rfl⟩
theorem tr64 : trF cx Try.f64 = pf_chain_Chain_bucket := by kernel_rfl
theorem bd64 : BodyOk cx 64 := ⟨Try.f64, Try.func64, by kernel_rfl, by kernel_rfl⟩
theorem tr65 : trF cx Try.f65 = pf_chain_find := by kernel_rfl
theorem bd65 : BodyOk cx 65 := ⟨Try.f65, Try.func65, by kernel_rfl, by kernel_rfl⟩
theorem tr77 : trF cx Try.f77 = pf_slab_Slab_Read := by kernel_rfl
theorem bd77 : BodyOk cx 77 := ⟨Try.f77, Try.func77, by kernel_rfl, by kernel_rfl⟩
theorem tr78 : trF cx Try.f78 = pf_chain_Hash := by kernel_rfl
theorem bd78 : BodyOk cx 78 := ⟨Try.f78, Try.func78, by kernel_rfl, by kernel_rfl⟩
theorem bds : AllOf (BodyOk cx) nums := ⟨bd3, bd7, bd8, bd9, bd10, bd11, bd12, bd16, bd17, bd21, bd22, bd23, bd24, bd25, bd26, bd27, bd29, bd31, bd32, bd33, bd34, bd35, bd36, bd38, bd39, bd40, bd41, bd42, bd44, bd48, bd49, bd50, bd52, bd53, bd54, bd55, bd56, bd59, bd60, bd61, bd62, bd63, bd64, bd65, bd77, bd78, trivial⟩
theorem ext_ok : ExtOk cx := by
  refine ext_table (l := []) rfl fun p hp => ?_
  cases hp
theorem prog_ok : ProgOk cx := ⟨by kernel_rfl, ext_ok, fm_ok2 rfl bds⟩
theorem ok3 : EntOk cx tree0.get 3 := .inl ⟨Try.f3, Try.func3, by rw [tr3]; kernel_rfl⟩
theorem ok7 : EntOk cx tree0.get 7 := .inl ⟨Try.f7, Try.func7, by rw [tr7]; kernel_rfl⟩
theorem ok8 : EntOk cx tree0.get 8 := .inl ⟨Try.f8, Try.func8, by rw [tr8]; kernel_rfl⟩
theorem ok9 : EntOk cx tree0.get 9 := .inl ⟨Try.f9, Try.func9, by rw [tr9]; kernel_rfl⟩
theorem ok10 : EntOk cx tree0.get 10 := .inl ⟨Try.f10, Try.func10, by rw [tr10]; kernel_rfl⟩
theorem ok11 : EntOk cx tree0.get 11 := .inl ⟨Try.f11, Try.func11, by rw [tr11]; kernel_rfl⟩
theorem ok12 : EntOk cx tree0.get 12 := .inl ⟨Try.f12, Try.func12, by rw [tr12]; kernel_rfl⟩
theorem ok16 : EntOk cx tree0.get 16 := .inl ⟨Try.f16, Try.func16, by rw [tr16]; kernel_rfl⟩
theorem ok17 : EntOk cx tree0.get 17 := .inl ⟨Try.f17, Try.func17, by rw [tr17]; kernel_rfl⟩
theorem ok21 : EntOk cx tree0.get 21 := .inl ⟨Try.f21, Try.func21, by rw [tr21]; kernel_rfl⟩
theorem ok22 : EntOk cx tree0.get 22 := .inl ⟨Try.f22, Try.func22, by rw [tr22]; kernel_rfl⟩
theorem ok23 : EntOk cx tree0.get 23 := .inl ⟨Try.f23, Try.func23, by rw [tr23]; kernel_rfl⟩
theorem ok24 : EntOk cx tree0.get 24 := .inl ⟨Try.f24, Try.func24, by rw [tr24]; kernel_rfl⟩
theorem ok25 : EntOk cx tree0.get 25 := .inl ⟨Try.f25, Try.func25, by rw [tr25]; kernel_rfl⟩
theorem ok26 : EntOk cx tree0.get 26 := .inl ⟨Try.f26, Try.func26, by rw [tr26]; kernel_rfl⟩
theorem ok27 : EntOk cx tree0.get 27 := .inl ⟨Try.f27, Try.func27, by rw [tr27]; kernel_rfl⟩
theorem ok29 : EntOk cx tree0.get 29 := .inl ⟨Try.f29, Try.func29, by rw [tr29]; kernel_rfl⟩
theorem ok31 : EntOk cx tree0.get 31 := .inl ⟨Try.f31, Try.func31, by rw [tr31]; kernel_rfl⟩
theorem ok32 : EntOk cx tree0.get 32 := .inl ⟨Try.f32, Try.func32, by rw [tr32]; kernel_rfl⟩
theorem ok33 : EntOk cx tree0.get 33 := .inl ⟨Try.f33, Try.func33, by rw [tr33]; kernel_rfl⟩
theorem ok34 : EntOk cx tree0.get 34 := .inl ⟨Try.f34, Try.func34, by rw [tr34]; kernel_rfl⟩
theorem ok35 : EntOk cx tree0.get 35 := .inl ⟨Try.f35, Try.func35, by rw [tr35]; kernel_rfl⟩
theorem ok36 : EntOk cx tree0.get 36 := .inl ⟨Try.f36, Try.func36, by rw [tr36]; kernel_rfl⟩
theorem ok38 : EntOk cx tree0.get 38 := .inl ⟨Try.f38, Try.func38, by rw [tr38]; kernel_rfl⟩
theorem ok39 : EntOk cx tree0.get 39 := .inl ⟨Try.f39, Try.func39, by rw [tr39]; kernel_rfl⟩
theorem ok40 : EntOk cx tree0.get 40 := .inl ⟨Try.f40, Try.func40, by rw [tr40]; kernel_rfl⟩
theorem ok41 : EntOk cx tree0.get 41 := .inl ⟨Try.f41, Try.func41, by rw [tr41]; kernel_rfl⟩
theorem ok42 : EntOk cx tree0.get 42 := .inl ⟨Try.f42, Try.func42, by rw [tr42]; kernel_rfl⟩
theorem ok44 : EntOk cx tree0.get 44 := .inl ⟨Try.f44, Try.func44, by rw [tr44]; kernel_rfl⟩
theorem ok48 : EntOk cx tree0.get 48 := .inl ⟨Try.f48, Try.func48, by rw [tr48]; kernel_rfl⟩
theorem ok49 : EntOk cx tree0.get 49 := .inl ⟨Try.f49, Try.func49, by rw [tr49]; kernel_rfl⟩
theorem ok50 : EntOk cx tree0.get 50 := .inl ⟨Try.f50, Try.func50, by rw [tr50]; kernel_rfl⟩
theorem ok52 : EntOk cx tree0.get 52 := .inl ⟨Try.f52, Try.func52, by rw [tr52]; kernel_rfl⟩
theorem ok53 : EntOk cx tree0.get 53 := .inl ⟨Try.f53, Try.func53, by rw [tr53]; kernel_rfl⟩
theorem ok54 : EntOk cx tree0.get 54 := .inl ⟨Try.f54, Try.func54, by rw [tr54]; kernel_rfl⟩
theorem ok55 : EntOk cx tree0.get 55 := .inl ⟨Try.f55, Try.func55, by rw [tr55]; kernel_rfl⟩
theorem ok56 : EntOk cx tree0.get 56 := .inl ⟨Try.f56, Try.func56, by rw [tr56]; kernel_rfl⟩
theorem ok59 : EntOk cx tree0.get 59 := .inl ⟨Try.f59, Try.func59, by rw [tr59]; kernel_rfl⟩
theorem ok60 : EntOk cx tree0.get 60 := .inl ⟨Try.f60, Try.func60, by rw [tr60]; kernel_rfl⟩
theorem ok61 : EntOk cx tree0.get 61 := .inl ⟨Try.f61, Try.func61, by rw [tr61]; kernel_rfl⟩
theorem ok62 : EntOk cx tree0.get 62 := .inl ⟨Try.f62, Try.func62, by rw [tr62]; kernel_rfl⟩
theorem ok63 : EntOk cx tree0.get 63 := .inl ⟨Try.f63, Try.func63, by rw [tr63]; kernel_rfl⟩
theorem ok64 : EntOk cx tree0.get 64 := .inl ⟨Try.f64, Try.func64, by rw [tr64]; kernel_rfl⟩
theorem ok65 : EntOk cx tree0.get 65 := .inl ⟨Try.f65, Try.func65, by rw [tr65]; kernel_rfl⟩
theorem ok77 : EntOk cx tree0.get 77 := .inl ⟨Try.f77, Try.func77, by rw [tr77]; kernel_rfl⟩
theorem ok78 : EntOk cx tree0.get 78 := .inl ⟨Try.f78, Try.func78, by rw [tr78]; kernel_rfl⟩
theorem oks : AllOf (EntOk cx tree0.get) nums := ⟨ok3, ok7, ok8, ok9, ok10, ok11, ok12, ok16, ok17, ok21, ok22, ok23, ok24, ok25, ok26, ok27, ok29, ok31, ok32, ok33, ok34, ok35, ok36, ok38, ok39, ok40, ok41, ok42, ok44, ok48, ok49, ok50, ok52, ok53, ok54, ok55, ok56, ok59, ok60, ok61, ok62, ok63, ok64, ok65, ok77, ok78, trivial⟩
theorem lib_ok0 : LibOk cx tree0.get := lib_ok2 rfl oks
theorem run_depotlaw17_SlotRuns : isTrue (call tree0.get 900 3 [] noHeap) = true := by decide +kernel
theorem walk_depotlaw17_SlotRuns (w : World) : Calls cx.P 3 #[] w fun e w' => e = .returned (.bool true) ∧ Go.RowKit.Below w.heap.size w w' :=
  run_closed prog_ok lib_ok0 (fun _ => rfl) (g := 3) (f := 3) rfl run_depotlaw17_SlotRuns w
end R
def lib : Lib := fun f => bif Nat.beq f 3 then some (.prim runsPrim) else tree0.get f
theorem lk3 : EntOk cx lib 3 := ent_runs (fun w => R.walk_depotlaw17_SlotRuns w) rfl
theorem lk4 : EntOk cx lib 4 := .inl ⟨Try.f4, Try.func4, by rw [tr_depotlaw17_SlotOnce]; kernel_rfl⟩
theorem at_depotlaw17_SlotOnce : lib n_depotlaw17_SlotOnce = some (.code pf_depotlaw17_SlotOnce) := by kernel_rfl
theorem lk5 : EntOk cx lib 5 := .inl ⟨Try.f5, Try.func5, by rw [tr_depotlaw17_SlotFences]; kernel_rfl⟩
theorem at_depotlaw17_SlotFences : lib n_depotlaw17_SlotFences = some (.code pf_depotlaw17_SlotFences) := by kernel_rfl
theorem lk7 : EntOk cx lib 7 := .inl ⟨Try.f7, Try.func7, by rw [tr_slot_New]; kernel_rfl⟩
theorem at_slot_New : lib n_slot_New = some (.code pf_slot_New) := by kernel_rfl
theorem lk8 : EntOk cx lib 8 := .inl ⟨Try.f8, Try.func8, by rw [tr_slot_Slot_Take]; kernel_rfl⟩
theorem at_slot_Slot_Take : lib n_slot_Slot_Take = some (.code pf_slot_Slot_Take) := by kernel_rfl
theorem lk9 : EntOk cx lib 9 := .inl ⟨Try.f9, Try.func9, by rw [tr_depotlaw17_ask]; kernel_rfl⟩
theorem at_depotlaw17_ask : lib n_depotlaw17_ask = some (.code pf_depotlaw17_ask) := by kernel_rfl
theorem lk10 : EntOk cx lib 10 := .inl ⟨Try.f10, Try.func10, by rw [tr_slot_Slot_Wipe]; kernel_rfl⟩
theorem at_slot_Slot_Wipe : lib n_slot_Slot_Wipe = some (.code pf_slot_Slot_Wipe) := by kernel_rfl
theorem lk11 : EntOk cx lib 11 := .inl ⟨Try.f11, Try.func11, by rw [tr_slot_Slot_On]; kernel_rfl⟩
theorem at_slot_Slot_On : lib n_slot_Slot_On = some (.code pf_slot_Slot_On) := by kernel_rfl
theorem lk12 : EntOk cx lib 12 := .inl ⟨Try.f12, Try.func12, by rw [tr_slot_Slot_Inc]; kernel_rfl⟩
theorem at_slot_Slot_Inc : lib n_slot_Slot_Inc = some (.code pf_slot_Slot_Inc) := by kernel_rfl
theorem lk13 : EntOk cx lib 13 := .inl ⟨Try.f13, Try.func13, by rw [tr_depotbook_Within]; kernel_rfl⟩
theorem at_depotbook_Within : lib n_depotbook_Within = some (.code pf_depotbook_Within) := by kernel_rfl
theorem lk14 : EntOk cx lib 14 := .inl ⟨Try.f14, Try.func14, by rw [tr_depotlaw17_light]; kernel_rfl⟩
theorem at_depotlaw17_light : lib n_depotlaw17_light = some (.code pf_depotlaw17_light) := by kernel_rfl
theorem lk15 : EntOk cx lib 15 := .inl ⟨Try.f15, Try.func15, by rw [tr_slot_Slot_Len]; kernel_rfl⟩
theorem at_slot_Slot_Len : lib n_slot_Slot_Len = some (.code pf_slot_Slot_Len) := by kernel_rfl
theorem lk16 : EntOk cx lib 16 := .inl ⟨Try.f16, Try.func16, by rw [tr_pack_Read]; kernel_rfl⟩
theorem at_pack_Read : lib n_pack_Read = some (.code pf_pack_Read) := by kernel_rfl
theorem lk17 : EntOk cx lib 17 := .inl ⟨Try.f17, Try.func17, by rw [tr_pack_Reader_At]; kernel_rfl⟩
theorem at_pack_Reader_At : lib n_pack_Reader_At = some (.code pf_pack_Reader_At) := by kernel_rfl
theorem lk21 : EntOk cx lib 21 := .inl ⟨Try.f21, Try.func21, by rw [tr_item_New]; kernel_rfl⟩
theorem at_item_New : lib n_item_New = some (.code pf_item_New) := by kernel_rfl
theorem lk22 : EntOk cx lib 22 := .inl ⟨Try.f22, Try.func22, by rw [tr_wire_Right]; kernel_rfl⟩
theorem at_wire_Right : lib n_wire_Right = some (.code pf_wire_Right) := by kernel_rfl
theorem lk23 : EntOk cx lib 23 := .inl ⟨Try.f23, Try.func23, by rw [tr_slot_Slot_reset]; kernel_rfl⟩
theorem at_slot_Slot_reset : lib n_slot_Slot_reset = some (.code pf_slot_Slot_reset) := by kernel_rfl
theorem lk24 : EntOk cx lib 24 := .inl ⟨Try.f24, Try.func24, by rw [tr_slices_DeleteFunc_slot_did_slot_did]; kernel_rfl⟩
theorem at_slices_DeleteFunc_slot_did_slot_did : lib n_slices_DeleteFunc_slot_did_slot_did = some (.code pf_slices_DeleteFunc_slot_did_slot_did) := by kernel_rfl
theorem lk25 : EntOk cx lib 25 := .inl ⟨Try.f25, Try.func25, by rw [tr_slot_Slot_Take_1]; kernel_rfl⟩
theorem at_slot_Slot_Take_1 : lib n_slot_Slot_Take_1 = some (.code pf_slot_Slot_Take_1) := by kernel_rfl
theorem lk26 : EntOk cx lib 26 := .inl ⟨Try.f26, Try.func26, by rw [tr_slot_Slot_do]; kernel_rfl⟩
theorem at_slot_Slot_do : lib n_slot_Slot_do = some (.code pf_slot_Slot_do) := by kernel_rfl
theorem lk27 : EntOk cx lib 27 := .inl ⟨Try.f27, Try.func27, by rw [tr_slot_Slot_clear]; kernel_rfl⟩
theorem at_slot_Slot_clear : lib n_slot_Slot_clear = some (.code pf_slot_Slot_clear) := by kernel_rfl
theorem lk28 : EntOk cx lib 28 := .inl ⟨Try.f28, Try.func28, by rw [tr_item_Store_Len]; kernel_rfl⟩
theorem at_item_Store_Len : lib n_item_Store_Len = some (.code pf_item_Store_Len) := by kernel_rfl
theorem lk29 : EntOk cx lib 29 := .inl ⟨Try.f29, Try.func29, by rw [tr_pack_grown]; kernel_rfl⟩
theorem at_pack_grown : lib n_pack_grown = some (.code pf_pack_grown) := by kernel_rfl
theorem lk31 : EntOk cx lib 31 := .inl ⟨Try.f31, Try.func31, by rw [tr_pack_Reader_fail]; kernel_rfl⟩
theorem at_pack_Reader_fail : lib n_pack_Reader_fail = some (.code pf_pack_Reader_fail) := by kernel_rfl
theorem lk32 : EntOk cx lib 32 := .inl ⟨Try.f32, Try.func32, by rw [tr_slab_New]; kernel_rfl⟩
theorem at_slab_New : lib n_slab_New = some (.code pf_slab_New) := by kernel_rfl
theorem lk33 : EntOk cx lib 33 := .inl ⟨Try.f33, Try.func33, by rw [tr_chain_New]; kernel_rfl⟩
theorem at_chain_New : lib n_chain_New = some (.code pf_chain_New) := by kernel_rfl
theorem lk34 : EntOk cx lib 34 := .inl ⟨Try.f34, Try.func34, by rw [tr_wire_within]; kernel_rfl⟩
theorem at_wire_within : lib n_wire_within = some (.code pf_wire_within) := by kernel_rfl
theorem lk35 : EntOk cx lib 35 := .inl ⟨Try.f35, Try.func35, by rw [tr_wire_role]; kernel_rfl⟩
theorem at_wire_role : lib n_wire_role = some (.code pf_wire_role) := by kernel_rfl
theorem lk36 : EntOk cx lib 36 := .inl ⟨Try.f36, Try.func36, by rw [tr_slices_IndexFunc_slot_did_slot_did]; kernel_rfl⟩
theorem at_slices_IndexFunc_slot_did_slot_did : lib n_slices_IndexFunc_slot_did_slot_did = some (.code pf_slices_IndexFunc_slot_did_slot_did) := by kernel_rfl
theorem lk38 : EntOk cx lib 38 := .inl ⟨Try.f38, Try.func38, by rw [tr_slot_Slot_stands]; kernel_rfl⟩
theorem at_slot_Slot_stands : lib n_slot_Slot_stands = some (.code pf_slot_Slot_stands) := by kernel_rfl
theorem lk39 : EntOk cx lib 39 := .inl ⟨Try.f39, Try.func39, by rw [tr_item_Store_Put]; kernel_rfl⟩
theorem at_item_Store_Put : lib n_item_Store_Put = some (.code pf_item_Store_Put) := by kernel_rfl
theorem lk40 : EntOk cx lib 40 := .inl ⟨Try.f40, Try.func40, by rw [tr_slot_name]; kernel_rfl⟩
theorem at_slot_name : lib n_slot_name = some (.code pf_slot_name) := by kernel_rfl
theorem lk41 : EntOk cx lib 41 := .inl ⟨Try.f41, Try.func41, by rw [tr_pack_Num]; kernel_rfl⟩
theorem at_pack_Num : lib n_pack_Num = some (.code pf_pack_Num) := by kernel_rfl
theorem lk42 : EntOk cx lib 42 := .inl ⟨Try.f42, Try.func42, by rw [tr_item_Store_Drop]; kernel_rfl⟩
theorem at_item_Store_Drop : lib n_item_Store_Drop = some (.code pf_item_Store_Drop) := by kernel_rfl
theorem lk43 : EntOk cx lib 43 := .inl ⟨Try.f43, Try.func43, by rw [tr_chain_Chain_Len]; kernel_rfl⟩
theorem at_chain_Chain_Len : lib n_chain_Chain_Len = some (.code pf_chain_Chain_Len) := by kernel_rfl
theorem lk44 : EntOk cx lib 44 := .inl ⟨Try.f44, Try.func44, by rw [tr_pack_Reader_Num]; kernel_rfl⟩
theorem at_pack_Reader_Num : lib n_pack_Reader_Num = some (.code pf_pack_Reader_Num) := by kernel_rfl
theorem lk48 : EntOk cx lib 48 := .inl ⟨Try.f48, Try.func48, by rw [tr_item_Store_Get]; kernel_rfl⟩
theorem at_item_Store_Get : lib n_item_Store_Get = some (.code pf_item_Store_Get) := by kernel_rfl
theorem lk49 : EntOk cx lib 49 := .inl ⟨Try.f49, Try.func49, by rw [tr_slab_Slab_Class]; kernel_rfl⟩
theorem at_slab_Slab_Class : lib n_slab_Slab_Class = some (.code pf_slab_Slab_Class) := by kernel_rfl
theorem lk50 : EntOk cx lib 50 := .inl ⟨Try.f50, Try.func50, by rw [tr_slab_Slab_Alloc]; kernel_rfl⟩
theorem at_slab_Slab_Alloc : lib n_slab_Slab_Alloc = some (.code pf_slab_Slab_Alloc) := by kernel_rfl
theorem lk52 : EntOk cx lib 52 := .inl ⟨Try.f52, Try.func52, by rw [tr_item_Store_gone]; kernel_rfl⟩
theorem at_item_Store_gone : lib n_item_Store_gone = some (.code pf_item_Store_gone) := by kernel_rfl
theorem lk53 : EntOk cx lib 53 := .inl ⟨Try.f53, Try.func53, by rw [tr_item_Store_in]; kernel_rfl⟩
theorem at_item_Store_in : lib n_item_Store_in = some (.code pf_item_Store_in) := by kernel_rfl
theorem lk54 : EntOk cx lib 54 := .inl ⟨Try.f54, Try.func54, by rw [tr_chain_Chain_Put]; kernel_rfl⟩
theorem at_chain_Chain_Put : lib n_chain_Chain_Put = some (.code pf_chain_Chain_Put) := by kernel_rfl
theorem lk55 : EntOk cx lib 55 := .inl ⟨Try.f55, Try.func55, by rw [tr_pack_num]; kernel_rfl⟩
theorem at_pack_num : lib n_pack_num = some (.code pf_pack_num) := by kernel_rfl
theorem lk56 : EntOk cx lib 56 := .inl ⟨Try.f56, Try.func56, by rw [tr_chain_Chain_Get]; kernel_rfl⟩
theorem at_chain_Chain_Get : lib n_chain_Chain_Get = some (.code pf_chain_Chain_Get) := by kernel_rfl
theorem lk59 : EntOk cx lib 59 := .inl ⟨Try.f59, Try.func59, by rw [tr_item_Store_Peek]; kernel_rfl⟩
theorem at_item_Store_Peek : lib n_item_Store_Peek = some (.code pf_item_Store_Peek) := by kernel_rfl
theorem lk60 : EntOk cx lib 60 := .inl ⟨Try.f60, Try.func60, by rw [tr_item_Store_out]; kernel_rfl⟩
theorem at_item_Store_out : lib n_item_Store_out = some (.code pf_item_Store_out) := by kernel_rfl
theorem lk61 : EntOk cx lib 61 := .inl ⟨Try.f61, Try.func61, by rw [tr_slab_Slab_Free]; kernel_rfl⟩
theorem at_slab_Slab_Free : lib n_slab_Slab_Free = some (.code pf_slab_Slab_Free) := by kernel_rfl
theorem lk62 : EntOk cx lib 62 := .inl ⟨Try.f62, Try.func62, by rw [tr_chain_Chain_Drop]; kernel_rfl⟩
theorem at_chain_Chain_Drop : lib n_chain_Chain_Drop = some (.code pf_chain_Chain_Drop) := by kernel_rfl
theorem lk63 : EntOk cx lib 63 := .inl ⟨Try.f63, Try.func63, by rw [tr_chain_Chain_step]; kernel_rfl⟩
theorem at_chain_Chain_step : lib n_chain_Chain_step = some (.code pf_chain_Chain_step) := by kernel_rfl
theorem lk64 : EntOk cx lib 64 := .inl ⟨Try.f64, Try.func64, by rw [tr_chain_Chain_bucket]; kernel_rfl⟩
theorem at_chain_Chain_bucket : lib n_chain_Chain_bucket = some (.code pf_chain_Chain_bucket) := by kernel_rfl
theorem lk65 : EntOk cx lib 65 := .inl ⟨Try.f65, Try.func65, by rw [tr_chain_find]; kernel_rfl⟩
theorem at_chain_find : lib n_chain_find = some (.code pf_chain_find) := by kernel_rfl
theorem lk77 : EntOk cx lib 77 := .inl ⟨Try.f77, Try.func77, by rw [tr_slab_Slab_Read]; kernel_rfl⟩
theorem at_slab_Slab_Read : lib n_slab_Slab_Read = some (.code pf_slab_Slab_Read) := by kernel_rfl
theorem lk78 : EntOk cx lib 78 := .inl ⟨Try.f78, Try.func78, by rw [tr_chain_Hash]; kernel_rfl⟩
theorem at_chain_Hash : lib n_chain_Hash = some (.code pf_chain_Hash) := by kernel_rfl
theorem lks : AllOf (EntOk cx lib) nums := ⟨lk3, lk4, lk5, lk7, lk8, lk9, lk10, lk11, lk12, lk13, lk14, lk15, lk16, lk17, lk21, lk22, lk23, lk24, lk25, lk26, lk27, lk28, lk29, lk31, lk32, lk33, lk34, lk35, lk36, lk38, lk39, lk40, lk41, lk42, lk43, lk44, lk48, lk49, lk50, lk52, lk53, lk54, lk55, lk56, lk59, lk60, lk61, lk62, lk63, lk64, lk65, lk77, lk78, trivial⟩
theorem lib_ok : LibOk cx lib := lib_ok2 rfl lks
-- roots [3, 4, 5]
end Go.Proofs.Ytihoblfmhighpaa
