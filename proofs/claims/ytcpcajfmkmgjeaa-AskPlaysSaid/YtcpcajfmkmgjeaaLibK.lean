/- The functions that this seat's laws reach, for the clean machine; each is what the translation makes of the given text. Conditions: none. Printed by program. -/
import Derived.Test.YtcpcajfmkmgjeaaLibRK
import Derived.Test.YtcpcajfmkmgjeaaLibKA
namespace Go.Proofs.Ytcpcajfmkmgjeaa
open Go.Dp
def tree0 : Tr LF := (.node (.node (.node (.node (.node (.node .leaf (some (.code pf_slices_Index_int_int)) .leaf) (some (.code pf_depotlaw19_light)) (.node .leaf (some (.code pf_slices_xorshift_Next)) .leaf)) (some (.code pf_ask_New)) (.node (.node .leaf (some (.code pf_slices_partialInsertionSortOrdered_int)) .leaf) (some (.code pf_ask_Asks_floor)) .leaf)) none (.node (.node (.node .leaf (some (.code pf_slices_heapSortOrdered_int)) .leaf) (some (.code pf_depotbook_Same_api_Frame)) (.node .leaf (some (.code pf_slices_order2Ordered_int)) .leaf)) (some (.code pf_depotlaw19_AskOnce_1)) (.node (.node .leaf (some (.code pf_math_bits_Len32)) .leaf) (some (.code pf_depotref9_Right)) .leaf))) none (.node (.node (.node (.node .leaf (some (.code pf_math_bits_Len)) .leaf) (some (.code pf_depotref17_Asks_Answer)) (.node .leaf (some (.code pf_slices_medianOrdered_int)) .leaf)) (some (.code pf_ask_Asks_Answer)) (.node (.node .leaf (some (.code pf_slices_partitionEqualOrdered_int)) .leaf) (some (.code pf_slices_Contains_int_int)) .leaf)) (some (.code pf_depotlaw19_AskLate)) (.node (.node (.node .leaf (some (.code pf_slices_choosePivotOrdered_int)) .leaf) (some (.code pf_depotref17_Asks_Cancel)) .leaf) (some (.code pf_ask_Asks_List)) (.node (.node .leaf (some (.code pf_slices_siftDownOrdered_int)) .leaf) (some (.code pf_wire_within)) .leaf)))) none (.node (.node (.node (.node (.node .leaf (some (.code pf_slices_pdqsortOrdered_int)) .leaf) (some (.code pf_depotref17_Asks_Begin)) (.node .leaf (some (.code pf_slices_medianAdjacentOrdered_int)) .leaf)) (some (.code pf_ask_Asks_Begin)) (.node (.node .leaf (some (.code pf_cmp_Less_int)) .leaf) (some (.code pf_slices_Delete_ask_open_ask_open)) .leaf)) (some (.code pf_depotlaw19_AskOnce)) (.node (.node (.node .leaf (some (.code pf_slices_breakPatternsOrdered_int)) .leaf) (some (.code pf_depotbook_Same_int)) .leaf) (some (.code pf_depotbook_Within)) (.node (.node .leaf (some (.code pf_math_bits_Len64)) .leaf) (some (.code pf_depotref17_Asks_floor)) .leaf))) none (.node (.node (.node (.node .leaf (some (.code pf_slices_insertionSortOrdered_int)) .leaf) (some (.code pf_depotref17_Asks_Tick)) (.node .leaf (some (.code pf_cmp_isNaN_int)) .leaf)) (some (.code pf_ask_Asks_Tick)) (.node (.node .leaf (some (.code pf_slices_partitionOrdered_int)) .leaf) (some (.code pf_slices_Sort_int_int)) .leaf)) (some (.code pf_depotlaw19_AskPlays)) (.node (.node (.node .leaf (some (.code pf_slices_reverseRangeOrdered_int)) .leaf) (some (.code pf_wire_Right)) .leaf) (some (.code pf_ask_Asks_Cancel)) (.node (.node .leaf (some (.code pf_slices_nextPowerOfTwo)) .leaf) (some (.code pf_wire_role)) .leaf)))))
theorem bd3 : BodyOk cx 3 := ⟨Try.f3, Try.func3, by kernel_rfl, by kernel_rfl⟩
theorem bd4 : BodyOk cx 4 := ⟨Try.f4, Try.func4, by kernel_rfl, by kernel_rfl⟩
theorem bd5 : BodyOk cx 5 := ⟨Try.f5, Try.func5, by kernel_rfl, by kernel_rfl⟩
theorem bd6 : BodyOk cx 6 := ⟨Try.f6, Try.func6, by kernel_rfl, by kernel_rfl⟩
theorem bd7 : BodyOk cx 7 := ⟨Try.f7, Try.func7, by kernel_rfl, by kernel_rfl⟩
theorem bd8 : BodyOk cx 8 := ⟨Try.f8, Try.func8, by kernel_rfl, by kernel_rfl⟩
theorem bd9 : BodyOk cx 9 := ⟨Try.f9, Try.func9, by kernel_rfl, by kernel_rfl⟩
theorem bd10 : BodyOk cx 10 := ⟨Try.f10, Try.func10, by kernel_rfl, by kernel_rfl⟩
theorem bd11 : BodyOk cx 11 := ⟨Try.f11, Try.func11, by kernel_rfl, by kernel_rfl⟩
theorem bd12 : BodyOk cx 12 := ⟨Try.f12, Try.func12, by kernel_rfl, by kernel_rfl⟩
theorem bd13 : BodyOk cx 13 := ⟨Try.f13, Try.func13, by kernel_rfl, by kernel_rfl⟩
theorem bd14 : BodyOk cx 14 := ⟨Try.f14, Try.func14, by kernel_rfl, by kernel_rfl⟩
theorem bd15 : BodyOk cx 15 := ⟨Try.f15, Try.func15, by kernel_rfl, by kernel_rfl⟩
theorem bd16 : BodyOk cx 16 := ⟨Try.f16, Try.func16, by kernel_rfl, by kernel_rfl⟩
theorem bd17 : BodyOk cx 17 := ⟨Try.f17, Try.func17, by kernel_rfl, by kernel_rfl⟩
theorem bd18 : BodyOk cx 18 := ⟨Try.f18, Try.func18, by kernel_rfl, by kernel_rfl⟩
theorem bd19 : BodyOk cx 19 := ⟨Try.f19, Try.func19, by kernel_rfl, by kernel_rfl⟩
theorem bd20 : BodyOk cx 20 := ⟨Try.f20, Try.func20, by kernel_rfl, by kernel_rfl⟩
theorem bd21 : BodyOk cx 21 := ⟨Try.f21, Try.func21, by kernel_rfl, by kernel_rfl⟩
theorem bd22 : BodyOk cx 22 := ⟨Try.f22, Try.func22, by kernel_rfl, by kernel_rfl⟩
theorem bd23 : BodyOk cx 23 := ⟨Try.f23, Try.func23, by kernel_rfl, by kernel_rfl⟩
theorem bd24 : BodyOk cx 24 := ⟨Try.f24, Try.func24, by kernel_rfl, by kernel_rfl⟩
theorem bd25 : BodyOk cx 25 := ⟨Try.f25, Try.func25, by kernel_rfl, by kernel_rfl⟩
theorem bd26 : BodyOk cx 26 := ⟨Try.f26, Try.func26, by kernel_rfl, by kernel_rfl⟩
theorem bd27 : BodyOk cx 27 := ⟨Try.f27, Try.func27, by kernel_rfl, by kernel_rfl⟩
theorem bd28 : BodyOk cx 28 := ⟨Try.f28, Try.func28, by kernel_rfl, by kernel_rfl⟩
theorem bd29 : BodyOk cx 29 := ⟨Try.f29, Try.func29, by kernel_rfl, by kernel_rfl⟩
theorem bd30 : BodyOk cx 30 := ⟨Try.f30, Try.func30, by kernel_rfl, by kernel_rfl⟩
theorem bd31 : BodyOk cx 31 := ⟨Try.f31, Try.func31, by kernel_rfl, by kernel_rfl⟩
theorem bd32 : BodyOk cx 32 := ⟨Try.f32, Try.func32, by kernel_rfl, by kernel_rfl⟩
theorem bd33 : BodyOk cx 33 := ⟨Try.f33, Try.func33, by kernel_rfl, by kernel_rfl⟩
theorem bd34 : BodyOk cx 34 := ⟨Try.f34, Try.func34, by kernel_rfl, by kernel_rfl⟩
theorem bd35 : BodyOk cx 35 := ⟨Try.f35, Try.func35, by kernel_rfl, by kernel_rfl⟩
theorem bd36 : BodyOk cx 36 := ⟨Try.f36, Try.func36, by kernel_rfl, by kernel_rfl⟩
theorem bd37 : BodyOk cx 37 := ⟨Try.f37, Try.func37, by kernel_rfl, by kernel_rfl⟩
theorem bd38 : BodyOk cx 38 := ⟨Try.f38, Try.func38, by kernel_rfl, by kernel_rfl⟩
theorem bd39 : BodyOk cx 39 := ⟨Try.f39, Try.func39, by kernel_rfl, by kernel_rfl⟩
theorem bd40 : BodyOk cx 40 := ⟨Try.f40, Try.func40, by kernel_rfl, by kernel_rfl⟩
theorem bd41 : BodyOk cx 41 := ⟨Try.f41, Try.func41, by kernel_rfl, by kernel_rfl⟩
theorem bd42 : BodyOk cx 42 := ⟨Try.f42, Try.func42, by kernel_rfl, by kernel_rfl⟩
theorem bd43 : BodyOk cx 43 := ⟨Try.f43, Try.func43, by kernel_rfl, by kernel_rfl⟩
theorem bd44 : BodyOk cx 44 := ⟨Try.f44, Try.func44, by kernel_rfl, by kernel_rfl⟩
theorem bd45 : BodyOk cx 45 := ⟨Try.f45, Try.func45, by kernel_rfl, by kernel_rfl⟩
theorem bd46 : BodyOk cx 46 := ⟨Try.f46, Try.func46, by kernel_rfl, by kernel_rfl⟩
theorem bd47 : BodyOk cx 47 := ⟨Try.f47, Try.func47, by kernel_rfl, by kernel_rfl⟩
theorem bd48 : BodyOk cx 48 := ⟨Try.f48, Try.func48, by kernel_rfl, by kernel_rfl⟩
theorem bd49 : BodyOk cx 49 := ⟨Try.f49, Try.func49, by kernel_rfl, by kernel_rfl⟩
theorem bd50 : BodyOk cx 50 := ⟨Try.f50, Try.func50, by kernel_rfl, by kernel_rfl⟩
theorem bd51 : BodyOk cx 51 := ⟨Try.f51, Try.func51, by kernel_rfl, by kernel_rfl⟩
theorem bds : AllOf (BodyOk cx) nums := ⟨bd3, bd4, bd5, bd6, bd7, bd8, bd9, bd10, bd11, bd12, bd13, bd14, bd15, bd16, bd17, bd18, bd19, bd20, bd21, bd22, bd23, bd24, bd25, bd26, bd27, bd28, bd29, bd30, bd31, bd32, bd33, bd34, bd35, bd36, bd37, bd38, bd39, bd40, bd41, bd42, bd43, bd44, bd45, bd46, bd47, bd48, bd49, bd50, bd51, trivial⟩
theorem ext_ok : ExtOk cx := by
  refine ext_table (l := []) rfl fun p hp => ?_
  cases hp
theorem prog_ok : ProgOk cx := ⟨by kernel_rfl, ext_ok, fm_ok2 rfl bds⟩
def lib : Lib := fun f => bif Nat.beq f 3 then some (.prim runsPrim) else tree0.get f
theorem lk3 : EntOk cx lib 3 := ent_runs (fun w => R.walk_depotlaw19_AskRuns w) rfl
theorem lk4 : EntOk cx lib 4 := .inl ⟨Try.f4, Try.func4, by rw [tr_depotlaw19_AskOnce]; kernel_rfl⟩
theorem at_depotlaw19_AskOnce : lib n_depotlaw19_AskOnce = some (.code pf_depotlaw19_AskOnce) := by kernel_rfl
theorem lk5 : EntOk cx lib 5 := .inl ⟨Try.f5, Try.func5, by rw [tr_depotlaw19_AskLate]; kernel_rfl⟩
theorem at_depotlaw19_AskLate : lib n_depotlaw19_AskLate = some (.code pf_depotlaw19_AskLate) := by kernel_rfl
theorem lk6 : EntOk cx lib 6 := .inl ⟨Try.f6, Try.func6, by rw [tr_depotlaw19_AskPlays]; kernel_rfl⟩
theorem at_depotlaw19_AskPlays : lib n_depotlaw19_AskPlays = some (.code pf_depotlaw19_AskPlays) := by kernel_rfl
theorem lk7 : EntOk cx lib 7 := .inl ⟨Try.f7, Try.func7, by rw [tr_ask_New]; kernel_rfl⟩
theorem at_ask_New : lib n_ask_New = some (.code pf_ask_New) := by kernel_rfl
theorem lk8 : EntOk cx lib 8 := .inl ⟨Try.f8, Try.func8, by rw [tr_ask_Asks_Begin]; kernel_rfl⟩
theorem at_ask_Asks_Begin : lib n_ask_Asks_Begin = some (.code pf_ask_Asks_Begin) := by kernel_rfl
theorem lk9 : EntOk cx lib 9 := .inl ⟨Try.f9, Try.func9, by rw [tr_ask_Asks_Answer]; kernel_rfl⟩
theorem at_ask_Asks_Answer : lib n_ask_Asks_Answer = some (.code pf_ask_Asks_Answer) := by kernel_rfl
theorem lk10 : EntOk cx lib 10 := .inl ⟨Try.f10, Try.func10, by rw [tr_ask_Asks_Tick]; kernel_rfl⟩
theorem at_ask_Asks_Tick : lib n_ask_Asks_Tick = some (.code pf_ask_Asks_Tick) := by kernel_rfl
theorem lk11 : EntOk cx lib 11 := .inl ⟨Try.f11, Try.func11, by rw [tr_depotlaw19_AskOnce_1]; kernel_rfl⟩
theorem at_depotlaw19_AskOnce_1 : lib n_depotlaw19_AskOnce_1 = some (.code pf_depotlaw19_AskOnce_1) := by kernel_rfl
theorem lk12 : EntOk cx lib 12 := .inl ⟨Try.f12, Try.func12, by rw [tr_depotbook_Within]; kernel_rfl⟩
theorem at_depotbook_Within : lib n_depotbook_Within = some (.code pf_depotbook_Within) := by kernel_rfl
theorem lk13 : EntOk cx lib 13 := .inl ⟨Try.f13, Try.func13, by rw [tr_ask_Asks_List]; kernel_rfl⟩
theorem at_ask_Asks_List : lib n_ask_Asks_List = some (.code pf_ask_Asks_List) := by kernel_rfl
theorem lk14 : EntOk cx lib 14 := .inl ⟨Try.f14, Try.func14, by rw [tr_ask_Asks_Cancel]; kernel_rfl⟩
theorem at_ask_Asks_Cancel : lib n_ask_Asks_Cancel = some (.code pf_ask_Asks_Cancel) := by kernel_rfl
theorem lk15 : EntOk cx lib 15 := .inl ⟨Try.f15, Try.func15, by rw [tr_depotlaw19_light]; kernel_rfl⟩
theorem at_depotlaw19_light : lib n_depotlaw19_light = some (.code pf_depotlaw19_light) := by kernel_rfl
theorem lk16 : EntOk cx lib 16 := .inl ⟨Try.f16, Try.func16, by rw [tr_depotref17_Asks_Begin]; kernel_rfl⟩
theorem at_depotref17_Asks_Begin : lib n_depotref17_Asks_Begin = some (.code pf_depotref17_Asks_Begin) := by kernel_rfl
theorem lk17 : EntOk cx lib 17 := .inl ⟨Try.f17, Try.func17, by rw [tr_depotref17_Asks_Answer]; kernel_rfl⟩
theorem at_depotref17_Asks_Answer : lib n_depotref17_Asks_Answer = some (.code pf_depotref17_Asks_Answer) := by kernel_rfl
theorem lk18 : EntOk cx lib 18 := .inl ⟨Try.f18, Try.func18, by rw [tr_depotref17_Asks_Tick]; kernel_rfl⟩
theorem at_depotref17_Asks_Tick : lib n_depotref17_Asks_Tick = some (.code pf_depotref17_Asks_Tick) := by kernel_rfl
theorem lk19 : EntOk cx lib 19 := .inl ⟨Try.f19, Try.func19, by rw [tr_depotbook_Same_api_Frame]; kernel_rfl⟩
theorem at_depotbook_Same_api_Frame : lib n_depotbook_Same_api_Frame = some (.code pf_depotbook_Same_api_Frame) := by kernel_rfl
theorem lk20 : EntOk cx lib 20 := .inl ⟨Try.f20, Try.func20, by rw [tr_depotbook_Same_int]; kernel_rfl⟩
theorem at_depotbook_Same_int : lib n_depotbook_Same_int = some (.code pf_depotbook_Same_int) := by kernel_rfl
theorem lk21 : EntOk cx lib 21 := .inl ⟨Try.f21, Try.func21, by rw [tr_depotref17_Asks_Cancel]; kernel_rfl⟩
theorem at_depotref17_Asks_Cancel : lib n_depotref17_Asks_Cancel = some (.code pf_depotref17_Asks_Cancel) := by kernel_rfl
theorem lk22 : EntOk cx lib 22 := .inl ⟨Try.f22, Try.func22, by rw [tr_wire_Right]; kernel_rfl⟩
theorem at_wire_Right : lib n_wire_Right = some (.code pf_wire_Right) := by kernel_rfl
theorem lk23 : EntOk cx lib 23 := .inl ⟨Try.f23, Try.func23, by rw [tr_ask_Asks_floor]; kernel_rfl⟩
theorem at_ask_Asks_floor : lib n_ask_Asks_floor = some (.code pf_ask_Asks_floor) := by kernel_rfl
theorem lk24 : EntOk cx lib 24 := .inl ⟨Try.f24, Try.func24, by rw [tr_slices_Delete_ask_open_ask_open]; kernel_rfl⟩
theorem at_slices_Delete_ask_open_ask_open : lib n_slices_Delete_ask_open_ask_open = some (.code pf_slices_Delete_ask_open_ask_open) := by kernel_rfl
theorem lk25 : EntOk cx lib 25 := .inl ⟨Try.f25, Try.func25, by rw [tr_slices_Contains_int_int]; kernel_rfl⟩
theorem at_slices_Contains_int_int : lib n_slices_Contains_int_int = some (.code pf_slices_Contains_int_int) := by kernel_rfl
theorem lk26 : EntOk cx lib 26 := .inl ⟨Try.f26, Try.func26, by rw [tr_slices_Sort_int_int]; kernel_rfl⟩
theorem at_slices_Sort_int_int : lib n_slices_Sort_int_int = some (.code pf_slices_Sort_int_int) := by kernel_rfl
theorem lk27 : EntOk cx lib 27 := .inl ⟨Try.f27, Try.func27, by rw [tr_depotref9_Right]; kernel_rfl⟩
theorem at_depotref9_Right : lib n_depotref9_Right = some (.code pf_depotref9_Right) := by kernel_rfl
theorem lk28 : EntOk cx lib 28 := .inl ⟨Try.f28, Try.func28, by rw [tr_depotref17_Asks_floor]; kernel_rfl⟩
theorem at_depotref17_Asks_floor : lib n_depotref17_Asks_floor = some (.code pf_depotref17_Asks_floor) := by kernel_rfl
theorem lk29 : EntOk cx lib 29 := .inl ⟨Try.f29, Try.func29, by rw [tr_wire_within]; kernel_rfl⟩
theorem at_wire_within : lib n_wire_within = some (.code pf_wire_within) := by kernel_rfl
theorem lk30 : EntOk cx lib 30 := .inl ⟨Try.f30, Try.func30, by rw [tr_wire_role]; kernel_rfl⟩
theorem at_wire_role : lib n_wire_role = some (.code pf_wire_role) := by kernel_rfl
theorem lk31 : EntOk cx lib 31 := .inl ⟨Try.f31, Try.func31, by rw [tr_slices_Index_int_int]; kernel_rfl⟩
theorem at_slices_Index_int_int : lib n_slices_Index_int_int = some (.code pf_slices_Index_int_int) := by kernel_rfl
theorem lk32 : EntOk cx lib 32 := .inl ⟨Try.f32, Try.func32, by rw [tr_slices_pdqsortOrdered_int]; kernel_rfl⟩
theorem at_slices_pdqsortOrdered_int : lib n_slices_pdqsortOrdered_int = some (.code pf_slices_pdqsortOrdered_int) := by kernel_rfl
theorem lk33 : EntOk cx lib 33 := .inl ⟨Try.f33, Try.func33, by rw [tr_math_bits_Len]; kernel_rfl⟩
theorem at_math_bits_Len : lib n_math_bits_Len = some (.code pf_math_bits_Len) := by kernel_rfl
theorem lk34 : EntOk cx lib 34 := .inl ⟨Try.f34, Try.func34, by rw [tr_slices_insertionSortOrdered_int]; kernel_rfl⟩
theorem at_slices_insertionSortOrdered_int : lib n_slices_insertionSortOrdered_int = some (.code pf_slices_insertionSortOrdered_int) := by kernel_rfl
theorem lk35 : EntOk cx lib 35 := .inl ⟨Try.f35, Try.func35, by rw [tr_slices_heapSortOrdered_int]; kernel_rfl⟩
theorem at_slices_heapSortOrdered_int : lib n_slices_heapSortOrdered_int = some (.code pf_slices_heapSortOrdered_int) := by kernel_rfl
theorem lk36 : EntOk cx lib 36 := .inl ⟨Try.f36, Try.func36, by rw [tr_slices_breakPatternsOrdered_int]; kernel_rfl⟩
theorem at_slices_breakPatternsOrdered_int : lib n_slices_breakPatternsOrdered_int = some (.code pf_slices_breakPatternsOrdered_int) := by kernel_rfl
theorem lk37 : EntOk cx lib 37 := .inl ⟨Try.f37, Try.func37, by rw [tr_slices_choosePivotOrdered_int]; kernel_rfl⟩
theorem at_slices_choosePivotOrdered_int : lib n_slices_choosePivotOrdered_int = some (.code pf_slices_choosePivotOrdered_int) := by kernel_rfl
theorem lk38 : EntOk cx lib 38 := .inl ⟨Try.f38, Try.func38, by rw [tr_slices_reverseRangeOrdered_int]; kernel_rfl⟩
theorem at_slices_reverseRangeOrdered_int : lib n_slices_reverseRangeOrdered_int = some (.code pf_slices_reverseRangeOrdered_int) := by kernel_rfl
theorem lk39 : EntOk cx lib 39 := .inl ⟨Try.f39, Try.func39, by rw [tr_slices_partialInsertionSortOrdered_int]; kernel_rfl⟩
theorem at_slices_partialInsertionSortOrdered_int : lib n_slices_partialInsertionSortOrdered_int = some (.code pf_slices_partialInsertionSortOrdered_int) := by kernel_rfl
theorem lk40 : EntOk cx lib 40 := .inl ⟨Try.f40, Try.func40, by rw [tr_cmp_Less_int]; kernel_rfl⟩
theorem at_cmp_Less_int : lib n_cmp_Less_int = some (.code pf_cmp_Less_int) := by kernel_rfl
theorem lk41 : EntOk cx lib 41 := .inl ⟨Try.f41, Try.func41, by rw [tr_slices_partitionEqualOrdered_int]; kernel_rfl⟩
theorem at_slices_partitionEqualOrdered_int : lib n_slices_partitionEqualOrdered_int = some (.code pf_slices_partitionEqualOrdered_int) := by kernel_rfl
theorem lk42 : EntOk cx lib 42 := .inl ⟨Try.f42, Try.func42, by rw [tr_slices_partitionOrdered_int]; kernel_rfl⟩
theorem at_slices_partitionOrdered_int : lib n_slices_partitionOrdered_int = some (.code pf_slices_partitionOrdered_int) := by kernel_rfl
theorem lk43 : EntOk cx lib 43 := .inl ⟨Try.f43, Try.func43, by rw [tr_math_bits_Len32]; kernel_rfl⟩
theorem at_math_bits_Len32 : lib n_math_bits_Len32 = some (.code pf_math_bits_Len32) := by kernel_rfl
theorem lk44 : EntOk cx lib 44 := .inl ⟨Try.f44, Try.func44, by rw [tr_math_bits_Len64]; kernel_rfl⟩
theorem at_math_bits_Len64 : lib n_math_bits_Len64 = some (.code pf_math_bits_Len64) := by kernel_rfl
theorem lk45 : EntOk cx lib 45 := .inl ⟨Try.f45, Try.func45, by rw [tr_slices_siftDownOrdered_int]; kernel_rfl⟩
theorem at_slices_siftDownOrdered_int : lib n_slices_siftDownOrdered_int = some (.code pf_slices_siftDownOrdered_int) := by kernel_rfl
theorem lk46 : EntOk cx lib 46 := .inl ⟨Try.f46, Try.func46, by rw [tr_slices_nextPowerOfTwo]; kernel_rfl⟩
theorem at_slices_nextPowerOfTwo : lib n_slices_nextPowerOfTwo = some (.code pf_slices_nextPowerOfTwo) := by kernel_rfl
theorem lk47 : EntOk cx lib 47 := .inl ⟨Try.f47, Try.func47, by rw [tr_slices_xorshift_Next]; kernel_rfl⟩
theorem at_slices_xorshift_Next : lib n_slices_xorshift_Next = some (.code pf_slices_xorshift_Next) := by kernel_rfl
theorem lk48 : EntOk cx lib 48 := .inl ⟨Try.f48, Try.func48, by rw [tr_slices_medianAdjacentOrdered_int]; kernel_rfl⟩
theorem at_slices_medianAdjacentOrdered_int : lib n_slices_medianAdjacentOrdered_int = some (.code pf_slices_medianAdjacentOrdered_int) := by kernel_rfl
theorem lk49 : EntOk cx lib 49 := .inl ⟨Try.f49, Try.func49, by rw [tr_slices_medianOrdered_int]; kernel_rfl⟩
theorem at_slices_medianOrdered_int : lib n_slices_medianOrdered_int = some (.code pf_slices_medianOrdered_int) := by kernel_rfl
theorem lk50 : EntOk cx lib 50 := .inl ⟨Try.f50, Try.func50, by rw [tr_cmp_isNaN_int]; kernel_rfl⟩
theorem at_cmp_isNaN_int : lib n_cmp_isNaN_int = some (.code pf_cmp_isNaN_int) := by kernel_rfl
theorem lk51 : EntOk cx lib 51 := .inl ⟨Try.f51, Try.func51, by rw [tr_slices_order2Ordered_int]; kernel_rfl⟩
theorem at_slices_order2Ordered_int : lib n_slices_order2Ordered_int = some (.code pf_slices_order2Ordered_int) := by kernel_rfl
theorem lks : AllOf (EntOk cx lib) nums := ⟨lk3, lk4, lk5, lk6, lk7, lk8, lk9, lk10, lk11, lk12, lk13, lk14, lk15, lk16, lk17, lk18, lk19, lk20, lk21, lk22, lk23, lk24, lk25, lk26, lk27, lk28, lk29, lk30, lk31, lk32, lk33, lk34, lk35, lk36, lk37, lk38, lk39, lk40, lk41, lk42, lk43, lk44, lk45, lk46, lk47, lk48, lk49, lk50, lk51, trivial⟩
theorem lib_ok : LibOk cx lib := lib_ok2 rfl lks
-- roots [3, 4, 5, 6]
end Go.Proofs.Ytcpcajfmkmgjeaa
