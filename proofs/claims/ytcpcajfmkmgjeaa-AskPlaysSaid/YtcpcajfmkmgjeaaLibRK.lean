/- The functions that this seat's laws reach, for the clean machine; each is what the translation makes of the given text. Conditions: none. Printed by program. -/
import Derived.Test.YtcpcajfmkmgjeaaLibRKA
namespace Go.Proofs.Ytcpcajfmkmgjeaa.R
open Go.Dp
def tree0 : Tr LF := (.node (.node (.node (.node (.node (.node .leaf (some (.code pf_slices_Index_int_int)) .leaf) none (.node .leaf (some (.code pf_slices_xorshift_Next)) .leaf)) (some (.code pf_ask_New)) (.node (.node .leaf (some (.code pf_slices_partialInsertionSortOrdered_int)) .leaf) (some (.code pf_ask_Asks_floor)) .leaf)) (some (.code pf_depotlaw19_AskRuns)) (.node (.node (.node .leaf (some (.code pf_slices_heapSortOrdered_int)) .leaf) none (.node .leaf (some (.code pf_slices_order2Ordered_int)) .leaf)) none (.node (.node .leaf (some (.code pf_math_bits_Len32)) .leaf) none .leaf))) none (.node (.node (.node (.node .leaf (some (.code pf_math_bits_Len)) .leaf) none (.node .leaf (some (.code pf_slices_medianOrdered_int)) .leaf)) (some (.code pf_ask_Asks_Answer)) (.node (.node .leaf (some (.code pf_slices_partitionEqualOrdered_int)) .leaf) (some (.code pf_slices_Contains_int_int)) .leaf)) none (.node (.node (.node .leaf (some (.code pf_slices_choosePivotOrdered_int)) .leaf) none .leaf) none (.node (.node .leaf (some (.code pf_slices_siftDownOrdered_int)) .leaf) (some (.code pf_wire_within)) .leaf)))) none (.node (.node (.node (.node (.node .leaf (some (.code pf_slices_pdqsortOrdered_int)) .leaf) none (.node .leaf (some (.code pf_slices_medianAdjacentOrdered_int)) .leaf)) (some (.code pf_ask_Asks_Begin)) (.node (.node .leaf (some (.code pf_cmp_Less_int)) .leaf) (some (.code pf_slices_Delete_ask_open_ask_open)) .leaf)) none (.node (.node (.node .leaf (some (.code pf_slices_breakPatternsOrdered_int)) .leaf) none .leaf) none (.node (.node .leaf (some (.code pf_math_bits_Len64)) .leaf) none .leaf))) none (.node (.node (.node (.node .leaf (some (.code pf_slices_insertionSortOrdered_int)) .leaf) none (.node .leaf (some (.code pf_cmp_isNaN_int)) .leaf)) (some (.code pf_ask_Asks_Tick)) (.node (.node .leaf (some (.code pf_slices_partitionOrdered_int)) .leaf) (some (.code pf_slices_Sort_int_int)) .leaf)) none (.node (.node (.node .leaf (some (.code pf_slices_reverseRangeOrdered_int)) .leaf) (some (.code pf_wire_Right)) .leaf) none (.node (.node .leaf (some (.code pf_slices_nextPowerOfTwo)) .leaf) (some (.code pf_wire_role)) .leaf)))))
theorem bd3 : BodyOk cx 3 := ⟨Try.f3, Try.func3, by kernel_rfl, by kernel_rfl⟩
theorem bd7 : BodyOk cx 7 := ⟨Try.f7, Try.func7, by kernel_rfl, by kernel_rfl⟩
theorem bd8 : BodyOk cx 8 := ⟨Try.f8, Try.func8, by kernel_rfl, by kernel_rfl⟩
theorem bd9 : BodyOk cx 9 := ⟨Try.f9, Try.func9, by kernel_rfl, by kernel_rfl⟩
theorem bd10 : BodyOk cx 10 := ⟨Try.f10, Try.func10, by kernel_rfl, by kernel_rfl⟩
theorem bd22 : BodyOk cx 22 := ⟨Try.f22, Try.func22, by kernel_rfl, by kernel_rfl⟩
theorem bd23 : BodyOk cx 23 := ⟨Try.f23, Try.func23, by kernel_rfl, by kernel_rfl⟩
theorem bd24 : BodyOk cx 24 := ⟨Try.f24, Try.func24, by kernel_rfl, by kernel_rfl⟩
theorem bd25 : BodyOk cx 25 := ⟨Try.f25, Try.func25, by kernel_rfl, by kernel_rfl⟩
theorem bd26 : BodyOk cx 26 := ⟨Try.f26, Try.func26, by kernel_rfl, by kernel_rfl⟩
theorem bd29 : BodyOk cx 29 := ⟨Try.f29, Try.func29, by kernel_rfl, by kernel_rfl⟩
theorem bd30 : BodyOk cx 30 := ⟨Try.f30, Try.func30, by kernel_rfl, by kernel_rfl⟩
theorem bd31 : BodyOk cx 31 := ⟨Try.f31, Try.func31, by kernel_rfl, by kernel_rfl⟩
theorem bd32 : BodyOk cx 32 := ⟨Try.f32, Try.func32, by kernel_rfl, by kernel_rfl⟩
theorem bd33 : BodyOk cx 33 := ⟨Try.f33, Try.func33, by kernel_rfl, by kernel_rfl⟩
theorem bd34 : BodyOk cx 34 := ⟨Try.f34, Try.func34, by kernel_rfl, by kernel_rfl⟩
theorem bd35 : BodyOk cx 35 := ⟨Try.f35, Try.func35, by kernel_rfl, by kernel_rfl⟩
theorem bd36 : BodyOk cx 36 := ⟨Try.f36, Try.func36, by kernel_rfl, by kernel_rfl⟩
theorem bd37 : BodyOk cx 37 := ⟨Try.f37, Try.func37, by kernel_rfl, by kernel_rfl⟩
theorem bd38 : BodyOk cx 38 := ⟨Try.f38, Try.func38, by kernel_rfl, by kernel_rfl⟩
theorem bd39 : BodyOk cx 39 := ⟨Try.f39, Try.func39, by kernel_rfl, by kernel_rfl⟩
theorem bd40 : BodyOk cx 40 := ⟨Try.f40, Try.func40, by kernel_rfl, by kernel_rfl⟩
theorem bd41 : BodyOk cx 41 := ⟨Try.f41, Try.func41, by kernel_rfl, by kernel_rfl⟩
theorem bd42 : BodyOk cx 42 := ⟨Try.f42, Try.func42, by kernel_rfl, by kernel_rfl⟩
theorem bd43 : BodyOk cx 43 := ⟨Try.f43, Try.func43, by kernel_rfl, by kernel_rfl⟩
theorem bd44 : BodyOk cx 44 := ⟨Try.f44, Try.func44, by kernel_rfl, by kernel_rfl⟩
theorem bd45 : BodyOk cx 45 := ⟨Try.f45, Try.func45, by kernel_rfl, by kernel_rfl⟩
theorem bd46 : BodyOk cx 46 := ⟨Try.f46, Try.func46, by kernel_rfl, by kernel_rfl⟩
theorem bd47 : BodyOk cx 47 := ⟨Try.f47, Try.func47, by kernel_rfl, by kernel_rfl⟩
theorem bd48 : BodyOk cx 48 := ⟨Try.f48, Try.func48, by kernel_rfl, by kernel_rfl⟩
theorem bd49 : BodyOk cx 49 := ⟨Try.f49, Try.func49, by kernel_rfl, by kernel_rfl⟩
theorem bd50 : BodyOk cx 50 := ⟨Try.f50, Try.func50, by kernel_rfl, by kernel_rfl⟩
theorem bd51 : BodyOk cx 51 := ⟨Try.f51, Try.func51, by kernel_rfl, by kernel_rfl⟩
theorem bds : AllOf (BodyOk cx) nums := ⟨bd3, bd7, bd8, bd9, bd10, bd22, bd23, bd24, bd25, bd26, bd29, bd30, bd31, bd32, bd33, bd34, bd35, bd36, bd37, bd38, bd39, bd40, bd41, bd42, bd43, bd44, bd45, bd46, bd47, bd48, bd49, bd50, bd51, trivial⟩
theorem ext_ok : ExtOk cx := by
  refine ext_table (l := []) rfl fun p hp => ?_
  cases hp
theorem prog_ok : ProgOk cx := ⟨by kernel_rfl, ext_ok, fm_ok2 rfl bds⟩
theorem ok3 : EntOk cx tree0.get 3 := .inl ⟨Try.f3, Try.func3, by rw [tr_depotlaw19_AskRuns]; kernel_rfl⟩
theorem ok7 : EntOk cx tree0.get 7 := .inl ⟨Try.f7, Try.func7, by rw [tr_ask_New]; kernel_rfl⟩
theorem ok8 : EntOk cx tree0.get 8 := .inl ⟨Try.f8, Try.func8, by rw [tr_ask_Asks_Begin]; kernel_rfl⟩
theorem ok9 : EntOk cx tree0.get 9 := .inl ⟨Try.f9, Try.func9, by rw [tr_ask_Asks_Answer]; kernel_rfl⟩
theorem ok10 : EntOk cx tree0.get 10 := .inl ⟨Try.f10, Try.func10, by rw [tr_ask_Asks_Tick]; kernel_rfl⟩
theorem ok22 : EntOk cx tree0.get 22 := .inl ⟨Try.f22, Try.func22, by rw [tr_wire_Right]; kernel_rfl⟩
theorem ok23 : EntOk cx tree0.get 23 := .inl ⟨Try.f23, Try.func23, by rw [tr_ask_Asks_floor]; kernel_rfl⟩
theorem ok24 : EntOk cx tree0.get 24 := .inl ⟨Try.f24, Try.func24, by rw [tr_slices_Delete_ask_open_ask_open]; kernel_rfl⟩
theorem ok25 : EntOk cx tree0.get 25 := .inl ⟨Try.f25, Try.func25, by rw [tr_slices_Contains_int_int]; kernel_rfl⟩
theorem ok26 : EntOk cx tree0.get 26 := .inl ⟨Try.f26, Try.func26, by rw [tr_slices_Sort_int_int]; kernel_rfl⟩
theorem ok29 : EntOk cx tree0.get 29 := .inl ⟨Try.f29, Try.func29, by rw [tr_wire_within]; kernel_rfl⟩
theorem ok30 : EntOk cx tree0.get 30 := .inl ⟨Try.f30, Try.func30, by rw [tr_wire_role]; kernel_rfl⟩
theorem ok31 : EntOk cx tree0.get 31 := .inl ⟨Try.f31, Try.func31, by rw [tr_slices_Index_int_int]; kernel_rfl⟩
theorem ok32 : EntOk cx tree0.get 32 := .inl ⟨Try.f32, Try.func32, by rw [tr_slices_pdqsortOrdered_int]; kernel_rfl⟩
theorem ok33 : EntOk cx tree0.get 33 := .inl ⟨Try.f33, Try.func33, by rw [tr_math_bits_Len]; kernel_rfl⟩
theorem ok34 : EntOk cx tree0.get 34 := .inl ⟨Try.f34, Try.func34, by rw [tr_slices_insertionSortOrdered_int]; kernel_rfl⟩
theorem ok35 : EntOk cx tree0.get 35 := .inl ⟨Try.f35, Try.func35, by rw [tr_slices_heapSortOrdered_int]; kernel_rfl⟩
theorem ok36 : EntOk cx tree0.get 36 := .inl ⟨Try.f36, Try.func36, by rw [tr_slices_breakPatternsOrdered_int]; kernel_rfl⟩
theorem ok37 : EntOk cx tree0.get 37 := .inl ⟨Try.f37, Try.func37, by rw [tr_slices_choosePivotOrdered_int]; kernel_rfl⟩
theorem ok38 : EntOk cx tree0.get 38 := .inl ⟨Try.f38, Try.func38, by rw [tr_slices_reverseRangeOrdered_int]; kernel_rfl⟩
theorem ok39 : EntOk cx tree0.get 39 := .inl ⟨Try.f39, Try.func39, by rw [tr_slices_partialInsertionSortOrdered_int]; kernel_rfl⟩
theorem ok40 : EntOk cx tree0.get 40 := .inl ⟨Try.f40, Try.func40, by rw [tr_cmp_Less_int]; kernel_rfl⟩
theorem ok41 : EntOk cx tree0.get 41 := .inl ⟨Try.f41, Try.func41, by rw [tr_slices_partitionEqualOrdered_int]; kernel_rfl⟩
theorem ok42 : EntOk cx tree0.get 42 := .inl ⟨Try.f42, Try.func42, by rw [tr_slices_partitionOrdered_int]; kernel_rfl⟩
theorem ok43 : EntOk cx tree0.get 43 := .inl ⟨Try.f43, Try.func43, by rw [tr_math_bits_Len32]; kernel_rfl⟩
theorem ok44 : EntOk cx tree0.get 44 := .inl ⟨Try.f44, Try.func44, by rw [tr_math_bits_Len64]; kernel_rfl⟩
theorem ok45 : EntOk cx tree0.get 45 := .inl ⟨Try.f45, Try.func45, by rw [tr_slices_siftDownOrdered_int]; kernel_rfl⟩
theorem ok46 : EntOk cx tree0.get 46 := .inl ⟨Try.f46, Try.func46, by rw [tr_slices_nextPowerOfTwo]; kernel_rfl⟩
theorem ok47 : EntOk cx tree0.get 47 := .inl ⟨Try.f47, Try.func47, by rw [tr_slices_xorshift_Next]; kernel_rfl⟩
theorem ok48 : EntOk cx tree0.get 48 := .inl ⟨Try.f48, Try.func48, by rw [tr_slices_medianAdjacentOrdered_int]; kernel_rfl⟩
theorem ok49 : EntOk cx tree0.get 49 := .inl ⟨Try.f49, Try.func49, by rw [tr_slices_medianOrdered_int]; kernel_rfl⟩
theorem ok50 : EntOk cx tree0.get 50 := .inl ⟨Try.f50, Try.func50, by rw [tr_cmp_isNaN_int]; kernel_rfl⟩
theorem ok51 : EntOk cx tree0.get 51 := .inl ⟨Try.f51, Try.func51, by rw [tr_slices_order2Ordered_int]; kernel_rfl⟩
theorem oks : AllOf (EntOk cx tree0.get) nums := ⟨ok3, ok7, ok8, ok9, ok10, ok22, ok23, ok24, ok25, ok26, ok29, ok30, ok31, ok32, ok33, ok34, ok35, ok36, ok37, ok38, ok39, ok40, ok41, ok42, ok43, ok44, ok45, ok46, ok47, ok48, ok49, ok50, ok51, trivial⟩
theorem lib_ok0 : LibOk cx tree0.get := lib_ok2 rfl oks
theorem run_depotlaw19_AskRuns : isTrue (call tree0.get 900 3 [] noHeap) = true := by decide +kernel
theorem walk_depotlaw19_AskRuns (w : World) : Calls cx.P 3 #[] w fun e w' => e = .returned (.bool true) ∧ Go.RowKit.Below w.heap.size w w' :=
  run_closed prog_ok lib_ok0 (fun _ => rfl) (g := 3) (f := 3) rfl run_depotlaw19_AskRuns w
-- roots [3]
end Go.Proofs.Ytcpcajfmkmgjeaa.R
