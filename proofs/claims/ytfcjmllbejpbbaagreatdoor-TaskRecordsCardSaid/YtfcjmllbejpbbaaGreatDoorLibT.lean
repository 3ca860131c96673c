/- The functions that this seat's laws reach, for the clean machine; each is what the translation makes of the given text. Conditions: none. Printed by program. -/
import Derived.Test.YtfcjmllbejpbbaaGreatDoorLibRT
import Derived.Test.YtfcjmllbejpbbaaGreatDoorLibTA
namespace Go.Proofs.YtfcjmllbejpbbaaGreatDoor
open Go.Dp
def tree0 : Tr LF := (.node (.node (.node (.node (.node .leaf (some (.code pf_depotref1_Reader_End)) .leaf) (some (.code pf_depotref21_PutRecord)) .leaf) (some (.code pf_depotlaw21_TaskRecords)) (.node .leaf (some (.code pf_pack_Reader_Num)) (.node .leaf (some (.code pf_pack_grown)) .leaf))) none (.node (.node .leaf (some (.code pf_pack_Num)) .leaf) (some (.code pf_task_GetRecord)) (.node .leaf (some (.code pf_task_within)) (.node .leaf (some (.code pf_depotref1_Reader_fail)) .leaf)))) none (.node (.node (.node (.node .leaf (some (.code pf_depotref1_Num)) .leaf) none .leaf) (some (.code pf_task_PutRecord)) (.node .leaf (some (.code pf_pack_Reader_End)) (.node .leaf (some (.code pf_pack_Reader_fail)) .leaf))) none (.node (.node .leaf (some (.code pf_pack_Read)) (.node .leaf (some (.code pf_pack_num)) .leaf)) (some (.code pf_depotref21_GetRecord)) (.node .leaf (some (.code pf_depotref1_Reader_Num)) .leaf))))
theorem bd3 : BodyOk cx 3 := ⟨Tryz.f3, Tryz.func3, by kernel_rfl, by kernel_rfl⟩
theorem bd4 : BodyOk cx 4 := ⟨Tryz.f4, Tryz.func4, by kernel_rfl, by kernel_rfl⟩
theorem bd5 : BodyOk cx 5 := ⟨Tryz.f5, Tryz.func5, by kernel_rfl, by kernel_rfl⟩
theorem bd6 : BodyOk cx 6 := ⟨Tryz.f6, Tryz.func6, by kernel_rfl, by kernel_rfl⟩
theorem bd7 : BodyOk cx 7 := ⟨Tryz.f7, Tryz.func7, by kernel_rfl, by kernel_rfl⟩
theorem bd8 : BodyOk cx 8 := ⟨Tryz.f8, Tryz.func8, by kernel_rfl, by kernel_rfl⟩
theorem bd9 : BodyOk cx 9 := ⟨Tryz.f9, Tryz.func9, by kernel_rfl, by kernel_rfl⟩
theorem bd10 : BodyOk cx 10 := ⟨Tryz.f10, Tryz.func10, by kernel_rfl, by kernel_rfl⟩
theorem bd11 : BodyOk cx 11 := ⟨Tryz.f11, Tryz.func11, by kernel_rfl, by kernel_rfl⟩
theorem bd12 : BodyOk cx 12 := ⟨Tryz.f12, Tryz.func12, by kernel_rfl, by kernel_rfl⟩
theorem bd13 : BodyOk cx 13 := ⟨Tryz.f13, Tryz.func13, by kernel_rfl, by kernel_rfl⟩
theorem bd14 : BodyOk cx 14 := ⟨Tryz.f14, Tryz.func14, by kernel_rfl, by kernel_rfl⟩
theorem bd15 : BodyOk cx 15 := ⟨Tryz.f15, Tryz.func15, by kernel_rfl, by kernel_rfl⟩
theorem bd16 : BodyOk cx 16 := ⟨Tryz.f16, Tryz.func16, by kernel_rfl, by kernel_rfl⟩
theorem bd26 : BodyOk cx 26 := ⟨Tryz.f26, Tryz.func26, by kernel_rfl, by kernel_rfl⟩
theorem bd27 : BodyOk cx 27 := ⟨Tryz.f27, Tryz.func27, by kernel_rfl, by kernel_rfl⟩
theorem bd28 : BodyOk cx 28 := ⟨Tryz.f28, Tryz.func28, by kernel_rfl, by kernel_rfl⟩
theorem bd29 : BodyOk cx 29 := ⟨Tryz.f29, Tryz.func29, by kernel_rfl, by kernel_rfl⟩
theorem bds : AllOf (BodyOk cx) nums := ⟨bd3, bd4, bd5, bd6, bd7, bd8, bd9, bd10, bd11, bd12, bd13, bd14, bd15, bd16, bd26, bd27, bd28, bd29, trivial⟩
theorem ext_ok : ExtOk cx := by
  refine ext_table (l := []) rfl fun p hp => ?_
  cases hp
theorem prog_ok : ProgOk cx := ⟨by kernel_rfl, ext_ok, fm_ok2 rfl bds⟩
def lib : Lib := fun f => bif Nat.beq f 8 then some (.prim runsPrim) else tree0.get f
theorem lk3 : EntOk cx lib 3 := .inl ⟨Tryz.f3, Tryz.func3, by rw [tr_depotlaw21_TaskRecords]; kernel_rfl⟩
theorem at_depotlaw21_TaskRecords : lib n_depotlaw21_TaskRecords = some (.code pf_depotlaw21_TaskRecords) := by kernel_rfl
theorem lk4 : EntOk cx lib 4 := .inl ⟨Tryz.f4, Tryz.func4, by rw [tr_task_PutRecord]; kernel_rfl⟩
theorem at_task_PutRecord : lib n_task_PutRecord = some (.code pf_task_PutRecord) := by kernel_rfl
theorem lk5 : EntOk cx lib 5 := .inl ⟨Tryz.f5, Tryz.func5, by rw [tr_task_GetRecord]; kernel_rfl⟩
theorem at_task_GetRecord : lib n_task_GetRecord = some (.code pf_task_GetRecord) := by kernel_rfl
theorem lk6 : EntOk cx lib 6 := .inl ⟨Tryz.f6, Tryz.func6, by rw [tr_depotref21_GetRecord]; kernel_rfl⟩
theorem at_depotref21_GetRecord : lib n_depotref21_GetRecord = some (.code pf_depotref21_GetRecord) := by kernel_rfl
theorem lk7 : EntOk cx lib 7 := .inl ⟨Tryz.f7, Tryz.func7, by rw [tr_depotref21_PutRecord]; kernel_rfl⟩
theorem at_depotref21_PutRecord : lib n_depotref21_PutRecord = some (.code pf_depotref21_PutRecord) := by kernel_rfl
theorem lk8 : EntOk cx lib 8 := ent_runs (fun w => R.walk_depotlaw21_TaskRuns w) rfl
theorem lk9 : EntOk cx lib 9 := .inl ⟨Tryz.f9, Tryz.func9, by rw [tr_pack_Num]; kernel_rfl⟩
theorem at_pack_Num : lib n_pack_Num = some (.code pf_pack_Num) := by kernel_rfl
theorem lk10 : EntOk cx lib 10 := .inl ⟨Tryz.f10, Tryz.func10, by rw [tr_pack_Read]; kernel_rfl⟩
theorem at_pack_Read : lib n_pack_Read = some (.code pf_pack_Read) := by kernel_rfl
theorem lk11 : EntOk cx lib 11 := .inl ⟨Tryz.f11, Tryz.func11, by rw [tr_pack_Reader_Num]; kernel_rfl⟩
theorem at_pack_Reader_Num : lib n_pack_Reader_Num = some (.code pf_pack_Reader_Num) := by kernel_rfl
theorem lk12 : EntOk cx lib 12 := .inl ⟨Tryz.f12, Tryz.func12, by rw [tr_pack_Reader_End]; kernel_rfl⟩
theorem at_pack_Reader_End : lib n_pack_Reader_End = some (.code pf_pack_Reader_End) := by kernel_rfl
theorem lk13 : EntOk cx lib 13 := .inl ⟨Tryz.f13, Tryz.func13, by rw [tr_task_within]; kernel_rfl⟩
theorem at_task_within : lib n_task_within = some (.code pf_task_within) := by kernel_rfl
theorem lk14 : EntOk cx lib 14 := .inl ⟨Tryz.f14, Tryz.func14, by rw [tr_depotref1_Reader_Num]; kernel_rfl⟩
theorem at_depotref1_Reader_Num : lib n_depotref1_Reader_Num = some (.code pf_depotref1_Reader_Num) := by kernel_rfl
theorem lk15 : EntOk cx lib 15 := .inl ⟨Tryz.f15, Tryz.func15, by rw [tr_depotref1_Reader_End]; kernel_rfl⟩
theorem at_depotref1_Reader_End : lib n_depotref1_Reader_End = some (.code pf_depotref1_Reader_End) := by kernel_rfl
theorem lk16 : EntOk cx lib 16 := .inl ⟨Tryz.f16, Tryz.func16, by rw [tr_depotref1_Num]; kernel_rfl⟩
theorem at_depotref1_Num : lib n_depotref1_Num = some (.code pf_depotref1_Num) := by kernel_rfl
theorem lk26 : EntOk cx lib 26 := .inl ⟨Tryz.f26, Tryz.func26, by rw [tr_pack_num]; kernel_rfl⟩
theorem at_pack_num : lib n_pack_num = some (.code pf_pack_num) := by kernel_rfl
theorem lk27 : EntOk cx lib 27 := .inl ⟨Tryz.f27, Tryz.func27, by rw [tr_pack_grown]; kernel_rfl⟩
theorem at_pack_grown : lib n_pack_grown = some (.code pf_pack_grown) := by kernel_rfl
theorem lk28 : EntOk cx lib 28 := .inl ⟨Tryz.f28, Tryz.func28, by rw [tr_pack_Reader_fail]; kernel_rfl⟩
theorem at_pack_Reader_fail : lib n_pack_Reader_fail = some (.code pf_pack_Reader_fail) := by kernel_rfl
theorem lk29 : EntOk cx lib 29 := .inl ⟨Tryz.f29, Tryz.func29, by rw [tr_depotref1_Reader_fail]; kernel_rfl⟩
theorem at_depotref1_Reader_fail : lib n_depotref1_Reader_fail = some (.code pf_depotref1_Reader_fail) := by kernel_rfl
theorem lks : AllOf (EntOk cx lib) nums := ⟨lk3, lk4, lk5, lk6, lk7, lk8, lk9, lk10, lk11, lk12, lk13, lk14, lk15, lk16, lk26, lk27, lk28, lk29, trivial⟩
theorem lib_ok : LibOk cx lib := lib_ok2 rfl lks
-- roots [3, 8]
end Go.Proofs.YtfcjmllbejpbbaaGreatDoor
