/- The functions that this seat's laws reach, for the clean machine; each is what the translation makes of the given text. Conditions: none. Printed by program. -/
import Derived.Test.YtjlfnolaifkakaaDoorLibFA
import Derived.Test.YtjlfnolaifkakaaDoorLibFB
namespace Go.Proofs.YtjlfnolaifkakaaDoor
open Go.Dp
def tree0 : Tr LF := (.node (.node (.node (.node (.node (.node (.node .leaf (some (.code pf_slices_Index_int_int)) .leaf) (some (.code pf_matrix_Cauchy)) (.node .leaf (some (.code pf_math_bits_TrailingZeros)) .leaf)) (some (.code pf_words_Key)) (.node (.node .leaf (some (.code pf_pack_Num)) .leaf) (some (.code pf_gather_Gather_State)) .leaf)) (some (.code pf_depotlaw21_one)) (.node (.node (.node .leaf (some (.code pf_model_Next_1)) .leaf) (some (.code pf_task_Task_tell)) .leaf) (some (.code pf_task_Task_ask)) (.node (.node .leaf (some (.code pf_internal_strconv_small)) .leaf) (some (.code pf_task_reads)) .leaf))) (some (.code pf_depotlaw21_TaskRuns)) (.node (.node (.node (.node .leaf (some (.code pf_slices_Clone_api_Part_api_Part)) .leaf) (some (.code pf_task_Task_scattered)) .leaf) (some (.code pf_task_within)) (.node (.node .leaf (some (.code pf_strconv_FormatUint)) .leaf) (some (.code pf_task_Task_refill)) .leaf)) (some (.code pf_task_Task_Phase)) (.node (.node (.node .leaf (some (.code pf_matrix_copied)) .leaf) (some (.code pf_slices_Contains_int_int)) .leaf) (some (.code pf_gather_Gather_Got)) (.node (.node .leaf (some (.code pf_internal_strconv_log10Pow2)) .leaf) (some (.code pf_model_Next)) .leaf)))) none (.node (.node (.node (.node (.node .leaf (some (.code pf_matrix_Invert)) .leaf) (some (.code pf_task_Task_gathered)) (.node .leaf (some (.code pf_math_bits_TrailingZeros64)) .leaf)) (some (.code pf_depotbook_Within)) (.node (.node .leaf (some (.code pf_when_time)) .leaf) (some (.code pf_gather_Gather_Parts)) .leaf)) (some (.code pf_task_Task_Take)) (.node (.node (.node .leaf (some (.code pf_model_count)) .leaf) (some (.code pf_pack_Reader_Num)) .leaf) (some (.code pf_task_GetRecord)) (.node (.node .leaf (some (.code pf_internal_strconv_formatBase10)) .leaf) (some (.code pf_task_Task_write)) .leaf))) (some (.code pf_depotlaw21_TaskFails)) (.node (.node (.node (.node .leaf (some (.code pf_gather_New)) .leaf) (some (.code pf_task_Task_clean)) .leaf) (some (.code pf_place_Stripe)) (.node (.node .leaf (some (.code pf_pack_num)) .leaf) (some (.code pf_when_Live)) .leaf)) (some (.code pf_task_Task_Answer)) (.node (.node (.node .leaf (some (.code pf_slices_Clone_byte_byte)) .leaf) (some (.code pf_matrix_Identity)) .leaf) (some (.code pf_task_Task_more)) (.node (.node .leaf (some (.code pf_internal_strconv_bool2_int)) .leaf) (some (.code pf_pack_grown)) .leaf))))) none (.node (.node (.node (.node (.node (.node .leaf (some (.code pf_rs_Code_chosen)) .leaf) (some (.code pf_chain_Hash)) (.node .leaf (some (.code pf_math_bits_TrailingZeros32)) .leaf)) (some (.code pf_place_Metas)) (.node (.node .leaf (some (.code pf_slices_Clone_int_int)) .leaf) (some (.code pf_rs_Code_Decode)) .leaf)) (some (.code pf_task_Task_Start)) (.node (.node (.node .leaf (some (.code pf_model_join)) .leaf) (some (.code pf_pack_Read)) .leaf) (some (.code pf_task_Task_on)) (.node (.node .leaf (some (.code pf_internal_strconv_numDigits)) .leaf) (some (.code pf_task_Task_gather)) .leaf))) none (.node (.node (.node (.node .leaf (some (.code pf_task_PutRecord)) .leaf) (some (.code pf_task_Task_written)) .leaf) (some (.code pf_rs_New)) (.node (.node .leaf (some (.code pf_matrix_add)) .leaf) (some (.code pf_rs_Code_Encode)) .leaf)) (some (.code pf_depotlaw21_done)) (.node (.node (.node .leaf (some (.code pf_matrix_reduce)) .leaf) (some (.code pf_gather_Gather_Next)) .leaf) (some (.code pf_rs_Code_Size)) (.node (.node .leaf (some (.code pf_math_bits_Len64)) .leaf) (some (.code pf_task_Task_scatter)) .leaf)))) none (.node (.node (.node (.node (.node .leaf (some (.code pf_rs_Code_mix)) .leaf) (some (.code pf_task_Task_found)) .leaf) (some (.code pf_task_RightConfig)) (.node (.node .leaf (some (.code pf_words_Number)) .leaf) (some (.code pf_task_Task_forget)) .leaf)) (some (.code pf_task_Task_Got)) (.node (.node (.node .leaf (some (.code pf_matrix_Right)) .leaf) (some (.code pf_pack_Reader_End)) .leaf) (some (.code pf_place_Position)) (.node (.node .leaf (some (.code pf_internal_strconv_formatBits)) .leaf) (some (.code pf_task_Task_all)) .leaf))) (some (.code pf_task_New)) (.node (.node (.node (.node .leaf (some (.code pf_when_Deadline)) .leaf) (some (.code pf_task_Task_decide)) .leaf) (some (.code pf_task_Task_enter)) (.node (.node .leaf (some (.code pf_internal_strconv_FormatUint)) .leaf) (some (.code pf_task_Task_unseen)) .leaf)) (some (.code pf_depotbook_Same_int)) (.node (.node (.node .leaf (some (.code pf_gf_Mul)) .leaf) (some (.code pf_gf_Inv)) .leaf) (some (.prim Mk.prim)) (.node (.node .leaf (some (.code pf_internal_strconv_isPowerOfTwo)) .leaf) (some (.code pf_pack_Reader_fail)) .leaf))))))
theorem bd3 : BodyOk cx 3 := ⟨Tryd.f3, Tryd.func3, by kernel_rfl, by kernel_rfl⟩
theorem bd5 : BodyOk cx 5 := ⟨Tryd.f5, Tryd.func5, by kernel_rfl, by kernel_rfl⟩
theorem bd6 : BodyOk cx 6 := ⟨Tryd.f6, Tryd.func6, by kernel_rfl, by kernel_rfl⟩
theorem bd7 : BodyOk cx 7 := ⟨Tryd.f7, Tryd.func7, by kernel_rfl, by kernel_rfl⟩
theorem bd8 : BodyOk cx 8 := ⟨Tryd.f8, Tryd.func8, by kernel_rfl, by kernel_rfl⟩
theorem bd9 : BodyOk cx 9 := ⟨Tryd.f9, Tryd.func9, by kernel_rfl, by kernel_rfl⟩
theorem bd10 : BodyOk cx 10 := ⟨Tryd.f10, Tryd.func10, by kernel_rfl, by kernel_rfl⟩
theorem bd11 : BodyOk cx 11 := ⟨Tryd.f11, Tryd.func11, by kernel_rfl, by kernel_rfl⟩
theorem bd12 : BodyOk cx 12 := ⟨Tryd.f12, Tryd.func12, by kernel_rfl, by kernel_rfl⟩
theorem bd13 : BodyOk cx 13 := ⟨Tryd.f13, Tryd.func13, by kernel_rfl, by kernel_rfl⟩
theorem bd14 : BodyOk cx 14 := ⟨Tryd.f14, Tryd.func14, by kernel_rfl, by kernel_rfl⟩
theorem bd15 : BodyOk cx 15 := ⟨Tryd.f15, Tryd.func15, by kernel_rfl, by kernel_rfl⟩
theorem bd16 : BodyOk cx 16 := ⟨Tryd.f16, Tryd.func16, by kernel_rfl, by kernel_rfl⟩
theorem bd17 : BodyOk cx 17 := ⟨Tryd.f17, Tryd.func17, by kernel_rfl, by kernel_rfl⟩
theorem bd18 : BodyOk cx 18 := ⟨Tryd.f18, Tryd.func18, by kernel_rfl, by kernel_rfl⟩
theorem bd19 : BodyOk cx 19 := ⟨Tryd.f19, Tryd.func19, by kernel_rfl, by kernel_rfl⟩
theorem bd20 : BodyOk cx 20 := ⟨Tryd.f20, Tryd.func20, by kernel_rfl, by kernel_rfl⟩
theorem bd21 : BodyOk cx 21 := ⟨Tryd.f21, Tryd.func21, by kernel_rfl, by kernel_rfl⟩
theorem bd22 : BodyOk cx 22 := ⟨Tryd.f22, Tryd.func22, by kernel_rfl, by kernel_rfl⟩
theorem bd23 : BodyOk cx 23 := ⟨Tryd.f23, Tryd.func23, by kernel_rfl, by kernel_rfl⟩
theorem bd24 : BodyOk cx 24 := ⟨Tryd.f24, Tryd.func24, by kernel_rfl, by kernel_rfl⟩
theorem bd25 : BodyOk cx 25 := ⟨Tryd.f25, Tryd.func25, by kernel_rfl, by kernel_rfl⟩
theorem bd26 : BodyOk cx 26 := ⟨Tryd.f26, Tryd.func26, by kernel_rfl, by kernel_rfl⟩
theorem bd27 : BodyOk cx 27 := ⟨Tryd.f27, Tryd.func27, by kernel_rfl, by kernel_rfl⟩
theorem bd28 : BodyOk cx 28 := ⟨Tryd.f28, Tryd.func28, by kernel_rfl, by kernel_rfl⟩
theorem bd29 : BodyOk cx 29 := ⟨Tryd.f29, Tryd.func29, by kernel_rfl, by kernel_rfl⟩
theorem bd30 : BodyOk cx 30 := ⟨Tryd.f30, Tryd.func30, by kernel_rfl, by kernel_rfl⟩
theorem bd31 : BodyOk cx 31 := ⟨Tryd.f31, Tryd.func31, by kernel_rfl, by kernel_rfl⟩
theorem bd32 : BodyOk cx 32 := ⟨Tryd.f32, Tryd.func32, by kernel_rfl, by kernel_rfl⟩
theorem bd33 : BodyOk cx 33 := ⟨Tryd.f33, Tryd.func33, by kernel_rfl, by kernel_rfl⟩
theorem bd34 : BodyOk cx 34 := ⟨Tryd.f34, Tryd.func34, by kernel_rfl, by kernel_rfl⟩
theorem bd35 : BodyOk cx 35 := ⟨Tryd.f35, Tryd.func35, by kernel_rfl, by kernel_rfl⟩
theorem bd36 : BodyOk cx 36 := ⟨Tryd.f36, Tryd.func36, by kernel_rfl, by kernel_rfl⟩
theorem bd37 : BodyOk cx 37 := ⟨Tryd.f37, Tryd.func37, by kernel_rfl, by kernel_rfl⟩
theorem bd38 : BodyOk cx 38 := ⟨Tryd.f38, Tryd.func38, by kernel_rfl, by kernel_rfl⟩
theorem bd39 : BodyOk cx 39 := ⟨Tryd.f39, Tryd.func39, by kernel_rfl, by kernel_rfl⟩
theorem bd40 : BodyOk cx 40 := ⟨Tryd.f40, Tryd.func40, by kernel_rfl, by kernel_rfl⟩
theorem bd41 : BodyOk cx 41 := ⟨Tryd.f41, Tryd.func41, by kernel_rfl, by kernel_rfl⟩
theorem bd42 : BodyOk cx 42 := ⟨Tryd.f42, Tryd.func42, by kernel_rfl, by kernel_rfl⟩
theorem bd43 : BodyOk cx 43 := ⟨Tryd.f43, Tryd.func43, by kernel_rfl, by kernel_rfl⟩
theorem bd44 : BodyOk cx 44 := ⟨Tryd.f44, Tryd.func44, by kernel_rfl, by kernel_rfl⟩
theorem bd45 : BodyOk cx 45 := ⟨Tryd.f45, Tryd.func45, by kernel_rfl, by kernel_rfl⟩
theorem bd46 : BodyOk cx 46 := ⟨Tryd.f46, Tryd.func46, by kernel_rfl, by kernel_rfl⟩
theorem bd47 : BodyOk cx 47 := ⟨Tryd.f47, Tryd.func47, by kernel_rfl, by kernel_rfl⟩
theorem bd48 : BodyOk cx 48 := ⟨Tryd.f48, Tryd.func48, by kernel_rfl, by kernel_rfl⟩
theorem bd49 : BodyOk cx 49 := ⟨Tryd.f49, Tryd.func49, by kernel_rfl, by kernel_rfl⟩
theorem bd50 : BodyOk cx 50 := ⟨Tryd.f50, Tryd.func50, by kernel_rfl, by kernel_rfl⟩
theorem bd51 : BodyOk cx 51 := ⟨Tryd.f51, Tryd.func51, by kernel_rfl, by kernel_rfl⟩
theorem bd52 : BodyOk cx 52 := ⟨Tryd.f52, Tryd.func52, by kernel_rfl, by kernel_rfl⟩
theorem bd53 : BodyOk cx 53 := ⟨Tryd.f53, Tryd.func53, by kernel_rfl, by kernel_rfl⟩
theorem bd54 : BodyOk cx 54 := ⟨Tryd.f54, Tryd.func54, by kernel_rfl, by kernel_rfl⟩
theorem bd55 : BodyOk cx 55 := ⟨Tryd.f55, Tryd.func55, by kernel_rfl, by kernel_rfl⟩
theorem bd56 : BodyOk cx 56 := ⟨Tryd.f56, Tryd.func56, by kernel_rfl, by kernel_rfl⟩
theorem bd57 : BodyOk cx 57 := ⟨Tryd.f57, Tryd.func57, by kernel_rfl, by kernel_rfl⟩
theorem bd58 : BodyOk cx 58 := ⟨Tryd.f58, Tryd.func58, by kernel_rfl, by kernel_rfl⟩
theorem bd59 : BodyOk cx 59 := ⟨Tryd.f59, Tryd.func59, by kernel_rfl, by kernel_rfl⟩
theorem bd60 : BodyOk cx 60 := ⟨Tryd.f60, Tryd.func60, by kernel_rfl, by kernel_rfl⟩
theorem bd61 : BodyOk cx 61 := ⟨Tryd.f61, Tryd.func61, by kernel_rfl, by kernel_rfl⟩
theorem bd62 : BodyOk cx 62 := ⟨Tryd.f62, Tryd.func62, by kernel_rfl, by kernel_rfl⟩
theorem bd63 : BodyOk cx 63 := ⟨Tryd.f63, Tryd.func63, by kernel_rfl, by kernel_rfl⟩
theorem bd64 : BodyOk cx 64 := ⟨Tryd.f64, Tryd.func64, by kernel_rfl, by kernel_rfl⟩
theorem bd65 : BodyOk cx 65 := ⟨Tryd.f65, Tryd.func65, by kernel_rfl, by kernel_rfl⟩
theorem bd66 : BodyOk cx 66 := ⟨Tryd.f66, Tryd.func66, by kernel_rfl, by kernel_rfl⟩
theorem bd67 : BodyOk cx 67 := ⟨Tryd.f67, Tryd.func67, by kernel_rfl, by kernel_rfl⟩
theorem bd68 : BodyOk cx 68 := ⟨Tryd.f68, Tryd.func68, by kernel_rfl, by kernel_rfl⟩
theorem bd69 : BodyOk cx 69 := ⟨Tryd.f69, Tryd.func69, by kernel_rfl, by kernel_rfl⟩
theorem bd70 : BodyOk cx 70 := ⟨Tryd.f70, Tryd.func70, by kernel_rfl, by kernel_rfl⟩
theorem bd71 : BodyOk cx 71 := ⟨Tryd.f71, Tryd.func71, by kernel_rfl, by kernel_rfl⟩
theorem bd72 : BodyOk cx 72 := ⟨Tryd.f72, Tryd.func72, by kernel_rfl, by kernel_rfl⟩
theorem bd73 : BodyOk cx 73 := ⟨Tryd.f73, Tryd.func73, by kernel_rfl, by kernel_rfl⟩
theorem bd74 : BodyOk cx 74 := ⟨Tryd.f74, Tryd.func74, by kernel_rfl, by kernel_rfl⟩
theorem bd75 : BodyOk cx 75 := ⟨Tryd.f75, Tryd.func75, by kernel_rfl, by kernel_rfl⟩
theorem bd76 : BodyOk cx 76 := ⟨Tryd.f76, Tryd.func76, by kernel_rfl, by kernel_rfl⟩
theorem bd77 : BodyOk cx 77 := ⟨Tryd.f77, Tryd.func77, by kernel_rfl, by kernel_rfl⟩
theorem bd78 : BodyOk cx 78 := ⟨Tryd.f78, Tryd.func78, by kernel_rfl, by kernel_rfl⟩
theorem bd79 : BodyOk cx 79 := ⟨Tryd.f79, Tryd.func79, by kernel_rfl, by kernel_rfl⟩
theorem bd80 : BodyOk cx 80 := ⟨Tryd.f80, Tryd.func80, by kernel_rfl, by kernel_rfl⟩
theorem bd81 : BodyOk cx 81 := ⟨Tryd.f81, Tryd.func81, by kernel_rfl, by kernel_rfl⟩
theorem bd82 : BodyOk cx 82 := ⟨Tryd.f82, Tryd.func82, by kernel_rfl, by kernel_rfl⟩
theorem bd83 : BodyOk cx 83 := ⟨Tryd.f83, Tryd.func83, by kernel_rfl, by kernel_rfl⟩
theorem bd84 : BodyOk cx 84 := ⟨Tryd.f84, Tryd.func84, by kernel_rfl, by kernel_rfl⟩
theorem bd85 : BodyOk cx 85 := ⟨Tryd.f85, Tryd.func85, by kernel_rfl, by kernel_rfl⟩
theorem bd86 : BodyOk cx 86 := ⟨Tryd.f86, Tryd.func86, by kernel_rfl, by kernel_rfl⟩
theorem bd87 : BodyOk cx 87 := ⟨Tryd.f87, Tryd.func87, by kernel_rfl, by kernel_rfl⟩
theorem bd88 : BodyOk cx 88 := ⟨Tryd.f88, Tryd.func88, by kernel_rfl, by kernel_rfl⟩
theorem bd89 : BodyOk cx 89 := ⟨Tryd.f89, Tryd.func89, by kernel_rfl, by kernel_rfl⟩
theorem bd90 : BodyOk cx 90 := ⟨Tryd.f90, Tryd.func90, by kernel_rfl, by kernel_rfl⟩
theorem bd91 : BodyOk cx 91 := ⟨Tryd.f91, Tryd.func91, by kernel_rfl, by kernel_rfl⟩
theorem bd92 : BodyOk cx 92 := ⟨Tryd.f92, Tryd.func92, by kernel_rfl, by kernel_rfl⟩
theorem bd93 : BodyOk cx 93 := ⟨Tryd.f93, Tryd.func93, by kernel_rfl, by kernel_rfl⟩
theorem bd94 : BodyOk cx 94 := ⟨Tryd.f94, Tryd.func94, by kernel_rfl, by kernel_rfl⟩
theorem bd95 : BodyOk cx 95 := ⟨Tryd.f95, Tryd.func95, by kernel_rfl, by kernel_rfl⟩
theorem bd96 : BodyOk cx 96 := ⟨Tryd.f96, Tryd.func96, by kernel_rfl, by kernel_rfl⟩
theorem bd97 : BodyOk cx 97 := ⟨Tryd.f97, Tryd.func97, by kernel_rfl, by kernel_rfl⟩
theorem bds : AllOf (BodyOk cx) nums := ⟨bd3, bd5, bd6, bd7, bd8, bd9, bd10, bd11, bd12, bd13, bd14, bd15, bd16, bd17, bd18, bd19, bd20, bd21, bd22, bd23, bd24, bd25, bd26, bd27, bd28, bd29, bd30, bd31, bd32, bd33, bd34, bd35, bd36, bd37, bd38, bd39, bd40, bd41, bd42, bd43, bd44, bd45, bd46, bd47, bd48, bd49, bd50, bd51, bd52, bd53, bd54, bd55, bd56, bd57, bd58, bd59, bd60, bd61, bd62, bd63, bd64, bd65, bd66, bd67, bd68, bd69, bd70, bd71, bd72, bd73, bd74, bd75, bd76, bd77, bd78, bd79, bd80, bd81, bd82, bd83, bd84, bd85, bd86, bd87, bd88, bd89, bd90, bd91, bd92, bd93, bd94, bd95, bd96, bd97, trivial⟩
theorem ext_ok : ExtOk cx := by
  refine ext_table (l := []) rfl fun p hp => ?_
  cases hp
theorem prog_ok : ProgOk cx := ⟨by kernel_rfl, ext_ok, fm_ok2 rfl bds⟩
namespace R
def nums : List Nat := [3, 6, 7, 8, 9, 10, 11, 12, 13, 14, 15, 16, 18, 19, 20, 21, 22, 23, 24, 25, 26, 27, 28, 29, 30, 31, 32, 33, 34, 35, 36, 37, 38, 39, 40, 41, 42, 43, 44, 45, 46, 47, 48, 49, 50, 51, 52, 53, 54, 55, 56, 57, 58, 59, 60, 61, 62, 63, 64, 65, 66, 67, 68, 69, 70, 71, 72, 73, 74, 75, 76, 77, 78, 79, 80, 81, 82, 83, 84, 85, 86, 87, 88, 89, 90, 91, 92, 93, 94, 95, 96, 97]
noncomputable def cx : Cx := { P := Tryd.prog, fm := fmOf nums, gm := fun _ => none, ext := extOf [], bt := none }
def tree0 : Tr LF := (.node (.node (.node (.node (.node (.node (.node .leaf (some (.code pf_slices_Index_int_int)) .leaf) (some (.code pf_matrix_Cauchy)) (.node .leaf (some (.code pf_math_bits_TrailingZeros)) .leaf)) (some (.code pf_words_Key)) (.node (.node .leaf (some (.code pf_pack_Num)) .leaf) (some (.code pf_gather_Gather_State)) .leaf)) (some (.code pf_depotlaw21_one)) (.node (.node (.node .leaf (some (.code pf_model_Next_1)) .leaf) (some (.code pf_task_Task_tell)) .leaf) (some (.code pf_task_Task_ask)) (.node (.node .leaf (some (.code pf_internal_strconv_small)) .leaf) (some (.code pf_task_reads)) .leaf))) (some (.code pf_depotlaw21_TaskRuns)) (.node (.node (.node (.node .leaf (some (.code pf_slices_Clone_api_Part_api_Part)) .leaf) (some (.code pf_task_Task_scattered)) .leaf) (some (.code pf_task_within)) (.node (.node .leaf (some (.code pf_strconv_FormatUint)) .leaf) (some (.code pf_task_Task_refill)) .leaf)) (some (.code pf_task_Task_Phase)) (.node (.node (.node .leaf (some (.code pf_matrix_copied)) .leaf) (some (.code pf_slices_Contains_int_int)) .leaf) (some (.code pf_gather_Gather_Got)) (.node (.node .leaf (some (.code pf_internal_strconv_log10Pow2)) .leaf) (some (.code pf_model_Next)) .leaf)))) none (.node (.node (.node (.node (.node .leaf (some (.code pf_matrix_Invert)) .leaf) (some (.code pf_task_Task_gathered)) (.node .leaf (some (.code pf_math_bits_TrailingZeros64)) .leaf)) none (.node (.node .leaf (some (.code pf_when_time)) .leaf) (some (.code pf_gather_Gather_Parts)) .leaf)) (some (.code pf_task_Task_Take)) (.node (.node (.node .leaf (some (.code pf_model_count)) .leaf) (some (.code pf_pack_Reader_Num)) .leaf) (some (.code pf_task_GetRecord)) (.node (.node .leaf (some (.code pf_internal_strconv_formatBase10)) .leaf) (some (.code pf_task_Task_write)) .leaf))) none (.node (.node (.node (.node .leaf (some (.code pf_gather_New)) .leaf) (some (.code pf_task_Task_clean)) .leaf) (some (.code pf_place_Stripe)) (.node (.node .leaf (some (.code pf_pack_num)) .leaf) (some (.code pf_when_Live)) .leaf)) (some (.code pf_task_Task_Answer)) (.node (.node (.node .leaf (some (.code pf_slices_Clone_byte_byte)) .leaf) (some (.code pf_matrix_Identity)) .leaf) (some (.code pf_task_Task_more)) (.node (.node .leaf (some (.code pf_internal_strconv_bool2_int)) .leaf) (some (.code pf_pack_grown)) .leaf))))) none (.node (.node (.node (.node (.node (.node .leaf (some (.code pf_rs_Code_chosen)) .leaf) (some (.code pf_chain_Hash)) (.node .leaf (some (.code pf_math_bits_TrailingZeros32)) .leaf)) (some (.code pf_place_Metas)) (.node (.node .leaf (some (.code pf_slices_Clone_int_int)) .leaf) (some (.code pf_rs_Code_Decode)) .leaf)) (some (.code pf_task_Task_Start)) (.node (.node (.node .leaf (some (.code pf_model_join)) .leaf) (some (.code pf_pack_Read)) .leaf) (some (.code pf_task_Task_on)) (.node (.node .leaf (some (.code pf_internal_strconv_numDigits)) .leaf) (some (.code pf_task_Task_gather)) .leaf))) none (.node (.node (.node (.node .leaf (some (.code pf_task_PutRecord)) .leaf) (some (.code pf_task_Task_written)) .leaf) (some (.code pf_rs_New)) (.node (.node .leaf (some (.code pf_matrix_add)) .leaf) (some (.code pf_rs_Code_Encode)) .leaf)) (some (.code pf_depotlaw21_done)) (.node (.node (.node .leaf (some (.code pf_matrix_reduce)) .leaf) (some (.code pf_gather_Gather_Next)) .leaf) (some (.code pf_rs_Code_Size)) (.node (.node .leaf (some (.code pf_math_bits_Len64)) .leaf) (some (.code pf_task_Task_scatter)) .leaf)))) none (.node (.node (.node (.node (.node .leaf (some (.code pf_rs_Code_mix)) .leaf) (some (.code pf_task_Task_found)) .leaf) (some (.code pf_task_RightConfig)) (.node (.node .leaf (some (.code pf_words_Number)) .leaf) (some (.code pf_task_Task_forget)) .leaf)) (some (.code pf_task_Task_Got)) (.node (.node (.node .leaf (some (.code pf_matrix_Right)) .leaf) (some (.code pf_pack_Reader_End)) .leaf) (some (.code pf_place_Position)) (.node (.node .leaf (some (.code pf_internal_strconv_formatBits)) .leaf) (some (.code pf_task_Task_all)) .leaf))) (some (.code pf_task_New)) (.node (.node (.node (.node .leaf (some (.code pf_when_Deadline)) .leaf) (some (.code pf_task_Task_decide)) .leaf) (some (.code pf_task_Task_enter)) (.node (.node .leaf (some (.code pf_internal_strconv_FormatUint)) .leaf) (some (.code pf_task_Task_unseen)) .leaf)) (some (.code pf_depotbook_Same_int)) (.node (.node (.node .leaf (some (.code pf_gf_Mul)) .leaf) (some (.code pf_gf_Inv)) .leaf) (some (.prim Mk.prim)) (.node (.node .leaf (some (.code pf_internal_strconv_isPowerOfTwo)) .leaf) (some (.code pf_pack_Reader_fail)) .leaf))))))
theorem tr3 : trF cx Tryd.f3 = pf_depotlaw21_TaskRuns := by kernel_rfl
theorem bd3 : BodyOk cx 3 := ⟨Tryd.f3, Tryd.func3, by kernel_rfl, by kernel_rfl⟩
theorem tr6 : trF cx Tryd.f6 = pf_task_New := by kernel_rfl
theorem bd6 : BodyOk cx 6 := ⟨Tryd.f6, Tryd.func6, by kernel_rfl, by kernel_rfl⟩
theorem tr7 : trF cx Tryd.f7 = pf_depotlaw21_one := by kernel_rfl
theorem bd7 : BodyOk cx 7 := ⟨Tryd.f7, Tryd.func7, by kernel_rfl, by kernel_rfl⟩
theorem tr8 : trF cx Tryd.f8 = pf_task_Task_Start := by kernel_rfl
theorem bd8 : BodyOk cx 8 := ⟨Tryd.f8, Tryd.func8, by kernel_rfl, by kernel_rfl⟩
theorem tr9 : trF cx Tryd.f9 = pf_task_Task_Take := by kernel_rfl
theorem bd9 : BodyOk cx 9 := ⟨Tryd.f9, Tryd.func9, by kernel_rfl, by kernel_rfl⟩
theorem tr10 : trF cx Tryd.f10 = pf_task_Task_Got := by kernel_rfl
theorem bd10 : BodyOk cx 10 := ⟨Tryd.f10, Tryd.func10, by kernel_rfl, by kernel_rfl⟩
theorem tr11 : trF cx Tryd.f11 = pf_task_Task_Phase := by kernel_rfl
theorem bd11 : BodyOk cx 11 := ⟨Tryd.f11, Tryd.func11, by kernel_rfl, by kernel_rfl⟩
theorem tr12 : trF cx Tryd.f12 = pf_depotlaw21_done := by kernel_rfl
theorem bd12 : BodyOk cx 12 := ⟨Tryd.f12, Tryd.func12, by kernel_rfl, by kernel_rfl⟩
theorem tr13 : trF cx Tryd.f13 = pf_task_Task_Answer := by kernel_rfl
theorem bd13 : BodyOk cx 13 := ⟨Tryd.f13, Tryd.func13, by kernel_rfl, by kernel_rfl⟩
theorem tr14 : trF cx Tryd.f14 = pf_depotbook_Same_int := by kernel_rfl
theorem bd14 : BodyOk cx 14 := ⟨Tryd.f14, Tryd.func14, by kernel_rfl, by kernel_rfl⟩
theorem tr15 : trF cx Tryd.f15 = pf_words_Key := by kernel_rfl
theorem bd15 : BodyOk cx 15 := ⟨Tryd.f15, Tryd.func15, by kernel_rfl, by kernel_rfl⟩
theorem tr16 : trF cx Tryd.f16 = pf_place_Metas := by kernel_rfl
theorem bd16 : BodyOk cx 16 := ⟨Tryd.f16, Tryd.func16, by kernel_rfl, by kernel_rfl⟩
theorem tr18 : trF cx Tryd.f18 = pf_task_RightConfig := by kernel_rfl
theorem bd18 : BodyOk cx 18 := ⟨Tryd.f18, Tryd.func18, by kernel_rfl, by kernel_rfl⟩
theorem tr19 : trF cx Tryd.f19 = pf_task_within := by kernel_rfl
theorem bd19 : BodyOk cx 19 := ⟨Tryd.f19, Tryd.func19, by kernel_rfl, by kernel_rfl⟩
theorem tr20 : trF cx Tryd.f20 = pf_rs_New := by kernel_rfl
theorem bd20 : BodyOk cx 20 := ⟨Tryd.f20, Tryd.func20, by kernel_rfl, by kernel_rfl⟩
theorem tr21 : trF cx Tryd.f21 = pf_place_Stripe := by kernel_rfl
theorem bd21 : BodyOk cx 21 := ⟨Tryd.f21, Tryd.func21, by kernel_rfl, by kernel_rfl⟩
theorem tr22 : trF cx Tryd.f22 = pf_task_Task_enter := by kernel_rfl
theorem bd22 : BodyOk cx 22 := ⟨Tryd.f22, Tryd.func22, by kernel_rfl, by kernel_rfl⟩
theorem tr23 : trF cx Tryd.f23 = pf_task_Task_ask := by kernel_rfl
theorem bd23 : BodyOk cx 23 := ⟨Tryd.f23, Tryd.func23, by kernel_rfl, by kernel_rfl⟩
theorem tr24 : trF cx Tryd.f24 = pf_task_Task_on := by kernel_rfl
theorem bd24 : BodyOk cx 24 := ⟨Tryd.f24, Tryd.func24, by kernel_rfl, by kernel_rfl⟩
theorem tr25 : trF cx Tryd.f25 = pf_task_GetRecord := by kernel_rfl
theorem bd25 : BodyOk cx 25 := ⟨Tryd.f25, Tryd.func25, by kernel_rfl, by kernel_rfl⟩
theorem tr26 : trF cx Tryd.f26 = pf_place_Position := by kernel_rfl
theorem bd26 : BodyOk cx 26 := ⟨Tryd.f26, Tryd.func26, by kernel_rfl, by kernel_rfl⟩
theorem tr27 : trF cx Tryd.f27 = pf_gather_Gather_Got := by kernel_rfl
theorem bd27 : BodyOk cx 27 := ⟨Tryd.f27, Tryd.func27, by kernel_rfl, by kernel_rfl⟩
theorem tr28 : trF cx Tryd.f28 = pf_rs_Code_Size := by kernel_rfl
theorem bd28 : BodyOk cx 28 := ⟨Tryd.f28, Tryd.func28, by kernel_rfl, by kernel_rfl⟩
theorem tr29 : trF cx Tryd.f29 = pf_task_Task_more := by kernel_rfl
theorem bd29 : BodyOk cx 29 := ⟨Tryd.f29, Tryd.func29, by kernel_rfl, by kernel_rfl⟩
theorem tr30 : trF cx Tryd.f30 = Mk.pf := by kernel_rfl
theorem bd30 : BodyOk cx 30 := ⟨Tryd.f30, Tryd.func30, by kernel_rfl, by kernel_rfl⟩
theorem tr31 : trF cx Tryd.f31 = pf_matrix_Cauchy := by kernel_rfl
theorem bd31 : BodyOk cx 31 := ⟨Tryd.f31, Tryd.func31, by kernel_rfl, by kernel_rfl⟩
theorem tr32 : trF cx Tryd.f32 = pf_chain_Hash := by kernel_rfl
theorem bd32 : BodyOk cx 32 := ⟨Tryd.f32, Tryd.func32, by kernel_rfl, by kernel_rfl⟩
theorem tr33 : trF cx Tryd.f33 = pf_task_Task_gathered := by kernel_rfl
theorem bd33 : BodyOk cx 33 := ⟨Tryd.f33, Tryd.func33, by kernel_rfl, by kernel_rfl⟩
theorem tr34 : trF cx Tryd.f34 = pf_task_Task_found := by kernel_rfl
theorem bd34 : BodyOk cx 34 := ⟨Tryd.f34, Tryd.func34, by kernel_rfl, by kernel_rfl⟩
theorem tr35 : trF cx Tryd.f35 = pf_task_Task_scattered := by kernel_rfl
theorem bd35 : BodyOk cx 35 := ⟨Tryd.f35, Tryd.func35, by kernel_rfl, by kernel_rfl⟩
theorem tr36 : trF cx Tryd.f36 = pf_task_Task_written := by kernel_rfl
theorem bd36 : BodyOk cx 36 := ⟨Tryd.f36, Tryd.func36, by kernel_rfl, by kernel_rfl⟩
theorem tr37 : trF cx Tryd.f37 = pf_task_Task_clean := by kernel_rfl
theorem bd37 : BodyOk cx 37 := ⟨Tryd.f37, Tryd.func37, by kernel_rfl, by kernel_rfl⟩
theorem tr38 : trF cx Tryd.f38 = pf_task_Task_decide := by kernel_rfl
theorem bd38 : BodyOk cx 38 := ⟨Tryd.f38, Tryd.func38, by kernel_rfl, by kernel_rfl⟩
theorem tr39 : trF cx Tryd.f39 = pf_task_Task_tell := by kernel_rfl
theorem bd39 : BodyOk cx 39 := ⟨Tryd.f39, Tryd.func39, by kernel_rfl, by kernel_rfl⟩
theorem tr40 : trF cx Tryd.f40 = pf_pack_Read := by kernel_rfl
theorem bd40 : BodyOk cx 40 := ⟨Tryd.f40, Tryd.func40, by kernel_rfl, by kernel_rfl⟩
theorem tr41 : trF cx Tryd.f41 = pf_pack_Reader_Num := by kernel_rfl
theorem bd41 : BodyOk cx 41 := ⟨Tryd.f41, Tryd.func41, by kernel_rfl, by kernel_rfl⟩
theorem tr42 : trF cx Tryd.f42 = pf_pack_Reader_End := by kernel_rfl
theorem bd42 : BodyOk cx 42 := ⟨Tryd.f42, Tryd.func42, by kernel_rfl, by kernel_rfl⟩
theorem tr43 : trF cx Tryd.f43 = pf_slices_Contains_int_int := by kernel_rfl
theorem bd43 : BodyOk cx 43 := ⟨Tryd.f43, Tryd.func43, by kernel_rfl, by kernel_rfl⟩
theorem tr44 : trF cx Tryd.f44 = pf_gather_Gather_Next := by kernel_rfl
theorem bd44 : BodyOk cx 44 := ⟨Tryd.f44, Tryd.func44, by kernel_rfl, by kernel_rfl⟩
theorem tr45 : trF cx Tryd.f45 = pf_matrix_Identity := by kernel_rfl
theorem bd45 : BodyOk cx 45 := ⟨Tryd.f45, Tryd.func45, by kernel_rfl, by kernel_rfl⟩
theorem tr46 : trF cx Tryd.f46 = pf_gf_Inv := by kernel_rfl
theorem bd46 : BodyOk cx 46 := ⟨Tryd.f46, Tryd.func46, by kernel_rfl, by kernel_rfl⟩
theorem tr47 : trF cx Tryd.f47 = pf_gather_Gather_State := by kernel_rfl
theorem bd47 : BodyOk cx 47 := ⟨Tryd.f47, Tryd.func47, by kernel_rfl, by kernel_rfl⟩
theorem tr48 : trF cx Tryd.f48 = pf_rs_Code_Decode := by kernel_rfl
theorem bd48 : BodyOk cx 48 := ⟨Tryd.f48, Tryd.func48, by kernel_rfl, by kernel_rfl⟩
theorem tr49 : trF cx Tryd.f49 = pf_gather_Gather_Parts := by kernel_rfl
theorem bd49 : BodyOk cx 49 := ⟨Tryd.f49, Tryd.func49, by kernel_rfl, by kernel_rfl⟩
theorem tr50 : trF cx Tryd.f50 = pf_task_Task_forget := by kernel_rfl
theorem bd50 : BodyOk cx 50 := ⟨Tryd.f50, Tryd.func50, by kernel_rfl, by kernel_rfl⟩
theorem tr51 : trF cx Tryd.f51 = pf_task_Task_refill := by kernel_rfl
theorem bd51 : BodyOk cx 51 := ⟨Tryd.f51, Tryd.func51, by kernel_rfl, by kernel_rfl⟩
theorem tr52 : trF cx Tryd.f52 = pf_rs_Code_Encode := by kernel_rfl
theorem bd52 : BodyOk cx 52 := ⟨Tryd.f52, Tryd.func52, by kernel_rfl, by kernel_rfl⟩
theorem tr53 : trF cx Tryd.f53 = pf_when_Live := by kernel_rfl
theorem bd53 : BodyOk cx 53 := ⟨Tryd.f53, Tryd.func53, by kernel_rfl, by kernel_rfl⟩
theorem tr54 : trF cx Tryd.f54 = pf_task_Task_unseen := by kernel_rfl
theorem bd54 : BodyOk cx 54 := ⟨Tryd.f54, Tryd.func54, by kernel_rfl, by kernel_rfl⟩
theorem tr55 : trF cx Tryd.f55 = pf_task_reads := by kernel_rfl
theorem bd55 : BodyOk cx 55 := ⟨Tryd.f55, Tryd.func55, by kernel_rfl, by kernel_rfl⟩
theorem tr56 : trF cx Tryd.f56 = pf_task_Task_gather := by kernel_rfl
theorem bd56 : BodyOk cx 56 := ⟨Tryd.f56, Tryd.func56, by kernel_rfl, by kernel_rfl⟩
theorem tr57 : trF cx Tryd.f57 = pf_task_Task_write := by kernel_rfl
theorem bd57 : BodyOk cx 57 := ⟨Tryd.f57, Tryd.func57, by kernel_rfl, by kernel_rfl⟩
theorem tr58 : trF cx Tryd.f58 = pf_task_Task_all := by kernel_rfl
theorem bd58 : BodyOk cx 58 := ⟨Tryd.f58, Tryd.func58, by kernel_rfl, by kernel_rfl⟩
theorem tr59 : trF cx Tryd.f59 = pf_model_Next := by kernel_rfl
theorem bd59 : BodyOk cx 59 := ⟨Tryd.f59, Tryd.func59, by kernel_rfl, by kernel_rfl⟩
theorem tr60 : trF cx Tryd.f60 = pf_task_Task_scatter := by kernel_rfl
theorem bd60 : BodyOk cx 60 := ⟨Tryd.f60, Tryd.func60, by kernel_rfl, by kernel_rfl⟩
theorem tr61 : trF cx Tryd.f61 = pf_pack_grown := by kernel_rfl
theorem bd61 : BodyOk cx 61 := ⟨Tryd.f61, Tryd.func61, by kernel_rfl, by kernel_rfl⟩
theorem tr62 : trF cx Tryd.f62 = pf_pack_Reader_fail := by kernel_rfl
theorem bd62 : BodyOk cx 62 := ⟨Tryd.f62, Tryd.func62, by kernel_rfl, by kernel_rfl⟩
theorem tr63 : trF cx Tryd.f63 = pf_slices_Index_int_int := by kernel_rfl
theorem bd63 : BodyOk cx 63 := ⟨Tryd.f63, Tryd.func63, by kernel_rfl, by kernel_rfl⟩
theorem tr64 : trF cx Tryd.f64 = pf_rs_Code_chosen := by kernel_rfl
theorem bd64 : BodyOk cx 64 := ⟨Tryd.f64, Tryd.func64, by kernel_rfl, by kernel_rfl⟩
theorem tr65 : trF cx Tryd.f65 = pf_matrix_Invert := by kernel_rfl
theorem bd65 : BodyOk cx 65 := ⟨Tryd.f65, Tryd.func65, by kernel_rfl, by kernel_rfl⟩
theorem tr66 : trF cx Tryd.f66 = pf_rs_Code_mix := by kernel_rfl
theorem bd66 : BodyOk cx 66 := ⟨Tryd.f66, Tryd.func66, by kernel_rfl, by kernel_rfl⟩
theorem tr67 : trF cx Tryd.f67 = pf_slices_Clone_api_Part_api_Part := by kernel_rfl
theorem bd67 : BodyOk cx 67 := ⟨Tryd.f67, Tryd.func67, by kernel_rfl, by kernel_rfl⟩
theorem tr68 : trF cx Tryd.f68 = pf_task_PutRecord := by kernel_rfl
theorem bd68 : BodyOk cx 68 := ⟨Tryd.f68, Tryd.func68, by kernel_rfl, by kernel_rfl⟩
theorem tr69 : trF cx Tryd.f69 = pf_gather_New := by kernel_rfl
theorem bd69 : BodyOk cx 69 := ⟨Tryd.f69, Tryd.func69, by kernel_rfl, by kernel_rfl⟩
theorem tr70 : trF cx Tryd.f70 = pf_when_Deadline := by kernel_rfl
theorem bd70 : BodyOk cx 70 := ⟨Tryd.f70, Tryd.func70, by kernel_rfl, by kernel_rfl⟩
theorem tr71 : trF cx Tryd.f71 = pf_model_Next_1 := by kernel_rfl
theorem bd71 : BodyOk cx 71 := ⟨Tryd.f71, Tryd.func71, by kernel_rfl, by kernel_rfl⟩
theorem tr72 : trF cx Tryd.f72 = pf_model_join := by kernel_rfl
theorem bd72 : BodyOk cx 72 := ⟨Tryd.f72, Tryd.func72, by kernel_rfl, by kernel_rfl⟩
theorem tr73 : trF cx Tryd.f73 = pf_model_count := by kernel_rfl
theorem bd73 : BodyOk cx 73 := ⟨Tryd.f73, Tryd.func73, by kernel_rfl, by kernel_rfl⟩
theorem tr74 : trF cx Tryd.f74 = pf_matrix_Right := by kernel_rfl
theorem bd74 : BodyOk cx 74 := ⟨Tryd.f74, Tryd.func74, by kernel_rfl, by kernel_rfl⟩
theorem tr75 : trF cx Tryd.f75 = pf_matrix_copied := by kernel_rfl
theorem bd75 : BodyOk cx 75 := ⟨Tryd.f75, Tryd.func75, by kernel_rfl, by kernel_rfl⟩
theorem tr76 : trF cx Tryd.f76 = pf_matrix_reduce := by kernel_rfl
theorem bd76 : BodyOk cx 76 := ⟨Tryd.f76, Tryd.func76, by kernel_rfl, by kernel_rfl⟩
theorem tr77 : trF cx Tryd.f77 = pf_slices_Clone_byte_byte := by kernel_rfl
theorem bd77 : BodyOk cx 77 := ⟨Tryd.f77, Tryd.func77, by kernel_rfl, by kernel_rfl⟩
theorem tr78 : trF cx Tryd.f78 = pf_gf_Mul := by kernel_rfl
theorem bd78 : BodyOk cx 78 := ⟨Tryd.f78, Tryd.func78, by kernel_rfl, by kernel_rfl⟩
theorem tr79 : trF cx Tryd.f79 = pf_pack_Num := by kernel_rfl
theorem bd79 : BodyOk cx 79 := ⟨Tryd.f79, Tryd.func79, by kernel_rfl, by kernel_rfl⟩
theorem tr80 : trF cx Tryd.f80 = pf_slices_Clone_int_int := by kernel_rfl
theorem bd80 : BodyOk cx 80 := ⟨Tryd.f80, Tryd.func80, by kernel_rfl, by kernel_rfl⟩
theorem tr81 : trF cx Tryd.f81 = pf_when_time := by kernel_rfl
theorem bd81 : BodyOk cx 81 := ⟨Tryd.f81, Tryd.func81, by kernel_rfl, by kernel_rfl⟩
theorem tr82 : trF cx Tryd.f82 = pf_words_Number := by kernel_rfl
theorem bd82 : BodyOk cx 82 := ⟨Tryd.f82, Tryd.func82, by kernel_rfl, by kernel_rfl⟩
theorem tr83 : trF cx Tryd.f83 = pf_strconv_FormatUint := by kernel_rfl
theorem bd83 : BodyOk cx 83 := ⟨Tryd.f83, Tryd.func83, by kernel_rfl, by kernel_rfl⟩
theorem tr84 : trF cx Tryd.f84 = pf_matrix_add := by kernel_rfl
theorem bd84 : BodyOk cx 84 := ⟨Tryd.f84, Tryd.func84, by kernel_rfl, by kernel_rfl⟩
theorem tr85 : trF cx Tryd.f85 = pf_pack_num := by kernel_rfl
theorem bd85 : BodyOk cx 85 := ⟨Tryd.f85, Tryd.func85, by kernel_rfl, by kernel_rfl⟩
theorem tr86 : trF cx Tryd.f86 = pf_internal_strconv_FormatUint := by kernel_rfl
theorem bd86 : BodyOk cx 86 := ⟨Tryd.f86, Tryd.func86, by kernel_rfl, by kernel_rfl⟩
theorem tr87 : trF cx Tryd.f87 = pf_internal_strconv_small := by kernel_rfl
theorem bd87 : BodyOk cx 87 := ⟨Tryd.f87, Tryd.func87, by kernel_rfl, by kernel_rfl⟩
theorem tr88 : trF cx Tryd.f88 = pf_internal_strconv_numDigits := by kernel_rfl
theorem bd88 : BodyOk cx 88 := ⟨Tryd.f88, Tryd.func88, by kernel_rfl, by kernel_rfl⟩
theorem tr89 : trF cx Tryd.f89 = pf_internal_strconv_formatBase10 := by kernel_rfl
theorem bd89 : BodyOk cx 89 := ⟨Tryd.f89, Tryd.func89, by kernel_rfl, by kernel_rfl⟩
theorem tr90 : trF cx Tryd.f90 = pf_internal_strconv_formatBits := by kernel_rfl
theorem bd90 : BodyOk cx 90 := ⟨Tryd.f90, Tryd.func90, by kernel_rfl, by kernel_rfl⟩
theorem tr91 : trF cx Tryd.f91 = pf_internal_strconv_log10Pow2 := by kernel_rfl
theorem bd91 : BodyOk cx 91 := ⟨Tryd.f91, Tryd.func91, by kernel_rfl, by kernel_rfl⟩
theorem tr92 : trF cx Tryd.f92 = pf_math_bits_Len64 := by kernel_rfl
theorem bd92 : BodyOk cx 92 := ⟨Tryd.f92, Tryd.func92, by kernel_rfl, by kernel_rfl⟩
theorem tr93 : trF cx Tryd.f93 = pf_internal_strconv_bool2_int := by kernel_rfl
theorem bd93 : BodyOk cx 93 := ⟨Tryd.f93, Tryd.func93, by kernel_rfl, by kernel_rfl⟩
theorem tr94 : trF cx Tryd.f94 = pf_internal_strconv_isPowerOfTwo := by kernel_rfl
theorem bd94 : BodyOk cx 94 := ⟨Tryd.f94, Tryd.func94, by kernel_rfl, by kernel_rfl⟩
theorem tr95 : trF cx Tryd.f95 = pf_math_bits_TrailingZeros := by kernel_rfl
theorem bd95 : BodyOk cx 95 := ⟨Tryd.f95, Tryd.func95, by kernel_rfl, by kernel_rfl⟩
theorem tr96 : trF cx Tryd.f96 = pf_math_bits_TrailingZeros32 := by kernel_rfl
theorem bd96 : BodyOk cx 96 := ⟨Tryd.f96, Tryd.func96, by kernel_rfl, by kernel_rfl⟩
theorem tr97 : trF cx Tryd.f97 = pf_math_bits_TrailingZeros64 := by kernel_rfl
theorem bd97 : BodyOk cx 97 := ⟨Tryd.f97, Tryd.func97, by kernel_rfl, by kernel_rfl⟩
theorem bds : AllOf (BodyOk cx) nums := ⟨bd3, bd6, bd7, bd8, bd9, bd10, bd11, bd12, bd13, bd14, bd15, bd16, bd18, bd19, bd20, bd21, bd22, bd23, bd24, bd25, bd26, bd27, bd28, bd29, bd30, bd31, bd32, bd33, bd34, bd35, bd36, bd37, bd38, bd39, bd40, bd41, bd42, bd43, bd44, bd45, bd46, bd47, bd48, bd49, bd50, bd51, bd52, bd53, bd54, bd55, bd56, bd57, bd58, bd59, bd60, bd61, bd62, bd63, bd64, bd65, bd66, bd67, bd68, bd69, bd70, bd71, bd72, bd73, bd74, bd75, bd76, bd77, bd78, bd79, bd80, bd81, bd82, bd83, bd84, bd85, bd86, bd87, bd88, bd89, bd90, bd91, bd92, bd93, bd94, bd95, bd96, bd97, trivial⟩
theorem ext_ok : ExtOk cx := by
  refine ext_table (l := []) rfl fun p hp => ?_
  cases hp
theorem prog_ok : ProgOk cx := ⟨by kernel_rfl, ext_ok, fm_ok2 rfl bds⟩
theorem ok3 : EntOk cx tree0.get 3 := .inl ⟨Tryd.f3, Tryd.func3, by rw [tr3]; kernel_rfl⟩
theorem ok6 : EntOk cx tree0.get 6 := .inl ⟨Tryd.f6, Tryd.func6, by rw [tr6]; kernel_rfl⟩
theorem ok7 : EntOk cx tree0.get 7 := .inl ⟨Tryd.f7, Tryd.func7, by rw [tr7]; kernel_rfl⟩
theorem ok8 : EntOk cx tree0.get 8 := .inl ⟨Tryd.f8, Tryd.func8, by rw [tr8]; kernel_rfl⟩
theorem ok9 : EntOk cx tree0.get 9 := .inl ⟨Tryd.f9, Tryd.func9, by rw [tr9]; kernel_rfl⟩
theorem ok10 : EntOk cx tree0.get 10 := .inl ⟨Tryd.f10, Tryd.func10, by rw [tr10]; kernel_rfl⟩
theorem ok11 : EntOk cx tree0.get 11 := .inl ⟨Tryd.f11, Tryd.func11, by rw [tr11]; kernel_rfl⟩
theorem ok12 : EntOk cx tree0.get 12 := .inl ⟨Tryd.f12, Tryd.func12, by rw [tr12]; kernel_rfl⟩
theorem ok13 : EntOk cx tree0.get 13 := .inl ⟨Tryd.f13, Tryd.func13, by rw [tr13]; kernel_rfl⟩
theorem ok14 : EntOk cx tree0.get 14 := .inl ⟨Tryd.f14, Tryd.func14, by rw [tr14]; kernel_rfl⟩
theorem ok15 : EntOk cx tree0.get 15 := .inl ⟨Tryd.f15, Tryd.func15, by rw [tr15]; kernel_rfl⟩
theorem ok16 : EntOk cx tree0.get 16 := .inl ⟨Tryd.f16, Tryd.func16, by rw [tr16]; kernel_rfl⟩
theorem ok18 : EntOk cx tree0.get 18 := .inl ⟨Tryd.f18, Tryd.func18, by rw [tr18]; kernel_rfl⟩
theorem ok19 : EntOk cx tree0.get 19 := .inl ⟨Tryd.f19, Tryd.func19, by rw [tr19]; kernel_rfl⟩
theorem ok20 : EntOk cx tree0.get 20 := .inl ⟨Tryd.f20, Tryd.func20, by rw [tr20]; kernel_rfl⟩
theorem ok21 : EntOk cx tree0.get 21 := .inl ⟨Tryd.f21, Tryd.func21, by rw [tr21]; kernel_rfl⟩
theorem ok22 : EntOk cx tree0.get 22 := .inl ⟨Tryd.f22, Tryd.func22, by rw [tr22]; kernel_rfl⟩
theorem ok23 : EntOk cx tree0.get 23 := .inl ⟨Tryd.f23, Tryd.func23, by rw [tr23]; kernel_rfl⟩
theorem ok24 : EntOk cx tree0.get 24 := .inl ⟨Tryd.f24, Tryd.func24, by rw [tr24]; kernel_rfl⟩
theorem ok25 : EntOk cx tree0.get 25 := .inl ⟨Tryd.f25, Tryd.func25, by rw [tr25]; kernel_rfl⟩
theorem ok26 : EntOk cx tree0.get 26 := .inl ⟨Tryd.f26, Tryd.func26, by rw [tr26]; kernel_rfl⟩
theorem ok27 : EntOk cx tree0.get 27 := .inl ⟨Tryd.f27, Tryd.func27, by rw [tr27]; kernel_rfl⟩
theorem ok28 : EntOk cx tree0.get 28 := .inl ⟨Tryd.f28, Tryd.func28, by rw [tr28]; kernel_rfl⟩
theorem ok29 : EntOk cx tree0.get 29 := .inl ⟨Tryd.f29, Tryd.func29, by rw [tr29]; kernel_rfl⟩
theorem ok30 : EntOk cx tree0.get 30 := ent_make prog_ok rfl (by decide) Tryd.func30 tr30 (by kernel_rfl)
theorem ok31 : EntOk cx tree0.get 31 := .inl ⟨Tryd.f31, Tryd.func31, by rw [tr31]; kernel_rfl⟩
theorem ok32 : EntOk cx tree0.get 32 := .inl ⟨Tryd.f32, Tryd.func32, by rw [tr32]; kernel_rfl⟩
theorem ok33 : EntOk cx tree0.get 33 := .inl ⟨Tryd.f33, Tryd.func33, by rw [tr33]; kernel_rfl⟩
theorem ok34 : EntOk cx tree0.get 34 := .inl ⟨Tryd.f34, Tryd.func34, by rw [tr34]; kernel_rfl⟩
theorem ok35 : EntOk cx tree0.get 35 := .inl ⟨Tryd.f35, Tryd.func35, by rw [tr35]; kernel_rfl⟩
theorem ok36 : EntOk cx tree0.get 36 := .inl ⟨Tryd.f36, Tryd.func36, by rw [tr36]; kernel_rfl⟩
theorem ok37 : EntOk cx tree0.get 37 := .inl ⟨Tryd.f37, Tryd.func37, by rw [tr37]; kernel_rfl⟩
theorem ok38 : EntOk cx tree0.get 38 := .inl ⟨Tryd.f38, Tryd.func38, by rw [tr38]; kernel_rfl⟩
theorem ok39 : EntOk cx tree0.get 39 := .inl ⟨Tryd.f39, Tryd.func39, by rw [tr39]; kernel_rfl⟩
theorem ok40 : EntOk cx tree0.get 40 := .inl ⟨Tryd.f40, Tryd.func40, by rw [tr40]; kernel_rfl⟩
theorem ok41 : EntOk cx tree0.get 41 := .inl ⟨Tryd.f41, Tryd.func41, by rw [tr41]; kernel_rfl⟩
theorem ok42 : EntOk cx tree0.get 42 := .inl ⟨Tryd.f42, Tryd.func42, by rw [tr42]; kernel_rfl⟩
theorem ok43 : EntOk cx tree0.get 43 := .inl ⟨Tryd.f43, Tryd.func43, by rw [tr43]; kernel_rfl⟩
theorem ok44 : EntOk cx tree0.get 44 := .inl ⟨Tryd.f44, Tryd.func44, by rw [tr44]; kernel_rfl⟩
theorem ok45 : EntOk cx tree0.get 45 := .inl ⟨Tryd.f45, Tryd.func45, by rw [tr45]; kernel_rfl⟩
theorem ok46 : EntOk cx tree0.get 46 := .inl ⟨Tryd.f46, Tryd.func46, by rw [tr46]; kernel_rfl⟩
theorem ok47 : EntOk cx tree0.get 47 := .inl ⟨Tryd.f47, Tryd.func47, by rw [tr47]; kernel_rfl⟩
theorem ok48 : EntOk cx tree0.get 48 := .inl ⟨Tryd.f48, Tryd.func48, by rw [tr48]; kernel_rfl⟩
theorem ok49 : EntOk cx tree0.get 49 := .inl ⟨Tryd.f49, Tryd.func49, by rw [tr49]; kernel_rfl⟩
theorem ok50 : EntOk cx tree0.get 50 := .inl ⟨Tryd.f50, Tryd.func50, by rw [tr50]; kernel_rfl⟩
theorem ok51 : EntOk cx tree0.get 51 := .inl ⟨Tryd.f51, Tryd.func51, by rw [tr51]; kernel_rfl⟩
theorem ok52 : EntOk cx tree0.get 52 := .inl ⟨Tryd.f52, Tryd.func52, by rw [tr52]; kernel_rfl⟩
theorem ok53 : EntOk cx tree0.get 53 := .inl ⟨Tryd.f53, Tryd.func53, by rw [tr53]; kernel_rfl⟩
theorem ok54 : EntOk cx tree0.get 54 := .inl ⟨Tryd.f54, Tryd.func54, by rw [tr54]; kernel_rfl⟩
theorem ok55 : EntOk cx tree0.get 55 := .inl ⟨Tryd.f55, Tryd.func55, by rw [tr55]; kernel_rfl⟩
theorem ok56 : EntOk cx tree0.get 56 := .inl ⟨Tryd.f56, Tryd.func56, by rw [tr56]; kernel_rfl⟩
theorem ok57 : EntOk cx tree0.get 57 := .inl ⟨Tryd.f57, Tryd.func57, by rw [tr57]; kernel_rfl⟩
theorem ok58 : EntOk cx tree0.get 58 := .inl ⟨Tryd.f58, Tryd.func58, by rw [tr58]; kernel_rfl⟩
theorem ok59 : EntOk cx tree0.get 59 := .inl ⟨Tryd.f59, Tryd.func59, by rw [tr59]; kernel_rfl⟩
theorem ok60 : EntOk cx tree0.get 60 := .inl ⟨Tryd.f60, Tryd.func60, by rw [tr60]; kernel_rfl⟩
theorem ok61 : EntOk cx tree0.get 61 := .inl ⟨Tryd.f61, Tryd.func61, by rw [tr61]; kernel_rfl⟩
theorem ok62 : EntOk cx tree0.get 62 := .inl ⟨Tryd.f62, Tryd.func62, by rw [tr62]; kernel_rfl⟩
theorem ok63 : EntOk cx tree0.get 63 := .inl ⟨Tryd.f63, Tryd.func63, by rw [tr63]; kernel_rfl⟩
theorem ok64 : EntOk cx tree0.get 64 := .inl ⟨Tryd.f64, Tryd.func64, by rw [tr64]; kernel_rfl⟩
theorem ok65 : EntOk cx tree0.get 65 := .inl ⟨Tryd.f65, Tryd.func65, by rw [tr65]; kernel_rfl⟩
theorem ok66 : EntOk cx tree0.get 66 := .inl ⟨Tryd.f66, Tryd.func66, by rw [tr66]; kernel_rfl⟩
theorem ok67 : EntOk cx tree0.get 67 := .inl ⟨Tryd.f67, Tryd.func67, by rw [tr67]; kernel_rfl⟩
theorem ok68 : EntOk cx tree0.get 68 := .inl ⟨Tryd.f68, Tryd.func68, by rw [tr68]; kernel_rfl⟩
theorem ok69 : EntOk cx tree0.get 69 := .inl ⟨Tryd.f69, Tryd.func69, by rw [tr69]; kernel_rfl⟩
theorem ok70 : EntOk cx tree0.get 70 := .inl ⟨Tryd.f70, Tryd.func70, by rw [tr70]; kernel_rfl⟩
theorem ok71 : EntOk cx tree0.get 71 := .inl ⟨Tryd.f71, Tryd.func71, by rw [tr71]; kernel_rfl⟩
theorem ok72 : EntOk cx tree0.get 72 := .inl ⟨Tryd.f72, Tryd.func72, by rw [tr72]; kernel_rfl⟩
theorem ok73 : EntOk cx tree0.get 73 := .inl ⟨Tryd.f73, Tryd.func73, by rw [tr73]; kernel_rfl⟩
theorem ok74 : EntOk cx tree0.get 74 := .inl ⟨Tryd.f74, Tryd.func74, by rw [tr74]; kernel_rfl⟩
theorem ok75 : EntOk cx tree0.get 75 := .inl ⟨Tryd.f75, Tryd.func75, by rw [tr75]; kernel_rfl⟩
theorem ok76 : EntOk cx tree0.get 76 := .inl ⟨Tryd.f76, Tryd.func76, by rw [tr76]; kernel_rfl⟩
theorem ok77 : EntOk cx tree0.get 77 := .inl ⟨Tryd.f77, Tryd.func77, by rw [tr77]; kernel_rfl⟩
theorem ok78 : EntOk cx tree0.get 78 := .inl ⟨Tryd.f78, Tryd.func78, by rw [tr78]; kernel_rfl⟩
theorem ok79 : EntOk cx tree0.get 79 := .inl ⟨Tryd.f79, Tryd.func79, by rw [tr79]; kernel_rfl⟩
theorem ok80 : EntOk cx tree0.get 80 := .inl ⟨Tryd.f80, Tryd.func80, by rw [tr80]; kernel_rfl⟩
theorem ok81 : EntOk cx tree0.get 81 := .inl ⟨Tryd.f81, Tryd.func81, by rw [tr81]; kernel_rfl⟩
theorem ok82 : EntOk cx tree0.get 82 := .inl ⟨Tryd.f82, Tryd.func82, by rw [tr82]; kernel_rfl⟩
theorem ok83 : EntOk cx tree0.get 83 := .inl ⟨Tryd.f83, Tryd.func83, by rw [tr83]; kernel_rfl⟩
theorem ok84 : EntOk cx tree0.get 84 := .inl ⟨Tryd.f84, Tryd.func84, by rw [tr84]; kernel_rfl⟩
theorem ok85 : EntOk cx tree0.get 85 := .inl ⟨Tryd.f85, Tryd.func85, by rw [tr85]; kernel_rfl⟩
theorem ok86 : EntOk cx tree0.get 86 := .inl ⟨Tryd.f86, Tryd.func86, by rw [tr86]; kernel_rfl⟩
theorem ok87 : EntOk cx tree0.get 87 := .inl ⟨Tryd.f87, Tryd.func87, by rw [tr87]; kernel_rfl⟩
theorem ok88 : EntOk cx tree0.get 88 := .inl ⟨Tryd.f88, Tryd.func88, by rw [tr88]; kernel_rfl⟩
theorem ok89 : EntOk cx tree0.get 89 := .inl ⟨Tryd.f89, Tryd.func89, by rw [tr89]; kernel_rfl⟩
theorem ok90 : EntOk cx tree0.get 90 := .inl ⟨Tryd.f90, Tryd.func90, by rw [tr90]; kernel_rfl⟩
theorem ok91 : EntOk cx tree0.get 91 := .inl ⟨Tryd.f91, Tryd.func91, by rw [tr91]; kernel_rfl⟩
theorem ok92 : EntOk cx tree0.get 92 := .inl ⟨Tryd.f92, Tryd.func92, by rw [tr92]; kernel_rfl⟩
theorem ok93 : EntOk cx tree0.get 93 := .inl ⟨Tryd.f93, Tryd.func93, by rw [tr93]; kernel_rfl⟩
theorem ok94 : EntOk cx tree0.get 94 := .inl ⟨Tryd.f94, Tryd.func94, by rw [tr94]; kernel_rfl⟩
theorem ok95 : EntOk cx tree0.get 95 := .inl ⟨Tryd.f95, Tryd.func95, by rw [tr95]; kernel_rfl⟩
theorem ok96 : EntOk cx tree0.get 96 := .inl ⟨Tryd.f96, Tryd.func96, by rw [tr96]; kernel_rfl⟩
theorem ok97 : EntOk cx tree0.get 97 := .inl ⟨Tryd.f97, Tryd.func97, by rw [tr97]; kernel_rfl⟩
theorem oks : AllOf (EntOk cx tree0.get) nums := ⟨ok3, ok6, ok7, ok8, ok9, ok10, ok11, ok12, ok13, ok14, ok15, ok16, ok18, ok19, ok20, ok21, ok22, ok23, ok24, ok25, ok26, ok27, ok28, ok29, ok30, ok31, ok32, ok33, ok34, ok35, ok36, ok37, ok38, ok39, ok40, ok41, ok42, ok43, ok44, ok45, ok46, ok47, ok48, ok49, ok50, ok51, ok52, ok53, ok54, ok55, ok56, ok57, ok58, ok59, ok60, ok61, ok62, ok63, ok64, ok65, ok66, ok67, ok68, ok69, ok70, ok71, ok72, ok73, ok74, ok75, ok76, ok77, ok78, ok79, ok80, ok81, ok82, ok83, ok84, ok85, ok86, ok87, ok88, ok89, ok90, ok91, ok92, ok93, ok94, ok95, ok96, ok97, trivial⟩
theorem lib_ok0 : LibOk cx tree0.get := lib_ok2 rfl oks
theorem run_depotlaw21_TaskRuns : isTrue (call tree0.get 900 3 [] noHeap) = true := Fs.isTrue_of (mk := 30) (by kernel_rfl) (by decide +kernel)
theorem walk_depotlaw21_TaskRuns (w : World) : Calls cx.P 3 #[] w fun e w' => e = .returned (.bool true) ∧ Go.RowKit.Below w.heap.size w w' :=
  run_closed prog_ok lib_ok0 (fun _ => rfl) (g := 3) (f := 3) rfl run_depotlaw21_TaskRuns w
end R
def lib : Lib := fun f => bif Nat.beq f 3 then some (.prim runsPrim) else tree0.get f
theorem lk3 : EntOk cx lib 3 := ent_runs (fun w => R.walk_depotlaw21_TaskRuns w) rfl
theorem lk5 : EntOk cx lib 5 := .inl ⟨Tryd.f5, Tryd.func5, by rw [tr_depotlaw21_TaskFails]; kernel_rfl⟩
theorem at_depotlaw21_TaskFails : lib n_depotlaw21_TaskFails = some (.code pf_depotlaw21_TaskFails) := by kernel_rfl
theorem lk6 : EntOk cx lib 6 := .inl ⟨Tryd.f6, Tryd.func6, by rw [tr_task_New]; kernel_rfl⟩
theorem at_task_New : lib n_task_New = some (.code pf_task_New) := by kernel_rfl
theorem lk7 : EntOk cx lib 7 := .inl ⟨Tryd.f7, Tryd.func7, by rw [tr_depotlaw21_one]; kernel_rfl⟩
theorem at_depotlaw21_one : lib n_depotlaw21_one = some (.code pf_depotlaw21_one) := by kernel_rfl
theorem lk8 : EntOk cx lib 8 := .inl ⟨Tryd.f8, Tryd.func8, by rw [tr_task_Task_Start]; kernel_rfl⟩
theorem at_task_Task_Start : lib n_task_Task_Start = some (.code pf_task_Task_Start) := by kernel_rfl
theorem lk9 : EntOk cx lib 9 := .inl ⟨Tryd.f9, Tryd.func9, by rw [tr_task_Task_Take]; kernel_rfl⟩
theorem at_task_Task_Take : lib n_task_Task_Take = some (.code pf_task_Task_Take) := by kernel_rfl
theorem lk10 : EntOk cx lib 10 := .inl ⟨Tryd.f10, Tryd.func10, by rw [tr_task_Task_Got]; kernel_rfl⟩
theorem at_task_Task_Got : lib n_task_Task_Got = some (.code pf_task_Task_Got) := by kernel_rfl
theorem lk11 : EntOk cx lib 11 := .inl ⟨Tryd.f11, Tryd.func11, by rw [tr_task_Task_Phase]; kernel_rfl⟩
theorem at_task_Task_Phase : lib n_task_Task_Phase = some (.code pf_task_Task_Phase) := by kernel_rfl
theorem lk12 : EntOk cx lib 12 := .inl ⟨Tryd.f12, Tryd.func12, by rw [tr_depotlaw21_done]; kernel_rfl⟩
theorem at_depotlaw21_done : lib n_depotlaw21_done = some (.code pf_depotlaw21_done) := by kernel_rfl
theorem lk13 : EntOk cx lib 13 := .inl ⟨Tryd.f13, Tryd.func13, by rw [tr_task_Task_Answer]; kernel_rfl⟩
theorem at_task_Task_Answer : lib n_task_Task_Answer = some (.code pf_task_Task_Answer) := by kernel_rfl
theorem lk14 : EntOk cx lib 14 := .inl ⟨Tryd.f14, Tryd.func14, by rw [tr_depotbook_Same_int]; kernel_rfl⟩
theorem at_depotbook_Same_int : lib n_depotbook_Same_int = some (.code pf_depotbook_Same_int) := by kernel_rfl
theorem lk15 : EntOk cx lib 15 := .inl ⟨Tryd.f15, Tryd.func15, by rw [tr_words_Key]; kernel_rfl⟩
theorem at_words_Key : lib n_words_Key = some (.code pf_words_Key) := by kernel_rfl
theorem lk16 : EntOk cx lib 16 := .inl ⟨Tryd.f16, Tryd.func16, by rw [tr_place_Metas]; kernel_rfl⟩
theorem at_place_Metas : lib n_place_Metas = some (.code pf_place_Metas) := by kernel_rfl
theorem lk17 : EntOk cx lib 17 := .inl ⟨Tryd.f17, Tryd.func17, by rw [tr_depotbook_Within]; kernel_rfl⟩
theorem at_depotbook_Within : lib n_depotbook_Within = some (.code pf_depotbook_Within) := by kernel_rfl
theorem lk18 : EntOk cx lib 18 := .inl ⟨Tryd.f18, Tryd.func18, by rw [tr_task_RightConfig]; kernel_rfl⟩
theorem at_task_RightConfig : lib n_task_RightConfig = some (.code pf_task_RightConfig) := by kernel_rfl
theorem lk19 : EntOk cx lib 19 := .inl ⟨Tryd.f19, Tryd.func19, by rw [tr_task_within]; kernel_rfl⟩
theorem at_task_within : lib n_task_within = some (.code pf_task_within) := by kernel_rfl
theorem lk20 : EntOk cx lib 20 := .inl ⟨Tryd.f20, Tryd.func20, by rw [tr_rs_New]; kernel_rfl⟩
theorem at_rs_New : lib n_rs_New = some (.code pf_rs_New) := by kernel_rfl
theorem lk21 : EntOk cx lib 21 := .inl ⟨Tryd.f21, Tryd.func21, by rw [tr_place_Stripe]; kernel_rfl⟩
theorem at_place_Stripe : lib n_place_Stripe = some (.code pf_place_Stripe) := by kernel_rfl
theorem lk22 : EntOk cx lib 22 := .inl ⟨Tryd.f22, Tryd.func22, by rw [tr_task_Task_enter]; kernel_rfl⟩
theorem at_task_Task_enter : lib n_task_Task_enter = some (.code pf_task_Task_enter) := by kernel_rfl
theorem lk23 : EntOk cx lib 23 := .inl ⟨Tryd.f23, Tryd.func23, by rw [tr_task_Task_ask]; kernel_rfl⟩
theorem at_task_Task_ask : lib n_task_Task_ask = some (.code pf_task_Task_ask) := by kernel_rfl
theorem lk24 : EntOk cx lib 24 := .inl ⟨Tryd.f24, Tryd.func24, by rw [tr_task_Task_on]; kernel_rfl⟩
theorem at_task_Task_on : lib n_task_Task_on = some (.code pf_task_Task_on) := by kernel_rfl
theorem lk25 : EntOk cx lib 25 := .inl ⟨Tryd.f25, Tryd.func25, by rw [tr_task_GetRecord]; kernel_rfl⟩
theorem at_task_GetRecord : lib n_task_GetRecord = some (.code pf_task_GetRecord) := by kernel_rfl
theorem lk26 : EntOk cx lib 26 := .inl ⟨Tryd.f26, Tryd.func26, by rw [tr_place_Position]; kernel_rfl⟩
theorem at_place_Position : lib n_place_Position = some (.code pf_place_Position) := by kernel_rfl
theorem lk27 : EntOk cx lib 27 := .inl ⟨Tryd.f27, Tryd.func27, by rw [tr_gather_Gather_Got]; kernel_rfl⟩
theorem at_gather_Gather_Got : lib n_gather_Gather_Got = some (.code pf_gather_Gather_Got) := by kernel_rfl
theorem lk28 : EntOk cx lib 28 := .inl ⟨Tryd.f28, Tryd.func28, by rw [tr_rs_Code_Size]; kernel_rfl⟩
theorem at_rs_Code_Size : lib n_rs_Code_Size = some (.code pf_rs_Code_Size) := by kernel_rfl
theorem lk29 : EntOk cx lib 29 := .inl ⟨Tryd.f29, Tryd.func29, by rw [tr_task_Task_more]; kernel_rfl⟩
theorem at_task_Task_more : lib n_task_Task_more = some (.code pf_task_Task_more) := by kernel_rfl
theorem lk30 : EntOk cx lib 30 := ent_make prog_ok rfl (by decide) Tryd.func30 tr_gf_Make (by kernel_rfl)
theorem lk31 : EntOk cx lib 31 := .inl ⟨Tryd.f31, Tryd.func31, by rw [tr_matrix_Cauchy]; kernel_rfl⟩
theorem at_matrix_Cauchy : lib n_matrix_Cauchy = some (.code pf_matrix_Cauchy) := by kernel_rfl
theorem lk32 : EntOk cx lib 32 := .inl ⟨Tryd.f32, Tryd.func32, by rw [tr_chain_Hash]; kernel_rfl⟩
theorem at_chain_Hash : lib n_chain_Hash = some (.code pf_chain_Hash) := by kernel_rfl
theorem lk33 : EntOk cx lib 33 := .inl ⟨Tryd.f33, Tryd.func33, by rw [tr_task_Task_gathered]; kernel_rfl⟩
theorem at_task_Task_gathered : lib n_task_Task_gathered = some (.code pf_task_Task_gathered) := by kernel_rfl
theorem lk34 : EntOk cx lib 34 := .inl ⟨Tryd.f34, Tryd.func34, by rw [tr_task_Task_found]; kernel_rfl⟩
theorem at_task_Task_found : lib n_task_Task_found = some (.code pf_task_Task_found) := by kernel_rfl
theorem lk35 : EntOk cx lib 35 := .inl ⟨Tryd.f35, Tryd.func35, by rw [tr_task_Task_scattered]; kernel_rfl⟩
theorem at_task_Task_scattered : lib n_task_Task_scattered = some (.code pf_task_Task_scattered) := by kernel_rfl
theorem lk36 : EntOk cx lib 36 := .inl ⟨Tryd.f36, Tryd.func36, by rw [tr_task_Task_written]; kernel_rfl⟩
theorem at_task_Task_written : lib n_task_Task_written = some (.code pf_task_Task_written) := by kernel_rfl
theorem lk37 : EntOk cx lib 37 := .inl ⟨Tryd.f37, Tryd.func37, by rw [tr_task_Task_clean]; kernel_rfl⟩
theorem at_task_Task_clean : lib n_task_Task_clean = some (.code pf_task_Task_clean) := by kernel_rfl
theorem lk38 : EntOk cx lib 38 := .inl ⟨Tryd.f38, Tryd.func38, by rw [tr_task_Task_decide]; kernel_rfl⟩
theorem at_task_Task_decide : lib n_task_Task_decide = some (.code pf_task_Task_decide) := by kernel_rfl
theorem lk39 : EntOk cx lib 39 := .inl ⟨Tryd.f39, Tryd.func39, by rw [tr_task_Task_tell]; kernel_rfl⟩
theorem at_task_Task_tell : lib n_task_Task_tell = some (.code pf_task_Task_tell) := by kernel_rfl
theorem lk40 : EntOk cx lib 40 := .inl ⟨Tryd.f40, Tryd.func40, by rw [tr_pack_Read]; kernel_rfl⟩
theorem at_pack_Read : lib n_pack_Read = some (.code pf_pack_Read) := by kernel_rfl
theorem lk41 : EntOk cx lib 41 := .inl ⟨Tryd.f41, Tryd.func41, by rw [tr_pack_Reader_Num]; kernel_rfl⟩
theorem at_pack_Reader_Num : lib n_pack_Reader_Num = some (.code pf_pack_Reader_Num) := by kernel_rfl
theorem lk42 : EntOk cx lib 42 := .inl ⟨Tryd.f42, Tryd.func42, by rw [tr_pack_Reader_End]; kernel_rfl⟩
theorem at_pack_Reader_End : lib n_pack_Reader_End = some (.code pf_pack_Reader_End) := by kernel_rfl
theorem lk43 : EntOk cx lib 43 := .inl ⟨Tryd.f43, Tryd.func43, by rw [tr_slices_Contains_int_int]; kernel_rfl⟩
theorem at_slices_Contains_int_int : lib n_slices_Contains_int_int = some (.code pf_slices_Contains_int_int) := by kernel_rfl
theorem lk44 : EntOk cx lib 44 := .inl ⟨Tryd.f44, Tryd.func44, by rw [tr_gather_Gather_Next]; kernel_rfl⟩
theorem at_gather_Gather_Next : lib n_gather_Gather_Next = some (.code pf_gather_Gather_Next) := by kernel_rfl
theorem lk45 : EntOk cx lib 45 := .inl ⟨Tryd.f45, Tryd.func45, by rw [tr_matrix_Identity]; kernel_rfl⟩
theorem at_matrix_Identity : lib n_matrix_Identity = some (.code pf_matrix_Identity) := by kernel_rfl
theorem lk46 : EntOk cx lib 46 := .inl ⟨Tryd.f46, Tryd.func46, by rw [tr_gf_Inv]; kernel_rfl⟩
theorem at_gf_Inv : lib n_gf_Inv = some (.code pf_gf_Inv) := by kernel_rfl
theorem lk47 : EntOk cx lib 47 := .inl ⟨Tryd.f47, Tryd.func47, by rw [tr_gather_Gather_State]; kernel_rfl⟩
theorem at_gather_Gather_State : lib n_gather_Gather_State = some (.code pf_gather_Gather_State) := by kernel_rfl
theorem lk48 : EntOk cx lib 48 := .inl ⟨Tryd.f48, Tryd.func48, by rw [tr_rs_Code_Decode]; kernel_rfl⟩
theorem at_rs_Code_Decode : lib n_rs_Code_Decode = some (.code pf_rs_Code_Decode) := by kernel_rfl
theorem lk49 : EntOk cx lib 49 := .inl ⟨Tryd.f49, Tryd.func49, by rw [tr_gather_Gather_Parts]; kernel_rfl⟩
theorem at_gather_Gather_Parts : lib n_gather_Gather_Parts = some (.code pf_gather_Gather_Parts) := by kernel_rfl
theorem lk50 : EntOk cx lib 50 := .inl ⟨Tryd.f50, Tryd.func50, by rw [tr_task_Task_forget]; kernel_rfl⟩
theorem at_task_Task_forget : lib n_task_Task_forget = some (.code pf_task_Task_forget) := by kernel_rfl
theorem lk51 : EntOk cx lib 51 := .inl ⟨Tryd.f51, Tryd.func51, by rw [tr_task_Task_refill]; kernel_rfl⟩
theorem at_task_Task_refill : lib n_task_Task_refill = some (.code pf_task_Task_refill) := by kernel_rfl
theorem lk52 : EntOk cx lib 52 := .inl ⟨Tryd.f52, Tryd.func52, by rw [tr_rs_Code_Encode]; kernel_rfl⟩
theorem at_rs_Code_Encode : lib n_rs_Code_Encode = some (.code pf_rs_Code_Encode) := by kernel_rfl
theorem lk53 : EntOk cx lib 53 := .inl ⟨Tryd.f53, Tryd.func53, by rw [tr_when_Live]; kernel_rfl⟩
theorem at_when_Live : lib n_when_Live = some (.code pf_when_Live) := by kernel_rfl
theorem lk54 : EntOk cx lib 54 := .inl ⟨Tryd.f54, Tryd.func54, by rw [tr_task_Task_unseen]; kernel_rfl⟩
theorem at_task_Task_unseen : lib n_task_Task_unseen = some (.code pf_task_Task_unseen) := by kernel_rfl
theorem lk55 : EntOk cx lib 55 := .inl ⟨Tryd.f55, Tryd.func55, by rw [tr_task_reads]; kernel_rfl⟩
theorem at_task_reads : lib n_task_reads = some (.code pf_task_reads) := by kernel_rfl
theorem lk56 : EntOk cx lib 56 := .inl ⟨Tryd.f56, Tryd.func56, by rw [tr_task_Task_gather]; kernel_rfl⟩
theorem at_task_Task_gather : lib n_task_Task_gather = some (.code pf_task_Task_gather) := by kernel_rfl
theorem lk57 : EntOk cx lib 57 := .inl ⟨Tryd.f57, Tryd.func57, by rw [tr_task_Task_write]; kernel_rfl⟩
theorem at_task_Task_write : lib n_task_Task_write = some (.code pf_task_Task_write) := by kernel_rfl
theorem lk58 : EntOk cx lib 58 := .inl ⟨Tryd.f58, Tryd.func58, by rw [tr_task_Task_all]; kernel_rfl⟩
theorem at_task_Task_all : lib n_task_Task_all = some (.code pf_task_Task_all) := by kernel_rfl
theorem lk59 : EntOk cx lib 59 := .inl ⟨Tryd.f59, Tryd.func59, by rw [tr_model_Next]; kernel_rfl⟩
theorem at_model_Next : lib n_model_Next = some (.code pf_model_Next) := by kernel_rfl
theorem lk60 : EntOk cx lib 60 := .inl ⟨Tryd.f60, Tryd.func60, by rw [tr_task_Task_scatter]; kernel_rfl⟩
theorem at_task_Task_scatter : lib n_task_Task_scatter = some (.code pf_task_Task_scatter) := by kernel_rfl
theorem lk61 : EntOk cx lib 61 := .inl ⟨Tryd.f61, Tryd.func61, by rw [tr_pack_grown]; kernel_rfl⟩
theorem at_pack_grown : lib n_pack_grown = some (.code pf_pack_grown) := by kernel_rfl
theorem lk62 : EntOk cx lib 62 := .inl ⟨Tryd.f62, Tryd.func62, by rw [tr_pack_Reader_fail]; kernel_rfl⟩
theorem at_pack_Reader_fail : lib n_pack_Reader_fail = some (.code pf_pack_Reader_fail) := by kernel_rfl
theorem lk63 : EntOk cx lib 63 := .inl ⟨Tryd.f63, Tryd.func63, by rw [tr_slices_Index_int_int]; kernel_rfl⟩
theorem at_slices_Index_int_int : lib n_slices_Index_int_int = some (.code pf_slices_Index_int_int) := by kernel_rfl
theorem lk64 : EntOk cx lib 64 := .inl ⟨Tryd.f64, Tryd.func64, by rw [tr_rs_Code_chosen]; kernel_rfl⟩
theorem at_rs_Code_chosen : lib n_rs_Code_chosen = some (.code pf_rs_Code_chosen) := by kernel_rfl
theorem lk65 : EntOk cx lib 65 := .inl ⟨Tryd.f65, Tryd.func65, by rw [tr_matrix_Invert]; kernel_rfl⟩
theorem at_matrix_Invert : lib n_matrix_Invert = some (.code pf_matrix_Invert) := by kernel_rfl
theorem lk66 : EntOk cx lib 66 := .inl ⟨Tryd.f66, Tryd.func66, by rw [tr_rs_Code_mix]; kernel_rfl⟩
theorem at_rs_Code_mix : lib n_rs_Code_mix = some (.code pf_rs_Code_mix) := by kernel_rfl
theorem lk67 : EntOk cx lib 67 := .inl ⟨Tryd.f67, Tryd.func67, by rw [tr_slices_Clone_api_Part_api_Part]; kernel_rfl⟩
theorem at_slices_Clone_api_Part_api_Part : lib n_slices_Clone_api_Part_api_Part = some (.code pf_slices_Clone_api_Part_api_Part) := by kernel_rfl
theorem lk68 : EntOk cx lib 68 := .inl ⟨Tryd.f68, Tryd.func68, by rw [tr_task_PutRecord]; kernel_rfl⟩
theorem at_task_PutRecord : lib n_task_PutRecord = some (.code pf_task_PutRecord) := by kernel_rfl
theorem lk69 : EntOk cx lib 69 := .inl ⟨Tryd.f69, Tryd.func69, by rw [tr_gather_New]; kernel_rfl⟩
theorem at_gather_New : lib n_gather_New = some (.code pf_gather_New) := by kernel_rfl
theorem lk70 : EntOk cx lib 70 := .inl ⟨Tryd.f70, Tryd.func70, by rw [tr_when_Deadline]; kernel_rfl⟩
theorem at_when_Deadline : lib n_when_Deadline = some (.code pf_when_Deadline) := by kernel_rfl
theorem lk71 : EntOk cx lib 71 := .inl ⟨Tryd.f71, Tryd.func71, by rw [tr_model_Next_1]; kernel_rfl⟩
theorem at_model_Next_1 : lib n_model_Next_1 = some (.code pf_model_Next_1) := by kernel_rfl
theorem lk72 : EntOk cx lib 72 := .inl ⟨Tryd.f72, Tryd.func72, by rw [tr_model_join]; kernel_rfl⟩
theorem at_model_join : lib n_model_join = some (.code pf_model_join) := by kernel_rfl
theorem lk73 : EntOk cx lib 73 := .inl ⟨Tryd.f73, Tryd.func73, by rw [tr_model_count]; kernel_rfl⟩
theorem at_model_count : lib n_model_count = some (.code pf_model_count) := by kernel_rfl
theorem lk74 : EntOk cx lib 74 := .inl ⟨Tryd.f74, Tryd.func74, by rw [tr_matrix_Right]; kernel_rfl⟩
theorem at_matrix_Right : lib n_matrix_Right = some (.code pf_matrix_Right) := by kernel_rfl
theorem lk75 : EntOk cx lib 75 := .inl ⟨Tryd.f75, Tryd.func75, by rw [tr_matrix_copied]; kernel_rfl⟩
theorem at_matrix_copied : lib n_matrix_copied = some (.code pf_matrix_copied) := by kernel_rfl
theorem lk76 : EntOk cx lib 76 := .inl ⟨Tryd.f76, Tryd.func76, by rw [tr_matrix_reduce]; kernel_rfl⟩
theorem at_matrix_reduce : lib n_matrix_reduce = some (.code pf_matrix_reduce) := by kernel_rfl
theorem lk77 : EntOk cx lib 77 := .inl ⟨Tryd.f77, Tryd.func77, by rw [tr_slices_Clone_byte_byte]; kernel_rfl⟩
theorem at_slices_Clone_byte_byte : lib n_slices_Clone_byte_byte = some (.code pf_slices_Clone_byte_byte) := by kernel_rfl
theorem lk78 : EntOk cx lib 78 := .inl ⟨Tryd.f78, Tryd.func78, by rw [tr_gf_Mul]; kernel_rfl⟩
theorem at_gf_Mul : lib n_gf_Mul = some (.code pf_gf_Mul) := by kernel_rfl
theorem lk79 : EntOk cx lib 79 := .inl ⟨Tryd.f79, Tryd.func79, by rw [tr_pack_Num]; kernel_rfl⟩
theorem at_pack_Num : lib n_pack_Num = some (.code pf_pack_Num) := by kernel_rfl
theorem lk80 : EntOk cx lib 80 := .inl ⟨Tryd.f80, Tryd.func80, by rw [tr_slices_Clone_int_int]; kernel_rfl⟩
theorem at_slices_Clone_int_int : lib n_slices_Clone_int_int = some (.code pf_slices_Clone_int_int) := by kernel_rfl
theorem lk81 : EntOk cx lib 81 := .inl ⟨Tryd.f81, Tryd.func81, by rw [tr_when_time]; kernel_rfl⟩
theorem at_when_time : lib n_when_time = some (.code pf_when_time) := by kernel_rfl
theorem lk82 : EntOk cx lib 82 := .inl ⟨Tryd.f82, Tryd.func82, by rw [tr_words_Number]; kernel_rfl⟩
theorem at_words_Number : lib n_words_Number = some (.code pf_words_Number) := by kernel_rfl
theorem lk83 : EntOk cx lib 83 := .inl ⟨Tryd.f83, Tryd.func83, by rw [tr_strconv_FormatUint]; kernel_rfl⟩
theorem at_strconv_FormatUint : lib n_strconv_FormatUint = some (.code pf_strconv_FormatUint) := by kernel_rfl
theorem lk84 : EntOk cx lib 84 := .inl ⟨Tryd.f84, Tryd.func84, by rw [tr_matrix_add]; kernel_rfl⟩
theorem at_matrix_add : lib n_matrix_add = some (.code pf_matrix_add) := by kernel_rfl
theorem lk85 : EntOk cx lib 85 := .inl ⟨Tryd.f85, Tryd.func85, by rw [tr_pack_num]; kernel_rfl⟩
theorem at_pack_num : lib n_pack_num = some (.code pf_pack_num) := by kernel_rfl
theorem lk86 : EntOk cx lib 86 := .inl ⟨Tryd.f86, Tryd.func86, by rw [tr_internal_strconv_FormatUint]; kernel_rfl⟩
theorem at_internal_strconv_FormatUint : lib n_internal_strconv_FormatUint = some (.code pf_internal_strconv_FormatUint) := by kernel_rfl
theorem lk87 : EntOk cx lib 87 := .inl ⟨Tryd.f87, Tryd.func87, by rw [tr_internal_strconv_small]; kernel_rfl⟩
theorem at_internal_strconv_small : lib n_internal_strconv_small = some (.code pf_internal_strconv_small) := by kernel_rfl
theorem lk88 : EntOk cx lib 88 := .inl ⟨Tryd.f88, Tryd.func88, by rw [tr_internal_strconv_numDigits]; kernel_rfl⟩
theorem at_internal_strconv_numDigits : lib n_internal_strconv_numDigits = some (.code pf_internal_strconv_numDigits) := by kernel_rfl
theorem lk89 : EntOk cx lib 89 := .inl ⟨Tryd.f89, Tryd.func89, by rw [tr_internal_strconv_formatBase10]; kernel_rfl⟩
theorem at_internal_strconv_formatBase10 : lib n_internal_strconv_formatBase10 = some (.code pf_internal_strconv_formatBase10) := by kernel_rfl
theorem lk90 : EntOk cx lib 90 := .inl ⟨Tryd.f90, Tryd.func90, by rw [tr_internal_strconv_formatBits]; kernel_rfl⟩
theorem at_internal_strconv_formatBits : lib n_internal_strconv_formatBits = some (.code pf_internal_strconv_formatBits) := by kernel_rfl
theorem lk91 : EntOk cx lib 91 := .inl ⟨Tryd.f91, Tryd.func91, by rw [tr_internal_strconv_log10Pow2]; kernel_rfl⟩
theorem at_internal_strconv_log10Pow2 : lib n_internal_strconv_log10Pow2 = some (.code pf_internal_strconv_log10Pow2) := by kernel_rfl
theorem lk92 : EntOk cx lib 92 := .inl ⟨Tryd.f92, Tryd.func92, by rw [tr_math_bits_Len64]; kernel_rfl⟩
theorem at_math_bits_Len64 : lib n_math_bits_Len64 = some (.code pf_math_bits_Len64) := by kernel_rfl
theorem lk93 : EntOk cx lib 93 := .inl ⟨Tryd.f93, Tryd.func93, by rw [tr_internal_strconv_bool2_int]; kernel_rfl⟩
theorem at_internal_strconv_bool2_int : lib n_internal_strconv_bool2_int = some (.code pf_internal_strconv_bool2_int) := by kernel_rfl
theorem lk94 : EntOk cx lib 94 := .inl ⟨Tryd.f94, Tryd.func94, by rw [tr_internal_strconv_isPowerOfTwo]; kernel_rfl⟩
theorem at_internal_strconv_isPowerOfTwo : lib n_internal_strconv_isPowerOfTwo = some (.code pf_internal_strconv_isPowerOfTwo) := by kernel_rfl
theorem lk95 : EntOk cx lib 95 := .inl ⟨Tryd.f95, Tryd.func95, by rw [tr_math_bits_TrailingZeros]; kernel_rfl⟩
theorem at_math_bits_TrailingZeros : lib n_math_bits_TrailingZeros = some (.code pf_math_bits_TrailingZeros) := by kernel_rfl
theorem lk96 : EntOk cx lib 96 := .inl ⟨Tryd.f96, Tryd.func96, by rw [tr_math_bits_TrailingZeros32]; kernel_rfl⟩
theorem at_math_bits_TrailingZeros32 : lib n_math_bits_TrailingZeros32 = some (.code pf_math_bits_TrailingZeros32) := by kernel_rfl
theorem lk97 : EntOk cx lib 97 := .inl ⟨Tryd.f97, Tryd.func97, by rw [tr_math_bits_TrailingZeros64]; kernel_rfl⟩
theorem at_math_bits_TrailingZeros64 : lib n_math_bits_TrailingZeros64 = some (.code pf_math_bits_TrailingZeros64) := by kernel_rfl
theorem lks : AllOf (EntOk cx lib) nums := ⟨lk3, lk5, lk6, lk7, lk8, lk9, lk10, lk11, lk12, lk13, lk14, lk15, lk16, lk17, lk18, lk19, lk20, lk21, lk22, lk23, lk24, lk25, lk26, lk27, lk28, lk29, lk30, lk31, lk32, lk33, lk34, lk35, lk36, lk37, lk38, lk39, lk40, lk41, lk42, lk43, lk44, lk45, lk46, lk47, lk48, lk49, lk50, lk51, lk52, lk53, lk54, lk55, lk56, lk57, lk58, lk59, lk60, lk61, lk62, lk63, lk64, lk65, lk66, lk67, lk68, lk69, lk70, lk71, lk72, lk73, lk74, lk75, lk76, lk77, lk78, lk79, lk80, lk81, lk82, lk83, lk84, lk85, lk86, lk87, lk88, lk89, lk90, lk91, lk92, lk93, lk94, lk95, lk96, lk97, trivial⟩
theorem lib_ok : LibOk cx lib := lib_ok2 rfl lks
-- roots [3, 5]
end Go.Proofs.YtjlfnolaifkakaaDoor
