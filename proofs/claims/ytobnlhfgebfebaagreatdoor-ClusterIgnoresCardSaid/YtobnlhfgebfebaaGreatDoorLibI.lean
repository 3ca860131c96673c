/- The functions that this seat's laws reach, for the clean machine; each is what the translation makes of the given text. Conditions: none. Printed by program. -/
import Derived.Test.YtobnlhfgebfebaaGreatDoorLibIA
import Derived.Test.YtobnlhfgebfebaaGreatDoorLibIB
import Derived.Test.YtobnlhfgebfebaaGreatDoorLibIC
namespace Go.Proofs.YtobnlhfgebfebaaGreatDoor
open Go.Dp
def tree0 : Tr LF := (.node (.node (.node (.node (.node (.node (.node (.node .leaf (some (.code pf_slices_Delete_router_owner_router_owner)) .leaf) none (.node .leaf (some (.code pf_task_Task_clean)) .leaf)) (some (.code pf_view_New)) .leaf) (some (.code pf_router_New)) (.node (.node (.node (.node .leaf (some (.code pf_rs_Code_chosen)) .leaf) none .leaf) none (.node .leaf (some (.code pf_strings_Builder_copyCheck)) .leaf)) (some (.code pf_slices_Clone_string_string)) .leaf)) (some (.code pf_cluster_Cluster_Do)) (.node (.node (.node (.node .leaf (some (.code pf_task_Task_Phase)) .leaf) (some (.code pf_ask_Asks_Answer)) .leaf) (some (.code pf_router_Router_Do)) (.node (.node .leaf (some (.code pf_item_Store_in)) .leaf) none .leaf)) none (.node (.node (.node .leaf (some (.code pf_internal_stringslite_TrimSuffix)) .leaf) (some (.code pf_router_Router_job)) (.node .leaf (some (.code pf_words_Number)) .leaf)) (some (.code pf_router_Router_send)) (.node (.node .leaf (some (.code pf_pack_Reader_End)) .leaf) none (.node .leaf (some (.code pf_model_Next)) .leaf))))) (some (.code pf_depotlaw24_ClusterRuns)) (.node (.node (.node (.node (.node (.node .leaf (some (.code pf_strings_CutPrefix)) .leaf) (some (.code pf_gather_Gather_Got)) .leaf) (some (.code pf_router_Router_gets)) (.node .leaf (some (.code pf_router_Router_tell_1)) .leaf)) (some (.code pf_net_Net_Send)) (.node (.node (.node .leaf (some (.code pf_matrix_copied)) .leaf) (some (.code pf_slab_Slab_Class)) .leaf) (some (.code pf_strings_TrimSuffix)) (.node .leaf (some (.code pf_chain_find)) .leaf))) (some (.code pf_cluster_Cluster_settle)) (.node (.node (.node (.node .leaf (some (.code pf_task_PutRecord)) .leaf) (some (.code pf_strings_Join)) .leaf) (some (.prim Mk.prim)) .leaf) (some (.code pf_task_within)) (.node .leaf (some (.code pf_pack_Num)) (.node .leaf (some (.code pf_task_reads)) .leaf)))) (some (.code pf_depotkeep_Config)) (.node (.node (.node (.node .leaf (some (.code pf_router_Router_over)) .leaf) (some (.code pf_slot_Slot_Take_1)) (.node .leaf (some (.code pf_slices_Delete_router_want_router_want)) .leaf)) (some (.code pf_slot_Slot_Take)) (.node (.node .leaf (some (.code pf_chain_Chain_Get)) .leaf) (some (.code pf_slices_Delete_ask_open_ask_open)) (.node .leaf (some (.code pf_gather_Gather_State)) .leaf))) (some (.code pf_cluster_answered)) (.node (.node (.node .leaf (some (.code pf_internal_stringslite_HasPrefix)) .leaf) none (.node .leaf (some (.code pf_task_Task_enter)) .leaf)) (some (.code pf_answer_Text)) (.node (.node .leaf (some (.code pf_task_Task_gathered)) .leaf) (some (.code pf_matrix_Identity)) .leaf))))) none (.node (.node (.node (.node (.node (.node .leaf (some (.code pf_task_GetRecord)) .leaf) none (.node .leaf (some (.code pf_task_Task_tell)) .leaf)) (some (.code pf_item_New)) (.node (.node .leaf (some (.code pf_item_Store_Get)) .leaf) (some (.code pf_strings_IndexByte)) (.node .leaf (some (.code pf_chain_Chain_step)) .leaf))) (some (.code pf_slot_New)) (.node (.node (.node (.node .leaf (some (.code pf_rs_Code_mix)) .leaf) (some (.code pf_strconv_Itoa)) .leaf) (some (.code pf_router_Router_env)) (.node .leaf (some (.code pf_internal_strconv_small)) .leaf)) (some (.code pf_slices_Clone_api_Frame_api_Frame)) (.node .leaf (some (.code pf_item_Store_Put)) (.node .leaf (some (.code pf_when_Live)) .leaf)))) (some (.code pf_cluster_Cluster_Due)) (.node (.node (.node (.node .leaf (some (.code pf_task_Task_Answer)) .leaf) (some (.code pf_slot_Slot_reset)) (.node .leaf (some (.code pf_slices_IndexFunc_router_want_router_want)) .leaf)) (some (.code pf_net_Net_Drop)) (.node (.node .leaf (some (.code pf_pack_num)) .leaf) (some (.code pf_words_Key)) .leaf)) (some (.code pf_slices_Clone_api_Event_api_Event)) (.node (.node (.node .leaf (some (.code pf_words_shapeOf)) .leaf) (some (.code pf_router_Router_look)) (.node .leaf (some (.code pf_words_signed)) .leaf)) (some (.code pf_chain_New)) (.node (.node .leaf (some (.code pf_gather_Gather_Next)) .leaf) (some (.code pf_view_View_State)) (.node .leaf (some (.code pf_slices_IndexFunc_router_job_router_job)) .leaf))))) (some (.code pf_cluster_New)) (.node (.node (.node (.node (.node .leaf (some (.code pf_task_Task_more)) .leaf) (some (.code pf_router_Router_want)) (.node .leaf (some (.code pf_slices_DeleteFunc_router_job_router_job)) .leaf)) (some (.code pf_parse_Parser_Shut)) (.node (.node (.node .leaf (some (.code pf_slices_Clone_byte_byte)) .leaf) none .leaf) (some (.code pf_parse_Parser_say)) .leaf)) (some (.code pf_cluster_Cluster_frame)) (.node (.node (.node (.node .leaf (some (.code pf_when_Deadline)) .leaf) none .leaf) (some (.code pf_router_Router_owned)) .leaf) (some (.code pf_ask_Asks_Cancel)) (.node .leaf (some (.code pf_slices_Index_int_int)) (.node .leaf (some (.code pf_task_Task_write)) .leaf)))) (some (.code pf_depotbook_Within)) (.node (.node (.node (.node (.node .leaf (some (.code pf_slab_Slab_Read)) .leaf) (some (.code pf_pack_Reader_At)) .leaf) (some (.code pf_ask_Asks_floor)) (.node .leaf (some (.code pf_pack_Reader_fail)) .leaf)) (some (.code pf_router_Router_pump)) (.node .leaf (some (.code pf_wire_role)) (.node .leaf (some (.code pf_gather_Gather_Parts)) .leaf))) (some (.code pf_task_RightConfig)) (.node (.node (.node (.node .leaf (some (.code pf_internal_stringslite_CutPrefix)) .leaf) (some (.code pf_task_Task_Start)) .leaf) (some (.code pf_answer_values)) (.node .leaf (some (.code pf_item_Store_Peek)) .leaf)) (some (.code pf_parse_Parser_data)) (.node (.node .leaf (some (.code pf_task_Task_scattered)) .leaf) (some (.code pf_slices_IndexFunc_router_owner_router_owner)) .leaf)))))) none (.node (.node (.node (.node (.node (.node (.node .leaf (some (.code pf_slices_Clone_int_int)) .leaf) (some (.code pf_router_Router_reply)) (.node .leaf (some (.code pf_task_Task_decide)) .leaf)) (some (.code pf_router_Router_again)) (.node .leaf (some (.code pf_answer_plain)) .leaf)) (some (.code pf_net_New)) (.node (.node (.node (.node .leaf (some (.code pf_matrix_Invert)) .leaf) (some (.code pf_answer_number)) .leaf) (some (.code pf_fill_Fill_Next)) (.node .leaf (some (.code pf_strings_Builder_Grow)) .leaf)) (some (.code pf_slices_Clone_api_Found_api_Found)) (.node .leaf (some (.code pf_slot_Slot_stands)) (.node .leaf (some (.code pf_rs_Code_Encode)) .leaf)))) (some (.code pf_cluster_Cluster_Said)) (.node (.node (.node (.node .leaf (some (.code pf_task_Task_Take)) .leaf) (some (.code pf_wire_Right)) .leaf) (some (.code pf_net_Net_Copy)) (.node (.node .leaf (some (.code pf_chain_Chain_Put)) .leaf) (some (.code pf_router_within)) .leaf)) (some (.code pf_cluster_known)) (.node (.node (.node .leaf (some (.code pf_words_Split)) .leaf) (some (.code pf_task_Task_Got)) (.node .leaf (some (.code pf_words_store)) .leaf)) (some (.code pf_slab_New)) (.node (.node .leaf (some (.code pf_place_Stripe)) .leaf) (some (.code pf_fill_Fill_key)) (.node .leaf (some (.code pf_task_Task_scatter)) .leaf))))) (some (.code pf_depotlaw24_ClusterIgnores)) (.node (.node (.node (.node (.node .leaf (some (.code pf_rs_Code_Size)) .leaf) (some (.code pf_words_Storing)) (.node .leaf (some (.code pf_slices_Delete_router_ticket_router_ticket)) .leaf)) (some (.code pf_cluster_conn_say)) (.node (.node (.node .leaf (some (.code pf_matrix_reduce)) .leaf) (some (.code pf_slab_Slab_Alloc)) .leaf) (some (.code pf_words_Line)) .leaf)) (some (.code pf_cluster_Cluster_send)) (.node (.node (.node (.node .leaf (some (.code pf_gather_New)) .leaf) (some (.code pf_strings_Builder_String)) .leaf) (some (.code pf_matrix_Cauchy)) .leaf) (some (.code pf_view_View_Next)) (.node .leaf (some (.code pf_item_Store_Drop)) (.node .leaf (some (.code pf_task_Task_gather)) .leaf)))) (some (.code pf_cluster_Cluster_Frames)) (.node (.node (.node (.node .leaf (some (.code pf_pack_Read)) .leaf) (some (.code pf_slot_Slot_do)) .leaf) none (.node .leaf (some (.code pf_wire_within)) (.node .leaf (some (.code pf_rs_Code_Decode)) .leaf))) (some (.code pf_net_Net_List)) (.node (.node (.node .leaf (some (.code pf_task_New)) .leaf) (some (.code pf_ask_Asks_Begin)) .leaf) (some (.code pf_parse_Parser_line)) (.node (.node .leaf (some (.code pf_task_Task_found)) .leaf) (some (.code pf_gf_Inv)) (.node .leaf (some (.code pf_internal_strconv_FormatInt)) .leaf)))))) none (.node (.node (.node (.node (.node (.node .leaf (some (.code pf_place_Position)) .leaf) (some (.code pf_router_May)) (.node .leaf (some (.code pf_slices_IndexFunc_router_ticket_router_ticket)) .leaf)) (some (.code pf_router_Router_Drain)) (.node (.node (.node .leaf (some (.code pf_matrix_Right)) .leaf) (some (.code pf_pack_Reader_Num)) .leaf) none (.node .leaf (some (.code pf_chain_Chain_bucket)) .leaf))) (some (.code pf_parse_New)) (.node (.node (.node (.node .leaf (some (.code pf_slices_Clone_api_Part_api_Part)) .leaf) (some (.code pf_strings_Builder_WriteString)) .leaf) (some (.code pf_view_View_Inc)) .leaf) (some (.code pf_rs_New)) (.node .leaf (some (.code pf_slot_name)) (.node .leaf (some (.code pf_task_Task_unseen)) .leaf)))) (some (.code pf_cluster_Cluster_History)) (.node (.node (.node (.node .leaf (some (.code pf_router_Router_tell)) .leaf) (some (.code pf_slices_DeleteFunc_slot_did_slot_did)) (.node .leaf (some (.code pf_router_Router_over_2)) .leaf)) (some (.code pf_router_Router_Take)) (.node (.node .leaf (some (.code pf_pack_grown)) .leaf) (some (.code pf_router_Router_begin)) (.node .leaf (some (.code pf_chain_Hash)) .leaf))) (some (.code pf_cluster_copied)) (.node (.node (.node .leaf (some (.code pf_words_fill)) .leaf) none (.node .leaf (some (.code pf_place_Metas)) .leaf)) (some (.code pf_answer_Quiet)) (.node (.node .leaf (some (.code pf_task_Task_ask)) .leaf) (some (.code pf_view_View_of)) .leaf)))) (some (.code pf_depotlaw24_ClusterRuns_1)) (.node (.node (.node (.node (.node .leaf (some (.code pf_task_Task_on)) .leaf) (some (.code pf_slices_Delete_api_Frame_api_Frame)) (.node .leaf (some (.code pf_router_Router_over_1)) .leaf)) (some (.code pf_parse_Parser_Feed)) (.node (.node (.node .leaf (some (.code pf_gf_Mul)) .leaf) none .leaf) (some (.code pf_strings_HasPrefix)) .leaf)) none (.node (.node (.node (.node .leaf (some (.code pf_model_Next_1)) .leaf) (some (.code pf_internal_stringslite_IndexByte)) .leaf) (some (.code pf_fill_New)) (.node .leaf (some (.code pf_internal_stringslite_HasSuffix)) .leaf)) (some (.code pf_router_Router_heard)) (.node .leaf none (.node .leaf (some (.code pf_task_Task_all)) .leaf)))) (some (.code pf_depotbook_Same_api_Frame)) (.node (.node (.node .leaf (some (.code pf_slices_Contains_int_int)) (.node .leaf (some (.code pf_internal_strconv_Itoa)) .leaf)) (some (.code pf_slot_Slot_clear)) (.node .leaf (some (.code pf_slices_IndexFunc_slot_did_slot_did)) .leaf)) (some (.code pf_ask_New)) (.node (.node .leaf none (.node .leaf (some (.code pf_item_Store_out)) .leaf)) none (.node (.node .leaf (some (.code pf_task_Task_written)) .leaf) (some (.code pf_router_Router_owned_1)) (.node .leaf (some (.code pf_strings_Builder_grow)) .leaf))))))))
theorem bd3 : BodyOk cx 3 := ⟨Tryz.f3, Tryz.func3, by kernel_rfl, by kernel_rfl⟩
theorem bd4 : BodyOk cx 4 := ⟨Tryz.f4, Tryz.func4, by kernel_rfl, by kernel_rfl⟩
theorem bd5 : BodyOk cx 5 := ⟨Tryz.f5, Tryz.func5, by kernel_rfl, by kernel_rfl⟩
theorem bd6 : BodyOk cx 6 := ⟨Tryz.f6, Tryz.func6, by kernel_rfl, by kernel_rfl⟩
theorem bd7 : BodyOk cx 7 := ⟨Tryz.f7, Tryz.func7, by kernel_rfl, by kernel_rfl⟩
theorem bd8 : BodyOk cx 8 := ⟨Tryz.f8, Tryz.func8, by kernel_rfl, by kernel_rfl⟩
theorem bd9 : BodyOk cx 9 := ⟨Tryz.f9, Tryz.func9, by kernel_rfl, by kernel_rfl⟩
theorem bd10 : BodyOk cx 10 := ⟨Tryz.f10, Tryz.func10, by kernel_rfl, by kernel_rfl⟩
theorem bd11 : BodyOk cx 11 := ⟨Tryz.f11, Tryz.func11, by kernel_rfl, by kernel_rfl⟩
theorem bd12 : BodyOk cx 12 := ⟨Tryz.f12, Tryz.func12, by kernel_rfl, by kernel_rfl⟩
theorem bd13 : BodyOk cx 13 := ⟨Tryz.f13, Tryz.func13, by kernel_rfl, by kernel_rfl⟩
theorem bd14 : BodyOk cx 14 := ⟨Tryz.f14, Tryz.func14, by kernel_rfl, by kernel_rfl⟩
theorem bd15 : BodyOk cx 15 := ⟨Tryz.f15, Tryz.func15, by kernel_rfl, by kernel_rfl⟩
theorem bd16 : BodyOk cx 16 := ⟨Tryz.f16, Tryz.func16, by kernel_rfl, by kernel_rfl⟩
theorem bd17 : BodyOk cx 17 := ⟨Tryz.f17, Tryz.func17, by kernel_rfl, by kernel_rfl⟩
theorem bd18 : BodyOk cx 18 := ⟨Tryz.f18, Tryz.func18, by kernel_rfl, by kernel_rfl⟩
theorem bd19 : BodyOk cx 19 := ⟨Tryz.f19, Tryz.func19, by kernel_rfl, by kernel_rfl⟩
theorem bd20 : BodyOk cx 20 := ⟨Tryz.f20, Tryz.func20, by kernel_rfl, by kernel_rfl⟩
theorem bd21 : BodyOk cx 21 := ⟨Tryz.f21, Tryz.func21, by kernel_rfl, by kernel_rfl⟩
theorem bd24 : BodyOk cx 24 := ⟨Tryz.f24, Tryz.func24, by kernel_rfl, by kernel_rfl⟩
theorem bd25 : BodyOk cx 25 := ⟨Tryz.f25, Tryz.func25, by kernel_rfl, by kernel_rfl⟩
theorem bd26 : BodyOk cx 26 := ⟨Tryz.f26, Tryz.func26, by kernel_rfl, by kernel_rfl⟩
theorem bd27 : BodyOk cx 27 := ⟨Tryz.f27, Tryz.func27, by kernel_rfl, by kernel_rfl⟩
theorem bd28 : BodyOk cx 28 := ⟨Tryz.f28, Tryz.func28, by kernel_rfl, by kernel_rfl⟩
theorem bd29 : BodyOk cx 29 := ⟨Tryz.f29, Tryz.func29, by kernel_rfl, by kernel_rfl⟩
theorem bd30 : BodyOk cx 30 := ⟨Tryz.f30, Tryz.func30, by kernel_rfl, by kernel_rfl⟩
theorem bd31 : BodyOk cx 31 := ⟨Tryz.f31, Tryz.func31, by kernel_rfl, by kernel_rfl⟩
theorem bd32 : BodyOk cx 32 := ⟨Tryz.f32, Tryz.func32, by kernel_rfl, by kernel_rfl⟩
theorem bd33 : BodyOk cx 33 := ⟨Tryz.f33, Tryz.func33, by kernel_rfl, by kernel_rfl⟩
theorem bd34 : BodyOk cx 34 := ⟨Tryz.f34, Tryz.func34, by kernel_rfl, by kernel_rfl⟩
theorem bd35 : BodyOk cx 35 := ⟨Tryz.f35, Tryz.func35, by kernel_rfl, by kernel_rfl⟩
theorem bd36 : BodyOk cx 36 := ⟨Tryz.f36, Tryz.func36, by kernel_rfl, by kernel_rfl⟩
theorem bd37 : BodyOk cx 37 := ⟨Tryz.f37, Tryz.func37, by kernel_rfl, by kernel_rfl⟩
theorem bd38 : BodyOk cx 38 := ⟨Tryz.f38, Tryz.func38, by kernel_rfl, by kernel_rfl⟩
theorem bd39 : BodyOk cx 39 := ⟨Tryz.f39, Tryz.func39, by kernel_rfl, by kernel_rfl⟩
theorem bd40 : BodyOk cx 40 := ⟨Tryz.f40, Tryz.func40, by kernel_rfl, by kernel_rfl⟩
theorem bd41 : BodyOk cx 41 := ⟨Tryz.f41, Tryz.func41, by kernel_rfl, by kernel_rfl⟩
theorem bd42 : BodyOk cx 42 := ⟨Tryz.f42, Tryz.func42, by kernel_rfl, by kernel_rfl⟩
theorem bd43 : BodyOk cx 43 := ⟨Tryz.f43, Tryz.func43, by kernel_rfl, by kernel_rfl⟩
theorem bd45 : BodyOk cx 45 := ⟨Tryz.f45, Tryz.func45, by kernel_rfl, by kernel_rfl⟩
theorem bd46 : BodyOk cx 46 := ⟨Tryz.f46, Tryz.func46, by kernel_rfl, by kernel_rfl⟩
theorem bd47 : BodyOk cx 47 := ⟨Tryz.f47, Tryz.func47, by kernel_rfl, by kernel_rfl⟩
theorem bd48 : BodyOk cx 48 := ⟨Tryz.f48, Tryz.func48, by kernel_rfl, by kernel_rfl⟩
theorem bd49 : BodyOk cx 49 := ⟨Tryz.f49, Tryz.func49, by kernel_rfl, by kernel_rfl⟩
theorem bd50 : BodyOk cx 50 := ⟨Tryz.f50, Tryz.func50, by kernel_rfl, by kernel_rfl⟩
theorem bd51 : BodyOk cx 51 := ⟨Tryz.f51, Tryz.func51, by kernel_rfl, by kernel_rfl⟩
theorem bd52 : BodyOk cx 52 := ⟨Tryz.f52, Tryz.func52, by kernel_rfl, by kernel_rfl⟩
theorem bd53 : BodyOk cx 53 := ⟨Tryz.f53, Tryz.func53, by kernel_rfl, by kernel_rfl⟩
theorem bd54 : BodyOk cx 54 := ⟨Tryz.f54, Tryz.func54, by kernel_rfl, by kernel_rfl⟩
theorem bd55 : BodyOk cx 55 := ⟨Tryz.f55, Tryz.func55, by kernel_rfl, by kernel_rfl⟩
theorem bd56 : BodyOk cx 56 := ⟨Tryz.f56, Tryz.func56, by kernel_rfl, by kernel_rfl⟩
theorem bd57 : BodyOk cx 57 := ⟨Tryz.f57, Tryz.func57, by kernel_rfl, by kernel_rfl⟩
theorem bd58 : BodyOk cx 58 := ⟨Tryz.f58, Tryz.func58, by kernel_rfl, by kernel_rfl⟩
theorem bd59 : BodyOk cx 59 := ⟨Tryz.f59, Tryz.func59, by kernel_rfl, by kernel_rfl⟩
theorem bd60 : BodyOk cx 60 := ⟨Tryz.f60, Tryz.func60, by kernel_rfl, by kernel_rfl⟩
theorem bd61 : BodyOk cx 61 := ⟨Tryz.f61, Tryz.func61, by kernel_rfl, by kernel_rfl⟩
theorem bd64 : BodyOk cx 64 := ⟨Tryz.f64, Tryz.func64, by kernel_rfl, by kernel_rfl⟩
theorem bd66 : BodyOk cx 66 := ⟨Tryz.f66, Tryz.func66, by kernel_rfl, by kernel_rfl⟩
theorem bd67 : BodyOk cx 67 := ⟨Tryz.f67, Tryz.func67, by kernel_rfl, by kernel_rfl⟩
theorem bd68 : BodyOk cx 68 := ⟨Tryz.f68, Tryz.func68, by kernel_rfl, by kernel_rfl⟩
theorem bd69 : BodyOk cx 69 := ⟨Tryz.f69, Tryz.func69, by kernel_rfl, by kernel_rfl⟩
theorem bd70 : BodyOk cx 70 := ⟨Tryz.f70, Tryz.func70, by kernel_rfl, by kernel_rfl⟩
theorem bd71 : BodyOk cx 71 := ⟨Tryz.f71, Tryz.func71, by kernel_rfl, by kernel_rfl⟩
theorem bd72 : BodyOk cx 72 := ⟨Tryz.f72, Tryz.func72, by kernel_rfl, by kernel_rfl⟩
theorem bd73 : BodyOk cx 73 := ⟨Tryz.f73, Tryz.func73, by kernel_rfl, by kernel_rfl⟩
theorem bd74 : BodyOk cx 74 := ⟨Tryz.f74, Tryz.func74, by kernel_rfl, by kernel_rfl⟩
theorem bd75 : BodyOk cx 75 := ⟨Tryz.f75, Tryz.func75, by kernel_rfl, by kernel_rfl⟩
theorem bd76 : BodyOk cx 76 := ⟨Tryz.f76, Tryz.func76, by kernel_rfl, by kernel_rfl⟩
theorem bd77 : BodyOk cx 77 := ⟨Tryz.f77, Tryz.func77, by kernel_rfl, by kernel_rfl⟩
theorem bd78 : BodyOk cx 78 := ⟨Tryz.f78, Tryz.func78, by kernel_rfl, by kernel_rfl⟩
theorem bd80 : BodyOk cx 80 := ⟨Tryz.f80, Tryz.func80, by kernel_rfl, by kernel_rfl⟩
theorem bd81 : BodyOk cx 81 := ⟨Tryz.f81, Tryz.func81, by kernel_rfl, by kernel_rfl⟩
theorem bd82 : BodyOk cx 82 := ⟨Tryz.f82, Tryz.func82, by kernel_rfl, by kernel_rfl⟩
theorem bd83 : BodyOk cx 83 := ⟨Tryz.f83, Tryz.func83, by kernel_rfl, by kernel_rfl⟩
theorem bd84 : BodyOk cx 84 := ⟨Tryz.f84, Tryz.func84, by kernel_rfl, by kernel_rfl⟩
theorem bd85 : BodyOk cx 85 := ⟨Tryz.f85, Tryz.func85, by kernel_rfl, by kernel_rfl⟩
theorem bd86 : BodyOk cx 86 := ⟨Tryz.f86, Tryz.func86, by kernel_rfl, by kernel_rfl⟩
theorem bd87 : BodyOk cx 87 := ⟨Tryz.f87, Tryz.func87, by kernel_rfl, by kernel_rfl⟩
theorem bd88 : BodyOk cx 88 := ⟨Tryz.f88, Tryz.func88, by kernel_rfl, by kernel_rfl⟩
theorem bd89 : BodyOk cx 89 := ⟨Tryz.f89, Tryz.func89, by kernel_rfl, by kernel_rfl⟩
theorem bd92 : BodyOk cx 92 := ⟨Tryz.f92, Tryz.func92, by kernel_rfl, by kernel_rfl⟩
theorem bd93 : BodyOk cx 93 := ⟨Tryz.f93, Tryz.func93, by kernel_rfl, by kernel_rfl⟩
theorem bd96 : BodyOk cx 96 := ⟨Tryz.f96, Tryz.func96, by kernel_rfl, by kernel_rfl⟩
theorem bd97 : BodyOk cx 97 := ⟨Tryz.f97, Tryz.func97, by kernel_rfl, by kernel_rfl⟩
theorem bd99 : BodyOk cx 99 := ⟨Tryz.f99, Tryz.func99, by kernel_rfl, by kernel_rfl⟩
theorem bd100 : BodyOk cx 100 := ⟨Tryz.f100, Tryz.func100, by kernel_rfl, by kernel_rfl⟩
theorem bd101 : BodyOk cx 101 := ⟨Tryz.f101, Tryz.func101, by kernel_rfl, by kernel_rfl⟩
theorem bd102 : BodyOk cx 102 := ⟨Tryz.f102, Tryz.func102, by kernel_rfl, by kernel_rfl⟩
theorem bd104 : BodyOk cx 104 := ⟨Tryz.f104, Tryz.func104, by kernel_rfl, by kernel_rfl⟩
theorem bd105 : BodyOk cx 105 := ⟨Tryz.f105, Tryz.func105, by kernel_rfl, by kernel_rfl⟩
theorem bd106 : BodyOk cx 106 := ⟨Tryz.f106, Tryz.func106, by kernel_rfl, by kernel_rfl⟩
theorem bd107 : BodyOk cx 107 := ⟨Tryz.f107, Tryz.func107, by kernel_rfl, by kernel_rfl⟩
theorem bd108 : BodyOk cx 108 := ⟨Tryz.f108, Tryz.func108, by kernel_rfl, by kernel_rfl⟩
theorem bd109 : BodyOk cx 109 := ⟨Tryz.f109, Tryz.func109, by kernel_rfl, by kernel_rfl⟩
theorem bd110 : BodyOk cx 110 := ⟨Tryz.f110, Tryz.func110, by kernel_rfl, by kernel_rfl⟩
theorem bd112 : BodyOk cx 112 := ⟨Tryz.f112, Tryz.func112, by kernel_rfl, by kernel_rfl⟩
theorem bd113 : BodyOk cx 113 := ⟨Tryz.f113, Tryz.func113, by kernel_rfl, by kernel_rfl⟩
theorem bd114 : BodyOk cx 114 := ⟨Tryz.f114, Tryz.func114, by kernel_rfl, by kernel_rfl⟩
theorem bd115 : BodyOk cx 115 := ⟨Tryz.f115, Tryz.func115, by kernel_rfl, by kernel_rfl⟩
theorem bd116 : BodyOk cx 116 := ⟨Tryz.f116, Tryz.func116, by kernel_rfl, by kernel_rfl⟩
theorem bd117 : BodyOk cx 117 := ⟨Tryz.f117, Tryz.func117, by kernel_rfl, by kernel_rfl⟩
theorem bd120 : BodyOk cx 120 := ⟨Tryz.f120, Tryz.func120, by kernel_rfl, by kernel_rfl⟩
theorem bd121 : BodyOk cx 121 := ⟨Tryz.f121, Tryz.func121, by kernel_rfl, by kernel_rfl⟩
theorem bd122 : BodyOk cx 122 := ⟨Tryz.f122, Tryz.func122, by kernel_rfl, by kernel_rfl⟩
theorem bd123 : BodyOk cx 123 := ⟨Tryz.f123, Tryz.func123, by kernel_rfl, by kernel_rfl⟩
theorem bd124 : BodyOk cx 124 := ⟨Tryz.f124, Tryz.func124, by kernel_rfl, by kernel_rfl⟩
theorem bd125 : BodyOk cx 125 := ⟨Tryz.f125, Tryz.func125, by kernel_rfl, by kernel_rfl⟩
theorem bd126 : BodyOk cx 126 := ⟨Tryz.f126, Tryz.func126, by kernel_rfl, by kernel_rfl⟩
theorem bd127 : BodyOk cx 127 := ⟨Tryz.f127, Tryz.func127, by kernel_rfl, by kernel_rfl⟩
theorem bd128 : BodyOk cx 128 := ⟨Tryz.f128, Tryz.func128, by kernel_rfl, by kernel_rfl⟩
theorem bd129 : BodyOk cx 129 := ⟨Tryz.f129, Tryz.func129, by kernel_rfl, by kernel_rfl⟩
theorem bd130 : BodyOk cx 130 := ⟨Tryz.f130, Tryz.func130, by kernel_rfl, by kernel_rfl⟩
theorem bd131 : BodyOk cx 131 := ⟨Tryz.f131, Tryz.func131, by kernel_rfl, by kernel_rfl⟩
theorem bd132 : BodyOk cx 132 := ⟨Tryz.f132, Tryz.func132, by kernel_rfl, by kernel_rfl⟩
theorem bd133 : BodyOk cx 133 := ⟨Tryz.f133, Tryz.func133, by kernel_rfl, by kernel_rfl⟩
theorem bd134 : BodyOk cx 134 := ⟨Tryz.f134, Tryz.func134, by kernel_rfl, by kernel_rfl⟩
theorem bd135 : BodyOk cx 135 := ⟨Tryz.f135, Tryz.func135, by kernel_rfl, by kernel_rfl⟩
theorem bd136 : BodyOk cx 136 := ⟨Tryz.f136, Tryz.func136, by kernel_rfl, by kernel_rfl⟩
theorem bd137 : BodyOk cx 137 := ⟨Tryz.f137, Tryz.func137, by kernel_rfl, by kernel_rfl⟩
theorem bd138 : BodyOk cx 138 := ⟨Tryz.f138, Tryz.func138, by kernel_rfl, by kernel_rfl⟩
theorem bd139 : BodyOk cx 139 := ⟨Tryz.f139, Tryz.func139, by kernel_rfl, by kernel_rfl⟩
theorem bd140 : BodyOk cx 140 := ⟨Tryz.f140, Tryz.func140, by kernel_rfl, by kernel_rfl⟩
theorem bd141 : BodyOk cx 141 := ⟨Tryz.f141, Tryz.func141, by kernel_rfl, by kernel_rfl⟩
theorem bd144 : BodyOk cx 144 := ⟨Tryz.f144, Tryz.func144, by kernel_rfl, by kernel_rfl⟩
theorem bd145 : BodyOk cx 145 := ⟨Tryz.f145, Tryz.func145, by kernel_rfl, by kernel_rfl⟩
theorem bd146 : BodyOk cx 146 := ⟨Tryz.f146, Tryz.func146, by kernel_rfl, by kernel_rfl⟩
theorem bd147 : BodyOk cx 147 := ⟨Tryz.f147, Tryz.func147, by kernel_rfl, by kernel_rfl⟩
theorem bd148 : BodyOk cx 148 := ⟨Tryz.f148, Tryz.func148, by kernel_rfl, by kernel_rfl⟩
theorem bd150 : BodyOk cx 150 := ⟨Tryz.f150, Tryz.func150, by kernel_rfl, by kernel_rfl⟩
theorem bd151 : BodyOk cx 151 := ⟨Tryz.f151, Tryz.func151, by kernel_rfl, by kernel_rfl⟩
theorem bd152 : BodyOk cx 152 := ⟨Tryz.f152, Tryz.func152, by kernel_rfl, by kernel_rfl⟩
theorem bd153 : BodyOk cx 153 := ⟨Tryz.f153, Tryz.func153, by kernel_rfl, by kernel_rfl⟩
theorem bd154 : BodyOk cx 154 := ⟨Tryz.f154, Tryz.func154, by kernel_rfl, by kernel_rfl⟩
theorem bd155 : BodyOk cx 155 := ⟨Tryz.f155, Tryz.func155, by kernel_rfl, by kernel_rfl⟩
theorem bd156 : BodyOk cx 156 := ⟨Tryz.f156, Tryz.func156, by kernel_rfl, by kernel_rfl⟩
theorem bd157 : BodyOk cx 157 := ⟨Tryz.f157, Tryz.func157, by kernel_rfl, by kernel_rfl⟩
theorem bd161 : BodyOk cx 161 := ⟨Tryz.f161, Tryz.func161, by kernel_rfl, by kernel_rfl⟩
theorem bd162 : BodyOk cx 162 := ⟨Tryz.f162, Tryz.func162, by kernel_rfl, by kernel_rfl⟩
theorem bd163 : BodyOk cx 163 := ⟨Tryz.f163, Tryz.func163, by kernel_rfl, by kernel_rfl⟩
theorem bd164 : BodyOk cx 164 := ⟨Tryz.f164, Tryz.func164, by kernel_rfl, by kernel_rfl⟩
theorem bd167 : BodyOk cx 167 := ⟨Tryz.f167, Tryz.func167, by kernel_rfl, by kernel_rfl⟩
theorem bd168 : BodyOk cx 168 := ⟨Tryz.f168, Tryz.func168, by kernel_rfl, by kernel_rfl⟩
theorem bd169 : BodyOk cx 169 := ⟨Tryz.f169, Tryz.func169, by kernel_rfl, by kernel_rfl⟩
theorem bd170 : BodyOk cx 170 := ⟨Tryz.f170, Tryz.func170, by kernel_rfl, by kernel_rfl⟩
theorem bd171 : BodyOk cx 171 := ⟨Tryz.f171, Tryz.func171, by kernel_rfl, by kernel_rfl⟩
theorem bd183 : BodyOk cx 183 := ⟨Tryz.f183, Tryz.func183, by kernel_rfl, by kernel_rfl⟩
theorem bd184 : BodyOk cx 184 := ⟨Tryz.f184, Tryz.func184, by kernel_rfl, by kernel_rfl⟩
theorem bd185 : BodyOk cx 185 := ⟨Tryz.f185, Tryz.func185, by kernel_rfl, by kernel_rfl⟩
theorem bd186 : BodyOk cx 186 := ⟨Tryz.f186, Tryz.func186, by kernel_rfl, by kernel_rfl⟩
theorem bd187 : BodyOk cx 187 := ⟨Tryz.f187, Tryz.func187, by kernel_rfl, by kernel_rfl⟩
theorem bd188 : BodyOk cx 188 := ⟨Tryz.f188, Tryz.func188, by kernel_rfl, by kernel_rfl⟩
theorem bd189 : BodyOk cx 189 := ⟨Tryz.f189, Tryz.func189, by kernel_rfl, by kernel_rfl⟩
theorem bd190 : BodyOk cx 190 := ⟨Tryz.f190, Tryz.func190, by kernel_rfl, by kernel_rfl⟩
theorem bd191 : BodyOk cx 191 := ⟨Tryz.f191, Tryz.func191, by kernel_rfl, by kernel_rfl⟩
theorem bd192 : BodyOk cx 192 := ⟨Tryz.f192, Tryz.func192, by kernel_rfl, by kernel_rfl⟩
theorem bd193 : BodyOk cx 193 := ⟨Tryz.f193, Tryz.func193, by kernel_rfl, by kernel_rfl⟩
theorem bd194 : BodyOk cx 194 := ⟨Tryz.f194, Tryz.func194, by kernel_rfl, by kernel_rfl⟩
theorem bd195 : BodyOk cx 195 := ⟨Tryz.f195, Tryz.func195, by kernel_rfl, by kernel_rfl⟩
theorem bd196 : BodyOk cx 196 := ⟨Tryz.f196, Tryz.func196, by kernel_rfl, by kernel_rfl⟩
theorem bd197 : BodyOk cx 197 := ⟨Tryz.f197, Tryz.func197, by kernel_rfl, by kernel_rfl⟩
theorem bd198 : BodyOk cx 198 := ⟨Tryz.f198, Tryz.func198, by kernel_rfl, by kernel_rfl⟩
theorem bd201 : BodyOk cx 201 := ⟨Tryz.f201, Tryz.func201, by kernel_rfl, by kernel_rfl⟩
theorem bd202 : BodyOk cx 202 := ⟨Tryz.f202, Tryz.func202, by kernel_rfl, by kernel_rfl⟩
theorem bd203 : BodyOk cx 203 := ⟨Tryz.f203, Tryz.func203, by kernel_rfl, by kernel_rfl⟩
theorem bd205 : BodyOk cx 205 := ⟨Tryz.f205, Tryz.func205, by kernel_rfl, by kernel_rfl⟩
theorem bd206 : BodyOk cx 206 := ⟨Tryz.f206, Tryz.func206, by kernel_rfl, by kernel_rfl⟩
theorem bd207 : BodyOk cx 207 := ⟨Tryz.f207, Tryz.func207, by kernel_rfl, by kernel_rfl⟩
theorem bd208 : BodyOk cx 208 := ⟨Tryz.f208, Tryz.func208, by kernel_rfl, by kernel_rfl⟩
theorem bd209 : BodyOk cx 209 := ⟨Tryz.f209, Tryz.func209, by kernel_rfl, by kernel_rfl⟩
theorem bd214 : BodyOk cx 214 := ⟨Tryz.f214, Tryz.func214, by kernel_rfl, by kernel_rfl⟩
theorem bd215 : BodyOk cx 215 := ⟨Tryz.f215, Tryz.func215, by kernel_rfl, by kernel_rfl⟩
theorem bd216 : BodyOk cx 216 := ⟨Tryz.f216, Tryz.func216, by kernel_rfl, by kernel_rfl⟩
theorem bd217 : BodyOk cx 217 := ⟨Tryz.f217, Tryz.func217, by kernel_rfl, by kernel_rfl⟩
theorem bd218 : BodyOk cx 218 := ⟨Tryz.f218, Tryz.func218, by kernel_rfl, by kernel_rfl⟩
theorem bd219 : BodyOk cx 219 := ⟨Tryz.f219, Tryz.func219, by kernel_rfl, by kernel_rfl⟩
theorem bd221 : BodyOk cx 221 := ⟨Tryz.f221, Tryz.func221, by kernel_rfl, by kernel_rfl⟩
theorem bd222 : BodyOk cx 222 := ⟨Tryz.f222, Tryz.func222, by kernel_rfl, by kernel_rfl⟩
theorem bd225 : BodyOk cx 225 := ⟨Tryz.f225, Tryz.func225, by kernel_rfl, by kernel_rfl⟩
theorem bd226 : BodyOk cx 226 := ⟨Tryz.f226, Tryz.func226, by kernel_rfl, by kernel_rfl⟩
theorem bd227 : BodyOk cx 227 := ⟨Tryz.f227, Tryz.func227, by kernel_rfl, by kernel_rfl⟩
theorem bd234 : BodyOk cx 234 := ⟨Tryz.f234, Tryz.func234, by kernel_rfl, by kernel_rfl⟩
theorem bd235 : BodyOk cx 235 := ⟨Tryz.f235, Tryz.func235, by kernel_rfl, by kernel_rfl⟩
theorem bd236 : BodyOk cx 236 := ⟨Tryz.f236, Tryz.func236, by kernel_rfl, by kernel_rfl⟩
theorem bd237 : BodyOk cx 237 := ⟨Tryz.f237, Tryz.func237, by kernel_rfl, by kernel_rfl⟩
theorem bd240 : BodyOk cx 240 := ⟨Tryz.f240, Tryz.func240, by kernel_rfl, by kernel_rfl⟩
theorem bd241 : BodyOk cx 241 := ⟨Tryz.f241, Tryz.func241, by kernel_rfl, by kernel_rfl⟩
theorem bd242 : BodyOk cx 242 := ⟨Tryz.f242, Tryz.func242, by kernel_rfl, by kernel_rfl⟩
theorem bd243 : BodyOk cx 243 := ⟨Tryz.f243, Tryz.func243, by kernel_rfl, by kernel_rfl⟩
theorem bd244 : BodyOk cx 244 := ⟨Tryz.f244, Tryz.func244, by kernel_rfl, by kernel_rfl⟩
theorem bd245 : BodyOk cx 245 := ⟨Tryz.f245, Tryz.func245, by kernel_rfl, by kernel_rfl⟩
theorem bd246 : BodyOk cx 246 := ⟨Tryz.f246, Tryz.func246, by kernel_rfl, by kernel_rfl⟩
theorem bd247 : BodyOk cx 247 := ⟨Tryz.f247, Tryz.func247, by kernel_rfl, by kernel_rfl⟩
theorem bd248 : BodyOk cx 248 := ⟨Tryz.f248, Tryz.func248, by kernel_rfl, by kernel_rfl⟩
theorem bd249 : BodyOk cx 249 := ⟨Tryz.f249, Tryz.func249, by kernel_rfl, by kernel_rfl⟩
theorem bd252 : BodyOk cx 252 := ⟨Tryz.f252, Tryz.func252, by kernel_rfl, by kernel_rfl⟩
theorem bd254 : BodyOk cx 254 := ⟨Tryz.f254, Tryz.func254, by kernel_rfl, by kernel_rfl⟩
theorem bd259 : BodyOk cx 259 := ⟨Tryz.f259, Tryz.func259, by kernel_rfl, by kernel_rfl⟩
theorem bd269 : BodyOk cx 269 := ⟨Tryz.f269, Tryz.func269, by kernel_rfl, by kernel_rfl⟩
theorem bd271 : BodyOk cx 271 := ⟨Tryz.f271, Tryz.func271, by kernel_rfl, by kernel_rfl⟩
theorem bd272 : BodyOk cx 272 := ⟨Tryz.f272, Tryz.func272, by kernel_rfl, by kernel_rfl⟩
theorem bd273 : BodyOk cx 273 := ⟨Tryz.f273, Tryz.func273, by kernel_rfl, by kernel_rfl⟩
theorem bd274 : BodyOk cx 274 := ⟨Tryz.f274, Tryz.func274, by kernel_rfl, by kernel_rfl⟩
theorem bd275 : BodyOk cx 275 := ⟨Tryz.f275, Tryz.func275, by kernel_rfl, by kernel_rfl⟩
theorem bd276 : BodyOk cx 276 := ⟨Tryz.f276, Tryz.func276, by kernel_rfl, by kernel_rfl⟩
theorem bd277 : BodyOk cx 277 := ⟨Tryz.f277, Tryz.func277, by kernel_rfl, by kernel_rfl⟩
theorem bd278 : BodyOk cx 278 := ⟨Tryz.f278, Tryz.func278, by kernel_rfl, by kernel_rfl⟩
theorem bd285 : BodyOk cx 285 := ⟨Tryz.f285, Tryz.func285, by kernel_rfl, by kernel_rfl⟩
theorem bd290 : BodyOk cx 290 := ⟨Tryz.f290, Tryz.func290, by kernel_rfl, by kernel_rfl⟩
theorem bd291 : BodyOk cx 291 := ⟨Tryz.f291, Tryz.func291, by kernel_rfl, by kernel_rfl⟩
theorem bd292 : BodyOk cx 292 := ⟨Tryz.f292, Tryz.func292, by kernel_rfl, by kernel_rfl⟩
theorem bd293 : BodyOk cx 293 := ⟨Tryz.f293, Tryz.func293, by kernel_rfl, by kernel_rfl⟩
theorem bd294 : BodyOk cx 294 := ⟨Tryz.f294, Tryz.func294, by kernel_rfl, by kernel_rfl⟩
theorem bds : AllOf (BodyOk cx) nums := ⟨bd3, bd4, bd5, bd6, bd7, bd8, bd9, bd10, bd11, bd12, bd13, bd14, bd15, bd16, bd17, bd18, bd19, bd20, bd21, bd24, bd25, bd26, bd27, bd28, bd29, bd30, bd31, bd32, bd33, bd34, bd35, bd36, bd37, bd38, bd39, bd40, bd41, bd42, bd43, bd45, bd46, bd47, bd48, bd49, bd50, bd51, bd52, bd53, bd54, bd55, bd56, bd57, bd58, bd59, bd60, bd61, bd64, bd66, bd67, bd68, bd69, bd70, bd71, bd72, bd73, bd74, bd75, bd76, bd77, bd78, bd80, bd81, bd82, bd83, bd84, bd85, bd86, bd87, bd88, bd89, bd92, bd93, bd96, bd97, bd99, bd100, bd101, bd102, bd104, bd105, bd106, bd107, bd108, bd109, bd110, bd112, bd113, bd114, bd115, bd116, bd117, bd120, bd121, bd122, bd123, bd124, bd125, bd126, bd127, bd128, bd129, bd130, bd131, bd132, bd133, bd134, bd135, bd136, bd137, bd138, bd139, bd140, bd141, bd144, bd145, bd146, bd147, bd148, bd150, bd151, bd152, bd153, bd154, bd155, bd156, bd157, bd161, bd162, bd163, bd164, bd167, bd168, bd169, bd170, bd171, bd183, bd184, bd185, bd186, bd187, bd188, bd189, bd190, bd191, bd192, bd193, bd194, bd195, bd196, bd197, bd198, bd201, bd202, bd203, bd205, bd206, bd207, bd208, bd209, bd214, bd215, bd216, bd217, bd218, bd219, bd221, bd222, bd225, bd226, bd227, bd234, bd235, bd236, bd237, bd240, bd241, bd242, bd243, bd244, bd245, bd246, bd247, bd248, bd249, bd252, bd254, bd259, bd269, bd271, bd272, bd273, bd274, bd275, bd276, bd277, bd278, bd285, bd290, bd291, bd292, bd293, bd294, trivial⟩
theorem ext_ok : ExtOk cx := by
  refine ext_table (l := [(213, 1), (253, 2), (282, 3)]) rfl fun p hp => ?_
  rcases List.mem_cons.1 hp with rfl | hp
  · exact item_index Tryz.func213 (by kernel_rfl) (by kernel_rfl) (by kernel_rfl) (by kernel_rfl)
  rcases List.mem_cons.1 hp with rfl | hp
  · exact item_same Tryz.func253 (by kernel_rfl) (by kernel_rfl) (by kernel_rfl) (by kernel_rfl)
  rcases List.mem_cons.1 hp with rfl | hp
  · exact item_nozero (ps := #[3]) (t := 236) (e := 5) Tryz.func282 (by kernel_rfl) (by kernel_rfl) (by kernel_rfl) (by kernel_rfl) Tryz.underlying236 (show cx.P.info? 5 = some (cx.P.info? 5).get! from (by kernel_rfl)) (by kernel_rfl) (by kernel_rfl)
  cases hp
theorem prog_ok : ProgOk cx := ⟨by kernel_rfl, ext_ok, fm_ok2 rfl bds⟩
namespace R
def nums : List Nat := [3, 5, 6, 7, 8, 9, 10, 15, 16, 17, 18, 19, 20, 21, 24, 25, 26, 27, 29, 30, 31, 32, 33, 34, 35, 36, 37, 38, 39, 40, 41, 42, 43, 45, 46, 47, 48, 50, 51, 52, 53, 54, 55, 56, 57, 58, 59, 60, 61, 64, 66, 67, 68, 69, 70, 71, 72, 73, 74, 75, 76, 77, 78, 80, 81, 82, 83, 84, 85, 86, 87, 88, 89, 92, 93, 96, 97, 99, 100, 101, 102, 104, 105, 106, 107, 108, 109, 110, 112, 113, 114, 115, 116, 117, 120, 121, 122, 123, 124, 125, 126, 127, 128, 129, 130, 131, 132, 133, 134, 135, 136, 137, 138, 139, 140, 141, 144, 145, 146, 147, 148, 150, 151, 152, 153, 154, 155, 156, 157, 161, 162, 163, 164, 167, 168, 169, 170, 171, 183, 184, 185, 186, 187, 188, 189, 190, 191, 192, 193, 194, 195, 196, 197, 198, 201, 202, 203, 205, 206, 207, 208, 209, 214, 215, 216, 217, 218, 219, 221, 222, 225, 226, 227, 234, 235, 236, 237, 240, 241, 242, 243, 244, 245, 246, 247, 248, 249, 252, 254, 259, 269, 271, 272, 273, 274, 275, 276, 277, 278, 285, 290, 291, 292, 293, 294]
noncomputable def cx : Cx := { P := Tryz.prog, fm := fmOf nums, gm := fun _ => none, ext := extOf [(213, 1), (253, 2), (282, 3)], bt := some 272 }
def tree0 : Tr LF := (.node (.node (.node (.node (.node (.node (.node (.node .leaf (some (.code pf_slices_Delete_router_owner_router_owner)) .leaf) none (.node .leaf (some (.code pf_task_Task_clean)) .leaf)) (some (.code pf_view_New)) .leaf) (some (.code pf_router_New)) (.node (.node (.node (.node .leaf (some (.code pf_rs_Code_chosen)) .leaf) none .leaf) none (.node .leaf (some (.code pf_strings_Builder_copyCheck)) .leaf)) (some (.code pf_slices_Clone_string_string)) .leaf)) (some (.code pf_cluster_Cluster_Do)) (.node (.node (.node (.node .leaf (some (.code pf_task_Task_Phase)) .leaf) (some (.code pf_ask_Asks_Answer)) .leaf) (some (.code pf_router_Router_Do)) (.node (.node .leaf (some (.code pf_item_Store_in)) .leaf) none .leaf)) none (.node (.node (.node .leaf (some (.code pf_internal_stringslite_TrimSuffix)) .leaf) (some (.code pf_router_Router_job)) (.node .leaf (some (.code pf_words_Number)) .leaf)) (some (.code pf_router_Router_send)) (.node (.node .leaf (some (.code pf_pack_Reader_End)) .leaf) none (.node .leaf (some (.code pf_model_Next)) .leaf))))) (some (.code pf_depotlaw24_ClusterRuns)) (.node (.node (.node (.node (.node (.node .leaf (some (.code pf_strings_CutPrefix)) .leaf) (some (.code pf_gather_Gather_Got)) .leaf) (some (.code pf_router_Router_gets)) (.node .leaf (some (.code pf_router_Router_tell_1)) .leaf)) (some (.code pf_net_Net_Send)) (.node (.node (.node .leaf (some (.code pf_matrix_copied)) .leaf) (some (.code pf_slab_Slab_Class)) .leaf) (some (.code pf_strings_TrimSuffix)) (.node .leaf (some (.code pf_chain_find)) .leaf))) (some (.code pf_cluster_Cluster_settle)) (.node (.node (.node (.node .leaf (some (.code pf_task_PutRecord)) .leaf) (some (.code pf_strings_Join)) .leaf) (some (.prim Mk.prim)) .leaf) (some (.code pf_task_within)) (.node .leaf (some (.code pf_pack_Num)) (.node .leaf (some (.code pf_task_reads)) .leaf)))) none (.node (.node (.node (.node .leaf (some (.code pf_router_Router_over)) .leaf) (some (.code pf_slot_Slot_Take_1)) (.node .leaf (some (.code pf_slices_Delete_router_want_router_want)) .leaf)) (some (.code pf_slot_Slot_Take)) (.node (.node .leaf (some (.code pf_chain_Chain_Get)) .leaf) (some (.code pf_slices_Delete_ask_open_ask_open)) (.node .leaf (some (.code pf_gather_Gather_State)) .leaf))) (some (.code pf_cluster_answered)) (.node (.node (.node .leaf (some (.code pf_internal_stringslite_HasPrefix)) .leaf) none (.node .leaf (some (.code pf_task_Task_enter)) .leaf)) (some (.code pf_answer_Text)) (.node (.node .leaf (some (.code pf_task_Task_gathered)) .leaf) (some (.code pf_matrix_Identity)) .leaf))))) none (.node (.node (.node (.node (.node (.node .leaf (some (.code pf_task_GetRecord)) .leaf) none (.node .leaf (some (.code pf_task_Task_tell)) .leaf)) (some (.code pf_item_New)) (.node (.node .leaf (some (.code pf_item_Store_Get)) .leaf) (some (.code pf_strings_IndexByte)) (.node .leaf (some (.code pf_chain_Chain_step)) .leaf))) (some (.code pf_slot_New)) (.node (.node (.node (.node .leaf (some (.code pf_rs_Code_mix)) .leaf) (some (.code pf_strconv_Itoa)) .leaf) (some (.code pf_router_Router_env)) (.node .leaf (some (.code pf_internal_strconv_small)) .leaf)) none (.node .leaf (some (.code pf_item_Store_Put)) (.node .leaf (some (.code pf_when_Live)) .leaf)))) (some (.code pf_cluster_Cluster_Due)) (.node (.node (.node (.node .leaf (some (.code pf_task_Task_Answer)) .leaf) (some (.code pf_slot_Slot_reset)) (.node .leaf (some (.code pf_slices_IndexFunc_router_want_router_want)) .leaf)) (some (.code pf_net_Net_Drop)) (.node (.node .leaf (some (.code pf_pack_num)) .leaf) (some (.code pf_words_Key)) .leaf)) (some (.code pf_slices_Clone_api_Event_api_Event)) (.node (.node (.node .leaf (some (.code pf_words_shapeOf)) .leaf) (some (.code pf_router_Router_look)) (.node .leaf (some (.code pf_words_signed)) .leaf)) (some (.code pf_chain_New)) (.node (.node .leaf (some (.code pf_gather_Gather_Next)) .leaf) (some (.code pf_view_View_State)) (.node .leaf (some (.code pf_slices_IndexFunc_router_job_router_job)) .leaf))))) (some (.code pf_cluster_New)) (.node (.node (.node (.node (.node .leaf (some (.code pf_task_Task_more)) .leaf) (some (.code pf_router_Router_want)) (.node .leaf (some (.code pf_slices_DeleteFunc_router_job_router_job)) .leaf)) (some (.code pf_parse_Parser_Shut)) (.node (.node (.node .leaf (some (.code pf_slices_Clone_byte_byte)) .leaf) none .leaf) (some (.code pf_parse_Parser_say)) .leaf)) (some (.code pf_cluster_Cluster_frame)) (.node (.node (.node (.node .leaf (some (.code pf_when_Deadline)) .leaf) none .leaf) (some (.code pf_router_Router_owned)) .leaf) (some (.code pf_ask_Asks_Cancel)) (.node .leaf (some (.code pf_slices_Index_int_int)) (.node .leaf (some (.code pf_task_Task_write)) .leaf)))) none (.node (.node (.node (.node (.node .leaf (some (.code pf_slab_Slab_Read)) .leaf) (some (.code pf_pack_Reader_At)) .leaf) (some (.code pf_ask_Asks_floor)) (.node .leaf (some (.code pf_pack_Reader_fail)) .leaf)) (some (.code pf_router_Router_pump)) (.node .leaf (some (.code pf_wire_role)) (.node .leaf (some (.code pf_gather_Gather_Parts)) .leaf))) (some (.code pf_task_RightConfig)) (.node (.node (.node (.node .leaf (some (.code pf_internal_stringslite_CutPrefix)) .leaf) (some (.code pf_task_Task_Start)) .leaf) (some (.code pf_answer_values)) (.node .leaf (some (.code pf_item_Store_Peek)) .leaf)) (some (.code pf_parse_Parser_data)) (.node (.node .leaf (some (.code pf_task_Task_scattered)) .leaf) (some (.code pf_slices_IndexFunc_router_owner_router_owner)) .leaf)))))) none (.node (.node (.node (.node (.node (.node (.node .leaf (some (.code pf_slices_Clone_int_int)) .leaf) (some (.code pf_router_Router_reply)) (.node .leaf (some (.code pf_task_Task_decide)) .leaf)) (some (.code pf_router_Router_again)) (.node .leaf (some (.code pf_answer_plain)) .leaf)) (some (.code pf_net_New)) (.node (.node (.node (.node .leaf (some (.code pf_matrix_Invert)) .leaf) (some (.code pf_answer_number)) .leaf) (some (.code pf_fill_Fill_Next)) (.node .leaf (some (.code pf_strings_Builder_Grow)) .leaf)) (some (.code pf_slices_Clone_api_Found_api_Found)) (.node .leaf (some (.code pf_slot_Slot_stands)) (.node .leaf (some (.code pf_rs_Code_Encode)) .leaf)))) (some (.code pf_cluster_Cluster_Said)) (.node (.node (.node (.node .leaf (some (.code pf_task_Task_Take)) .leaf) (some (.code pf_wire_Right)) .leaf) (some (.code pf_net_Net_Copy)) (.node (.node .leaf (some (.code pf_chain_Chain_Put)) .leaf) (some (.code pf_router_within)) .leaf)) (some (.code pf_cluster_known)) (.node (.node (.node .leaf (some (.code pf_words_Split)) .leaf) (some (.code pf_task_Task_Got)) (.node .leaf (some (.code pf_words_store)) .leaf)) (some (.code pf_slab_New)) (.node (.node .leaf (some (.code pf_place_Stripe)) .leaf) (some (.code pf_fill_Fill_key)) (.node .leaf (some (.code pf_task_Task_scatter)) .leaf))))) none (.node (.node (.node (.node (.node .leaf (some (.code pf_rs_Code_Size)) .leaf) (some (.code pf_words_Storing)) (.node .leaf (some (.code pf_slices_Delete_router_ticket_router_ticket)) .leaf)) (some (.code pf_cluster_conn_say)) (.node (.node (.node .leaf (some (.code pf_matrix_reduce)) .leaf) (some (.code pf_slab_Slab_Alloc)) .leaf) (some (.code pf_words_Line)) .leaf)) (some (.code pf_cluster_Cluster_send)) (.node (.node (.node (.node .leaf (some (.code pf_gather_New)) .leaf) (some (.code pf_strings_Builder_String)) .leaf) (some (.code pf_matrix_Cauchy)) .leaf) (some (.code pf_view_View_Next)) (.node .leaf (some (.code pf_item_Store_Drop)) (.node .leaf (some (.code pf_task_Task_gather)) .leaf)))) none (.node (.node (.node (.node .leaf (some (.code pf_pack_Read)) .leaf) (some (.code pf_slot_Slot_do)) .leaf) none (.node .leaf (some (.code pf_wire_within)) (.node .leaf (some (.code pf_rs_Code_Decode)) .leaf))) none (.node (.node (.node .leaf (some (.code pf_task_New)) .leaf) (some (.code pf_ask_Asks_Begin)) .leaf) (some (.code pf_parse_Parser_line)) (.node (.node .leaf (some (.code pf_task_Task_found)) .leaf) (some (.code pf_gf_Inv)) (.node .leaf (some (.code pf_internal_strconv_FormatInt)) .leaf)))))) none (.node (.node (.node (.node (.node (.node .leaf (some (.code pf_place_Position)) .leaf) (some (.code pf_router_May)) (.node .leaf (some (.code pf_slices_IndexFunc_router_ticket_router_ticket)) .leaf)) (some (.code pf_router_Router_Drain)) (.node (.node (.node .leaf (some (.code pf_matrix_Right)) .leaf) (some (.code pf_pack_Reader_Num)) .leaf) none (.node .leaf (some (.code pf_chain_Chain_bucket)) .leaf))) (some (.code pf_parse_New)) (.node (.node (.node (.node .leaf (some (.code pf_slices_Clone_api_Part_api_Part)) .leaf) (some (.code pf_strings_Builder_WriteString)) .leaf) (some (.code pf_view_View_Inc)) .leaf) (some (.code pf_rs_New)) (.node .leaf (some (.code pf_slot_name)) (.node .leaf (some (.code pf_task_Task_unseen)) .leaf)))) (some (.code pf_cluster_Cluster_History)) (.node (.node (.node (.node .leaf (some (.code pf_router_Router_tell)) .leaf) (some (.code pf_slices_DeleteFunc_slot_did_slot_did)) (.node .leaf (some (.code pf_router_Router_over_2)) .leaf)) (some (.code pf_router_Router_Take)) (.node (.node .leaf (some (.code pf_pack_grown)) .leaf) (some (.code pf_router_Router_begin)) (.node .leaf (some (.code pf_chain_Hash)) .leaf))) (some (.code pf_cluster_copied)) (.node (.node (.node .leaf (some (.code pf_words_fill)) .leaf) none (.node .leaf (some (.code pf_place_Metas)) .leaf)) (some (.code pf_answer_Quiet)) (.node (.node .leaf (some (.code pf_task_Task_ask)) .leaf) (some (.code pf_view_View_of)) .leaf)))) (some (.code pf_depotlaw24_ClusterRuns_1)) (.node (.node (.node (.node (.node .leaf (some (.code pf_task_Task_on)) .leaf) (some (.code pf_slices_Delete_api_Frame_api_Frame)) (.node .leaf (some (.code pf_router_Router_over_1)) .leaf)) (some (.code pf_parse_Parser_Feed)) (.node (.node (.node .leaf (some (.code pf_gf_Mul)) .leaf) none .leaf) (some (.code pf_strings_HasPrefix)) .leaf)) none (.node (.node (.node (.node .leaf (some (.code pf_model_Next_1)) .leaf) (some (.code pf_internal_stringslite_IndexByte)) .leaf) (some (.code pf_fill_New)) (.node .leaf (some (.code pf_internal_stringslite_HasSuffix)) .leaf)) (some (.code pf_router_Router_heard)) (.node .leaf none (.node .leaf (some (.code pf_task_Task_all)) .leaf)))) none (.node (.node (.node .leaf (some (.code pf_slices_Contains_int_int)) (.node .leaf (some (.code pf_internal_strconv_Itoa)) .leaf)) (some (.code pf_slot_Slot_clear)) (.node .leaf (some (.code pf_slices_IndexFunc_slot_did_slot_did)) .leaf)) (some (.code pf_ask_New)) (.node (.node .leaf none (.node .leaf (some (.code pf_item_Store_out)) .leaf)) none (.node (.node .leaf (some (.code pf_task_Task_written)) .leaf) (some (.code pf_router_Router_owned_1)) (.node .leaf (some (.code pf_strings_Builder_grow)) .leaf))))))))
theorem tr3 : trF cx Tryz.f3 = pf_depotlaw24_ClusterRuns := by kernel_rfl
theorem bd3 : BodyOk cx 3 := ⟨Tryz.f3, Tryz.func3, by kernel_rfl, by kernel_rfl⟩
theorem tr5 : trF cx Tryz.f5 = pf_cluster_New := by kernel_rfl
theorem bd5 : BodyOk cx 5 := ⟨Tryz.f5, Tryz.func5, by kernel_rfl, by kernel_rfl⟩
theorem tr6 : trF cx Tryz.f6 = pf_depotlaw24_ClusterRuns_1 := by kernel_rfl
theorem bd6 : BodyOk cx 6 := ⟨Tryz.f6, Tryz.func6, by kernel_rfl, by kernel_rfl⟩
theorem tr7 : trF cx Tryz.f7 = pf_cluster_Cluster_Do := by kernel_rfl
theorem bd7 : BodyOk cx 7 := ⟨Tryz.f7, Tryz.func7, by kernel_rfl, by kernel_rfl⟩
theorem tr8 : trF cx Tryz.f8 = pf_cluster_Cluster_Said := by kernel_rfl
theorem bd8 : BodyOk cx 8 := ⟨Tryz.f8, Tryz.func8, by kernel_rfl, by kernel_rfl⟩
theorem tr9 : trF cx Tryz.f9 = pf_cluster_Cluster_Due := by kernel_rfl
theorem bd9 : BodyOk cx 9 := ⟨Tryz.f9, Tryz.func9, by kernel_rfl, by kernel_rfl⟩
theorem tr10 : trF cx Tryz.f10 = pf_cluster_Cluster_History := by kernel_rfl
theorem bd10 : BodyOk cx 10 := ⟨Tryz.f10, Tryz.func10, by kernel_rfl, by kernel_rfl⟩
theorem tr15 : trF cx Tryz.f15 = pf_router_New := by kernel_rfl
theorem bd15 : BodyOk cx 15 := ⟨Tryz.f15, Tryz.func15, by kernel_rfl, by kernel_rfl⟩
theorem tr16 : trF cx Tryz.f16 = pf_net_New := by kernel_rfl
theorem bd16 : BodyOk cx 16 := ⟨Tryz.f16, Tryz.func16, by kernel_rfl, by kernel_rfl⟩
theorem tr17 : trF cx Tryz.f17 = pf_slot_New := by kernel_rfl
theorem bd17 : BodyOk cx 17 := ⟨Tryz.f17, Tryz.func17, by kernel_rfl, by kernel_rfl⟩
theorem tr18 : trF cx Tryz.f18 = pf_parse_New := by kernel_rfl
theorem bd18 : BodyOk cx 18 := ⟨Tryz.f18, Tryz.func18, by kernel_rfl, by kernel_rfl⟩
theorem tr19 : trF cx Tryz.f19 = pf_cluster_Cluster_settle := by kernel_rfl
theorem bd19 : BodyOk cx 19 := ⟨Tryz.f19, Tryz.func19, by kernel_rfl, by kernel_rfl⟩
theorem tr20 : trF cx Tryz.f20 = pf_cluster_Cluster_send := by kernel_rfl
theorem bd20 : BodyOk cx 20 := ⟨Tryz.f20, Tryz.func20, by kernel_rfl, by kernel_rfl⟩
theorem tr21 : trF cx Tryz.f21 = pf_cluster_Cluster_frame := by kernel_rfl
theorem bd21 : BodyOk cx 21 := ⟨Tryz.f21, Tryz.func21, by kernel_rfl, by kernel_rfl⟩
theorem tr24 : trF cx Tryz.f24 = pf_cluster_known := by kernel_rfl
theorem bd24 : BodyOk cx 24 := ⟨Tryz.f24, Tryz.func24, by kernel_rfl, by kernel_rfl⟩
theorem tr25 : trF cx Tryz.f25 = pf_slices_Clone_api_Event_api_Event := by kernel_rfl
theorem bd25 : BodyOk cx 25 := ⟨Tryz.f25, Tryz.func25, by kernel_rfl, by kernel_rfl⟩
theorem tr26 : trF cx Tryz.f26 = pf_cluster_copied := by kernel_rfl
theorem bd26 : BodyOk cx 26 := ⟨Tryz.f26, Tryz.func26, by kernel_rfl, by kernel_rfl⟩
theorem tr27 : trF cx Tryz.f27 = pf_cluster_answered := by kernel_rfl
theorem bd27 : BodyOk cx 27 := ⟨Tryz.f27, Tryz.func27, by kernel_rfl, by kernel_rfl⟩
theorem tr29 : trF cx Tryz.f29 = pf_task_RightConfig := by kernel_rfl
theorem bd29 : BodyOk cx 29 := ⟨Tryz.f29, Tryz.func29, by kernel_rfl, by kernel_rfl⟩
theorem tr30 : trF cx Tryz.f30 = pf_ask_New := by kernel_rfl
theorem bd30 : BodyOk cx 30 := ⟨Tryz.f30, Tryz.func30, by kernel_rfl, by kernel_rfl⟩
theorem tr31 : trF cx Tryz.f31 = pf_view_New := by kernel_rfl
theorem bd31 : BodyOk cx 31 := ⟨Tryz.f31, Tryz.func31, by kernel_rfl, by kernel_rfl⟩
theorem tr32 : trF cx Tryz.f32 = pf_router_Router_again := by kernel_rfl
theorem bd32 : BodyOk cx 32 := ⟨Tryz.f32, Tryz.func32, by kernel_rfl, by kernel_rfl⟩
theorem tr33 : trF cx Tryz.f33 = pf_item_New := by kernel_rfl
theorem bd33 : BodyOk cx 33 := ⟨Tryz.f33, Tryz.func33, by kernel_rfl, by kernel_rfl⟩
theorem tr34 : trF cx Tryz.f34 = pf_router_Router_Drain := by kernel_rfl
theorem bd34 : BodyOk cx 34 := ⟨Tryz.f34, Tryz.func34, by kernel_rfl, by kernel_rfl⟩
theorem tr35 : trF cx Tryz.f35 = pf_net_Net_Send := by kernel_rfl
theorem bd35 : BodyOk cx 35 := ⟨Tryz.f35, Tryz.func35, by kernel_rfl, by kernel_rfl⟩
theorem tr36 : trF cx Tryz.f36 = pf_cluster_conn_say := by kernel_rfl
theorem bd36 : BodyOk cx 36 := ⟨Tryz.f36, Tryz.func36, by kernel_rfl, by kernel_rfl⟩
theorem tr37 : trF cx Tryz.f37 = pf_parse_Parser_Shut := by kernel_rfl
theorem bd37 : BodyOk cx 37 := ⟨Tryz.f37, Tryz.func37, by kernel_rfl, by kernel_rfl⟩
theorem tr38 : trF cx Tryz.f38 = pf_parse_Parser_Feed := by kernel_rfl
theorem bd38 : BodyOk cx 38 := ⟨Tryz.f38, Tryz.func38, by kernel_rfl, by kernel_rfl⟩
theorem tr39 : trF cx Tryz.f39 = pf_router_Router_Do := by kernel_rfl
theorem bd39 : BodyOk cx 39 := ⟨Tryz.f39, Tryz.func39, by kernel_rfl, by kernel_rfl⟩
theorem tr40 : trF cx Tryz.f40 = pf_net_Net_Copy := by kernel_rfl
theorem bd40 : BodyOk cx 40 := ⟨Tryz.f40, Tryz.func40, by kernel_rfl, by kernel_rfl⟩
theorem tr41 : trF cx Tryz.f41 = pf_net_Net_Drop := by kernel_rfl
theorem bd41 : BodyOk cx 41 := ⟨Tryz.f41, Tryz.func41, by kernel_rfl, by kernel_rfl⟩
theorem tr42 : trF cx Tryz.f42 = pf_router_Router_Take := by kernel_rfl
theorem bd42 : BodyOk cx 42 := ⟨Tryz.f42, Tryz.func42, by kernel_rfl, by kernel_rfl⟩
theorem tr43 : trF cx Tryz.f43 = pf_slot_Slot_Take := by kernel_rfl
theorem bd43 : BodyOk cx 43 := ⟨Tryz.f43, Tryz.func43, by kernel_rfl, by kernel_rfl⟩
theorem tr45 : trF cx Tryz.f45 = pf_router_Router_pump := by kernel_rfl
theorem bd45 : BodyOk cx 45 := ⟨Tryz.f45, Tryz.func45, by kernel_rfl, by kernel_rfl⟩
theorem tr46 : trF cx Tryz.f46 = pf_slot_Slot_clear := by kernel_rfl
theorem bd46 : BodyOk cx 46 := ⟨Tryz.f46, Tryz.func46, by kernel_rfl, by kernel_rfl⟩
theorem tr47 : trF cx Tryz.f47 = pf_slices_Clone_string_string := by kernel_rfl
theorem bd47 : BodyOk cx 47 := ⟨Tryz.f47, Tryz.func47, by kernel_rfl, by kernel_rfl⟩
theorem tr48 : trF cx Tryz.f48 = pf_slices_Clone_api_Found_api_Found := by kernel_rfl
theorem bd48 : BodyOk cx 48 := ⟨Tryz.f48, Tryz.func48, by kernel_rfl, by kernel_rfl⟩
theorem tr50 : trF cx Tryz.f50 = pf_rs_New := by kernel_rfl
theorem bd50 : BodyOk cx 50 := ⟨Tryz.f50, Tryz.func50, by kernel_rfl, by kernel_rfl⟩
theorem tr51 : trF cx Tryz.f51 = pf_task_within := by kernel_rfl
theorem bd51 : BodyOk cx 51 := ⟨Tryz.f51, Tryz.func51, by kernel_rfl, by kernel_rfl⟩
theorem tr52 : trF cx Tryz.f52 = pf_view_View_Next := by kernel_rfl
theorem bd52 : BodyOk cx 52 := ⟨Tryz.f52, Tryz.func52, by kernel_rfl, by kernel_rfl⟩
theorem tr53 : trF cx Tryz.f53 = pf_ask_Asks_Cancel := by kernel_rfl
theorem bd53 : BodyOk cx 53 := ⟨Tryz.f53, Tryz.func53, by kernel_rfl, by kernel_rfl⟩
theorem tr54 : trF cx Tryz.f54 = pf_router_Router_heard := by kernel_rfl
theorem bd54 : BodyOk cx 54 := ⟨Tryz.f54, Tryz.func54, by kernel_rfl, by kernel_rfl⟩
theorem tr55 : trF cx Tryz.f55 = pf_router_Router_send := by kernel_rfl
theorem bd55 : BodyOk cx 55 := ⟨Tryz.f55, Tryz.func55, by kernel_rfl, by kernel_rfl⟩
theorem tr56 : trF cx Tryz.f56 = pf_slab_New := by kernel_rfl
theorem bd56 : BodyOk cx 56 := ⟨Tryz.f56, Tryz.func56, by kernel_rfl, by kernel_rfl⟩
theorem tr57 : trF cx Tryz.f57 = pf_chain_New := by kernel_rfl
theorem bd57 : BodyOk cx 57 := ⟨Tryz.f57, Tryz.func57, by kernel_rfl, by kernel_rfl⟩
theorem tr58 : trF cx Tryz.f58 = pf_answer_Quiet := by kernel_rfl
theorem bd58 : BodyOk cx 58 := ⟨Tryz.f58, Tryz.func58, by kernel_rfl, by kernel_rfl⟩
theorem tr59 : trF cx Tryz.f59 = pf_answer_Text := by kernel_rfl
theorem bd59 : BodyOk cx 59 := ⟨Tryz.f59, Tryz.func59, by kernel_rfl, by kernel_rfl⟩
theorem tr60 : trF cx Tryz.f60 = pf_parse_Parser_line := by kernel_rfl
theorem bd60 : BodyOk cx 60 := ⟨Tryz.f60, Tryz.func60, by kernel_rfl, by kernel_rfl⟩
theorem tr61 : trF cx Tryz.f61 = pf_parse_Parser_data := by kernel_rfl
theorem bd61 : BodyOk cx 61 := ⟨Tryz.f61, Tryz.func61, by kernel_rfl, by kernel_rfl⟩
theorem tr64 : trF cx Tryz.f64 = pf_router_Router_reply := by kernel_rfl
theorem bd64 : BodyOk cx 64 := ⟨Tryz.f64, Tryz.func64, by kernel_rfl, by kernel_rfl⟩
theorem tr66 : trF cx Tryz.f66 = pf_router_May := by kernel_rfl
theorem bd66 : BodyOk cx 66 := ⟨Tryz.f66, Tryz.func66, by kernel_rfl, by kernel_rfl⟩
theorem tr67 : trF cx Tryz.f67 = pf_router_Router_gets := by kernel_rfl
theorem bd67 : BodyOk cx 67 := ⟨Tryz.f67, Tryz.func67, by kernel_rfl, by kernel_rfl⟩
theorem tr68 : trF cx Tryz.f68 = pf_words_Storing := by kernel_rfl
theorem bd68 : BodyOk cx 68 := ⟨Tryz.f68, Tryz.func68, by kernel_rfl, by kernel_rfl⟩
theorem tr69 : trF cx Tryz.f69 = pf_router_Router_want := by kernel_rfl
theorem bd69 : BodyOk cx 69 := ⟨Tryz.f69, Tryz.func69, by kernel_rfl, by kernel_rfl⟩
theorem tr70 : trF cx Tryz.f70 = pf_slices_Delete_api_Frame_api_Frame := by kernel_rfl
theorem bd70 : BodyOk cx 70 := ⟨Tryz.f70, Tryz.func70, by kernel_rfl, by kernel_rfl⟩
theorem tr71 : trF cx Tryz.f71 = pf_ask_Asks_Answer := by kernel_rfl
theorem bd71 : BodyOk cx 71 := ⟨Tryz.f71, Tryz.func71, by kernel_rfl, by kernel_rfl⟩
theorem tr72 : trF cx Tryz.f72 = pf_wire_Right := by kernel_rfl
theorem bd72 : BodyOk cx 72 := ⟨Tryz.f72, Tryz.func72, by kernel_rfl, by kernel_rfl⟩
theorem tr73 : trF cx Tryz.f73 = pf_slot_Slot_reset := by kernel_rfl
theorem bd73 : BodyOk cx 73 := ⟨Tryz.f73, Tryz.func73, by kernel_rfl, by kernel_rfl⟩
theorem tr74 : trF cx Tryz.f74 = pf_slices_DeleteFunc_slot_did_slot_did := by kernel_rfl
theorem bd74 : BodyOk cx 74 := ⟨Tryz.f74, Tryz.func74, by kernel_rfl, by kernel_rfl⟩
theorem tr75 : trF cx Tryz.f75 = pf_slot_Slot_Take_1 := by kernel_rfl
theorem bd75 : BodyOk cx 75 := ⟨Tryz.f75, Tryz.func75, by kernel_rfl, by kernel_rfl⟩
theorem tr76 : trF cx Tryz.f76 = pf_slot_Slot_do := by kernel_rfl
theorem bd76 : BodyOk cx 76 := ⟨Tryz.f76, Tryz.func76, by kernel_rfl, by kernel_rfl⟩
theorem tr77 : trF cx Tryz.f77 = pf_ask_Asks_floor := by kernel_rfl
theorem bd77 : BodyOk cx 77 := ⟨Tryz.f77, Tryz.func77, by kernel_rfl, by kernel_rfl⟩
theorem tr78 : trF cx Tryz.f78 = pf_slices_Contains_int_int := by kernel_rfl
theorem bd78 : BodyOk cx 78 := ⟨Tryz.f78, Tryz.func78, by kernel_rfl, by kernel_rfl⟩
theorem tr80 : trF cx Tryz.f80 = pf_fill_Fill_Next := by kernel_rfl
theorem bd80 : BodyOk cx 80 := ⟨Tryz.f80, Tryz.func80, by kernel_rfl, by kernel_rfl⟩
theorem tr81 : trF cx Tryz.f81 = pf_router_Router_env := by kernel_rfl
theorem bd81 : BodyOk cx 81 := ⟨Tryz.f81, Tryz.func81, by kernel_rfl, by kernel_rfl⟩
theorem tr82 : trF cx Tryz.f82 = pf_view_View_Inc := by kernel_rfl
theorem bd82 : BodyOk cx 82 := ⟨Tryz.f82, Tryz.func82, by kernel_rfl, by kernel_rfl⟩
theorem tr83 : trF cx Tryz.f83 = Mk.pf := by kernel_rfl
theorem bd83 : BodyOk cx 83 := ⟨Tryz.f83, Tryz.func83, by kernel_rfl, by kernel_rfl⟩
theorem tr84 : trF cx Tryz.f84 = pf_matrix_Cauchy := by kernel_rfl
theorem bd84 : BodyOk cx 84 := ⟨Tryz.f84, Tryz.func84, by kernel_rfl, by kernel_rfl⟩
theorem tr85 : trF cx Tryz.f85 = pf_router_Router_owned := by kernel_rfl
theorem bd85 : BodyOk cx 85 := ⟨Tryz.f85, Tryz.func85, by kernel_rfl, by kernel_rfl⟩
theorem tr86 : trF cx Tryz.f86 = pf_fill_New := by kernel_rfl
theorem bd86 : BodyOk cx 86 := ⟨Tryz.f86, Tryz.func86, by kernel_rfl, by kernel_rfl⟩
theorem tr87 : trF cx Tryz.f87 = pf_router_Router_job := by kernel_rfl
theorem bd87 : BodyOk cx 87 := ⟨Tryz.f87, Tryz.func87, by kernel_rfl, by kernel_rfl⟩
theorem tr88 : trF cx Tryz.f88 = pf_task_Task_Got := by kernel_rfl
theorem bd88 : BodyOk cx 88 := ⟨Tryz.f88, Tryz.func88, by kernel_rfl, by kernel_rfl⟩
theorem tr89 : trF cx Tryz.f89 = pf_router_Router_look := by kernel_rfl
theorem bd89 : BodyOk cx 89 := ⟨Tryz.f89, Tryz.func89, by kernel_rfl, by kernel_rfl⟩
theorem tr92 : trF cx Tryz.f92 = pf_ask_Asks_Begin := by kernel_rfl
theorem bd92 : BodyOk cx 92 := ⟨Tryz.f92, Tryz.func92, by kernel_rfl, by kernel_rfl⟩
theorem tr93 : trF cx Tryz.f93 = pf_answer_values := by kernel_rfl
theorem bd93 : BodyOk cx 93 := ⟨Tryz.f93, Tryz.func93, by kernel_rfl, by kernel_rfl⟩
theorem tr96 : trF cx Tryz.f96 = pf_answer_plain := by kernel_rfl
theorem bd96 : BodyOk cx 96 := ⟨Tryz.f96, Tryz.func96, by kernel_rfl, by kernel_rfl⟩
theorem tr97 : trF cx Tryz.f97 = pf_strings_IndexByte := by kernel_rfl
theorem bd97 : BodyOk cx 97 := ⟨Tryz.f97, Tryz.func97, by kernel_rfl, by kernel_rfl⟩
theorem tr99 : trF cx Tryz.f99 = pf_strings_TrimSuffix := by kernel_rfl
theorem bd99 : BodyOk cx 99 := ⟨Tryz.f99, Tryz.func99, by kernel_rfl, by kernel_rfl⟩
theorem tr100 : trF cx Tryz.f100 = pf_words_Line := by kernel_rfl
theorem bd100 : BodyOk cx 100 := ⟨Tryz.f100, Tryz.func100, by kernel_rfl, by kernel_rfl⟩
theorem tr101 : trF cx Tryz.f101 = pf_parse_Parser_say := by kernel_rfl
theorem bd101 : BodyOk cx 101 := ⟨Tryz.f101, Tryz.func101, by kernel_rfl, by kernel_rfl⟩
theorem tr102 : trF cx Tryz.f102 = pf_strings_HasPrefix := by kernel_rfl
theorem bd102 : BodyOk cx 102 := ⟨Tryz.f102, Tryz.func102, by kernel_rfl, by kernel_rfl⟩
theorem tr104 : trF cx Tryz.f104 = pf_router_within := by kernel_rfl
theorem bd104 : BodyOk cx 104 := ⟨Tryz.f104, Tryz.func104, by kernel_rfl, by kernel_rfl⟩
theorem tr105 : trF cx Tryz.f105 = pf_words_Key := by kernel_rfl
theorem bd105 : BodyOk cx 105 := ⟨Tryz.f105, Tryz.func105, by kernel_rfl, by kernel_rfl⟩
theorem tr106 : trF cx Tryz.f106 = pf_router_Router_begin := by kernel_rfl
theorem bd106 : BodyOk cx 106 := ⟨Tryz.f106, Tryz.func106, by kernel_rfl, by kernel_rfl⟩
theorem tr107 : trF cx Tryz.f107 = pf_slices_Delete_ask_open_ask_open := by kernel_rfl
theorem bd107 : BodyOk cx 107 := ⟨Tryz.f107, Tryz.func107, by kernel_rfl, by kernel_rfl⟩
theorem tr108 : trF cx Tryz.f108 = pf_wire_within := by kernel_rfl
theorem bd108 : BodyOk cx 108 := ⟨Tryz.f108, Tryz.func108, by kernel_rfl, by kernel_rfl⟩
theorem tr109 : trF cx Tryz.f109 = pf_wire_role := by kernel_rfl
theorem bd109 : BodyOk cx 109 := ⟨Tryz.f109, Tryz.func109, by kernel_rfl, by kernel_rfl⟩
theorem tr110 : trF cx Tryz.f110 = pf_slices_IndexFunc_slot_did_slot_did := by kernel_rfl
theorem bd110 : BodyOk cx 110 := ⟨Tryz.f110, Tryz.func110, by kernel_rfl, by kernel_rfl⟩
theorem tr112 : trF cx Tryz.f112 = pf_slot_Slot_stands := by kernel_rfl
theorem bd112 : BodyOk cx 112 := ⟨Tryz.f112, Tryz.func112, by kernel_rfl, by kernel_rfl⟩
theorem tr113 : trF cx Tryz.f113 = pf_item_Store_Put := by kernel_rfl
theorem bd113 : BodyOk cx 113 := ⟨Tryz.f113, Tryz.func113, by kernel_rfl, by kernel_rfl⟩
theorem tr114 : trF cx Tryz.f114 = pf_slot_name := by kernel_rfl
theorem bd114 : BodyOk cx 114 := ⟨Tryz.f114, Tryz.func114, by kernel_rfl, by kernel_rfl⟩
theorem tr115 : trF cx Tryz.f115 = pf_pack_Num := by kernel_rfl
theorem bd115 : BodyOk cx 115 := ⟨Tryz.f115, Tryz.func115, by kernel_rfl, by kernel_rfl⟩
theorem tr116 : trF cx Tryz.f116 = pf_item_Store_Drop := by kernel_rfl
theorem bd116 : BodyOk cx 116 := ⟨Tryz.f116, Tryz.func116, by kernel_rfl, by kernel_rfl⟩
theorem tr117 : trF cx Tryz.f117 = pf_slices_Index_int_int := by kernel_rfl
theorem bd117 : BodyOk cx 117 := ⟨Tryz.f117, Tryz.func117, by kernel_rfl, by kernel_rfl⟩
theorem tr120 : trF cx Tryz.f120 = pf_fill_Fill_key := by kernel_rfl
theorem bd120 : BodyOk cx 120 := ⟨Tryz.f120, Tryz.func120, by kernel_rfl, by kernel_rfl⟩
theorem tr121 : trF cx Tryz.f121 = pf_view_View_State := by kernel_rfl
theorem bd121 : BodyOk cx 121 := ⟨Tryz.f121, Tryz.func121, by kernel_rfl, by kernel_rfl⟩
theorem tr122 : trF cx Tryz.f122 = pf_view_View_of := by kernel_rfl
theorem bd122 : BodyOk cx 122 := ⟨Tryz.f122, Tryz.func122, by kernel_rfl, by kernel_rfl⟩
theorem tr123 : trF cx Tryz.f123 = pf_matrix_Identity := by kernel_rfl
theorem bd123 : BodyOk cx 123 := ⟨Tryz.f123, Tryz.func123, by kernel_rfl, by kernel_rfl⟩
theorem tr124 : trF cx Tryz.f124 = pf_gf_Inv := by kernel_rfl
theorem bd124 : BodyOk cx 124 := ⟨Tryz.f124, Tryz.func124, by kernel_rfl, by kernel_rfl⟩
theorem tr125 : trF cx Tryz.f125 = pf_slices_IndexFunc_router_owner_router_owner := by kernel_rfl
theorem bd125 : BodyOk cx 125 := ⟨Tryz.f125, Tryz.func125, by kernel_rfl, by kernel_rfl⟩
theorem tr126 : trF cx Tryz.f126 = pf_router_Router_owned_1 := by kernel_rfl
theorem bd126 : BodyOk cx 126 := ⟨Tryz.f126, Tryz.func126, by kernel_rfl, by kernel_rfl⟩
theorem tr127 : trF cx Tryz.f127 = pf_slices_Delete_router_owner_router_owner := by kernel_rfl
theorem bd127 : BodyOk cx 127 := ⟨Tryz.f127, Tryz.func127, by kernel_rfl, by kernel_rfl⟩
theorem tr128 : trF cx Tryz.f128 = pf_slices_Clone_int_int := by kernel_rfl
theorem bd128 : BodyOk cx 128 := ⟨Tryz.f128, Tryz.func128, by kernel_rfl, by kernel_rfl⟩
theorem tr129 : trF cx Tryz.f129 = pf_task_GetRecord := by kernel_rfl
theorem bd129 : BodyOk cx 129 := ⟨Tryz.f129, Tryz.func129, by kernel_rfl, by kernel_rfl⟩
theorem tr130 : trF cx Tryz.f130 = pf_place_Position := by kernel_rfl
theorem bd130 : BodyOk cx 130 := ⟨Tryz.f130, Tryz.func130, by kernel_rfl, by kernel_rfl⟩
theorem tr131 : trF cx Tryz.f131 = pf_gather_Gather_Got := by kernel_rfl
theorem bd131 : BodyOk cx 131 := ⟨Tryz.f131, Tryz.func131, by kernel_rfl, by kernel_rfl⟩
theorem tr132 : trF cx Tryz.f132 = pf_rs_Code_Size := by kernel_rfl
theorem bd132 : BodyOk cx 132 := ⟨Tryz.f132, Tryz.func132, by kernel_rfl, by kernel_rfl⟩
theorem tr133 : trF cx Tryz.f133 = pf_task_Task_more := by kernel_rfl
theorem bd133 : BodyOk cx 133 := ⟨Tryz.f133, Tryz.func133, by kernel_rfl, by kernel_rfl⟩
theorem tr134 : trF cx Tryz.f134 = pf_task_Task_on := by kernel_rfl
theorem bd134 : BodyOk cx 134 := ⟨Tryz.f134, Tryz.func134, by kernel_rfl, by kernel_rfl⟩
theorem tr135 : trF cx Tryz.f135 = pf_task_Task_Phase := by kernel_rfl
theorem bd135 : BodyOk cx 135 := ⟨Tryz.f135, Tryz.func135, by kernel_rfl, by kernel_rfl⟩
theorem tr136 : trF cx Tryz.f136 = pf_task_Task_Take := by kernel_rfl
theorem bd136 : BodyOk cx 136 := ⟨Tryz.f136, Tryz.func136, by kernel_rfl, by kernel_rfl⟩
theorem tr137 : trF cx Tryz.f137 = pf_task_Task_Answer := by kernel_rfl
theorem bd137 : BodyOk cx 137 := ⟨Tryz.f137, Tryz.func137, by kernel_rfl, by kernel_rfl⟩
theorem tr138 : trF cx Tryz.f138 = pf_router_Router_tell := by kernel_rfl
theorem bd138 : BodyOk cx 138 := ⟨Tryz.f138, Tryz.func138, by kernel_rfl, by kernel_rfl⟩
theorem tr139 : trF cx Tryz.f139 = pf_router_Router_over := by kernel_rfl
theorem bd139 : BodyOk cx 139 := ⟨Tryz.f139, Tryz.func139, by kernel_rfl, by kernel_rfl⟩
theorem tr140 : trF cx Tryz.f140 = pf_pack_Read := by kernel_rfl
theorem bd140 : BodyOk cx 140 := ⟨Tryz.f140, Tryz.func140, by kernel_rfl, by kernel_rfl⟩
theorem tr141 : trF cx Tryz.f141 = pf_pack_Reader_At := by kernel_rfl
theorem bd141 : BodyOk cx 141 := ⟨Tryz.f141, Tryz.func141, by kernel_rfl, by kernel_rfl⟩
theorem tr144 : trF cx Tryz.f144 = pf_answer_number := by kernel_rfl
theorem bd144 : BodyOk cx 144 := ⟨Tryz.f144, Tryz.func144, by kernel_rfl, by kernel_rfl⟩
theorem tr145 : trF cx Tryz.f145 = pf_strconv_Itoa := by kernel_rfl
theorem bd145 : BodyOk cx 145 := ⟨Tryz.f145, Tryz.func145, by kernel_rfl, by kernel_rfl⟩
theorem tr146 : trF cx Tryz.f146 = pf_strings_Builder_WriteString := by kernel_rfl
theorem bd146 : BodyOk cx 146 := ⟨Tryz.f146, Tryz.func146, by kernel_rfl, by kernel_rfl⟩
theorem tr147 : trF cx Tryz.f147 = pf_strings_Join := by kernel_rfl
theorem bd147 : BodyOk cx 147 := ⟨Tryz.f147, Tryz.func147, by kernel_rfl, by kernel_rfl⟩
theorem tr148 : trF cx Tryz.f148 = pf_strings_Builder_String := by kernel_rfl
theorem bd148 : BodyOk cx 148 := ⟨Tryz.f148, Tryz.func148, by kernel_rfl, by kernel_rfl⟩
theorem tr150 : trF cx Tryz.f150 = pf_internal_stringslite_IndexByte := by kernel_rfl
theorem bd150 : BodyOk cx 150 := ⟨Tryz.f150, Tryz.func150, by kernel_rfl, by kernel_rfl⟩
theorem tr151 : trF cx Tryz.f151 = pf_internal_stringslite_TrimSuffix := by kernel_rfl
theorem bd151 : BodyOk cx 151 := ⟨Tryz.f151, Tryz.func151, by kernel_rfl, by kernel_rfl⟩
theorem tr152 : trF cx Tryz.f152 = pf_words_Split := by kernel_rfl
theorem bd152 : BodyOk cx 152 := ⟨Tryz.f152, Tryz.func152, by kernel_rfl, by kernel_rfl⟩
theorem tr153 : trF cx Tryz.f153 = pf_words_shapeOf := by kernel_rfl
theorem bd153 : BodyOk cx 153 := ⟨Tryz.f153, Tryz.func153, by kernel_rfl, by kernel_rfl⟩
theorem tr154 : trF cx Tryz.f154 = pf_words_fill := by kernel_rfl
theorem bd154 : BodyOk cx 154 := ⟨Tryz.f154, Tryz.func154, by kernel_rfl, by kernel_rfl⟩
theorem tr155 : trF cx Tryz.f155 = pf_internal_stringslite_HasPrefix := by kernel_rfl
theorem bd155 : BodyOk cx 155 := ⟨Tryz.f155, Tryz.func155, by kernel_rfl, by kernel_rfl⟩
theorem tr156 : trF cx Tryz.f156 = pf_task_New := by kernel_rfl
theorem bd156 : BodyOk cx 156 := ⟨Tryz.f156, Tryz.func156, by kernel_rfl, by kernel_rfl⟩
theorem tr157 : trF cx Tryz.f157 = pf_task_Task_Start := by kernel_rfl
theorem bd157 : BodyOk cx 157 := ⟨Tryz.f157, Tryz.func157, by kernel_rfl, by kernel_rfl⟩
theorem tr161 : trF cx Tryz.f161 = pf_item_Store_Get := by kernel_rfl
theorem bd161 : BodyOk cx 161 := ⟨Tryz.f161, Tryz.func161, by kernel_rfl, by kernel_rfl⟩
theorem tr162 : trF cx Tryz.f162 = pf_pack_Reader_Num := by kernel_rfl
theorem bd162 : BodyOk cx 162 := ⟨Tryz.f162, Tryz.func162, by kernel_rfl, by kernel_rfl⟩
theorem tr163 : trF cx Tryz.f163 = pf_slab_Slab_Class := by kernel_rfl
theorem bd163 : BodyOk cx 163 := ⟨Tryz.f163, Tryz.func163, by kernel_rfl, by kernel_rfl⟩
theorem tr164 : trF cx Tryz.f164 = pf_slab_Slab_Alloc := by kernel_rfl
theorem bd164 : BodyOk cx 164 := ⟨Tryz.f164, Tryz.func164, by kernel_rfl, by kernel_rfl⟩
theorem tr167 : trF cx Tryz.f167 = pf_item_Store_in := by kernel_rfl
theorem bd167 : BodyOk cx 167 := ⟨Tryz.f167, Tryz.func167, by kernel_rfl, by kernel_rfl⟩
theorem tr168 : trF cx Tryz.f168 = pf_chain_Chain_Put := by kernel_rfl
theorem bd168 : BodyOk cx 168 := ⟨Tryz.f168, Tryz.func168, by kernel_rfl, by kernel_rfl⟩
theorem tr169 : trF cx Tryz.f169 = pf_pack_num := by kernel_rfl
theorem bd169 : BodyOk cx 169 := ⟨Tryz.f169, Tryz.func169, by kernel_rfl, by kernel_rfl⟩
theorem tr170 : trF cx Tryz.f170 = pf_pack_grown := by kernel_rfl
theorem bd170 : BodyOk cx 170 := ⟨Tryz.f170, Tryz.func170, by kernel_rfl, by kernel_rfl⟩
theorem tr171 : trF cx Tryz.f171 = pf_chain_Chain_Get := by kernel_rfl
theorem bd171 : BodyOk cx 171 := ⟨Tryz.f171, Tryz.func171, by kernel_rfl, by kernel_rfl⟩
theorem tr183 : trF cx Tryz.f183 = pf_pack_Reader_End := by kernel_rfl
theorem bd183 : BodyOk cx 183 := ⟨Tryz.f183, Tryz.func183, by kernel_rfl, by kernel_rfl⟩
theorem tr184 : trF cx Tryz.f184 = pf_place_Stripe := by kernel_rfl
theorem bd184 : BodyOk cx 184 := ⟨Tryz.f184, Tryz.func184, by kernel_rfl, by kernel_rfl⟩
theorem tr185 : trF cx Tryz.f185 = pf_gather_Gather_Next := by kernel_rfl
theorem bd185 : BodyOk cx 185 := ⟨Tryz.f185, Tryz.func185, by kernel_rfl, by kernel_rfl⟩
theorem tr186 : trF cx Tryz.f186 = pf_task_Task_ask := by kernel_rfl
theorem bd186 : BodyOk cx 186 := ⟨Tryz.f186, Tryz.func186, by kernel_rfl, by kernel_rfl⟩
theorem tr187 : trF cx Tryz.f187 = pf_task_Task_gathered := by kernel_rfl
theorem bd187 : BodyOk cx 187 := ⟨Tryz.f187, Tryz.func187, by kernel_rfl, by kernel_rfl⟩
theorem tr188 : trF cx Tryz.f188 = pf_task_Task_found := by kernel_rfl
theorem bd188 : BodyOk cx 188 := ⟨Tryz.f188, Tryz.func188, by kernel_rfl, by kernel_rfl⟩
theorem tr189 : trF cx Tryz.f189 = pf_task_Task_scattered := by kernel_rfl
theorem bd189 : BodyOk cx 189 := ⟨Tryz.f189, Tryz.func189, by kernel_rfl, by kernel_rfl⟩
theorem tr190 : trF cx Tryz.f190 = pf_task_Task_written := by kernel_rfl
theorem bd190 : BodyOk cx 190 := ⟨Tryz.f190, Tryz.func190, by kernel_rfl, by kernel_rfl⟩
theorem tr191 : trF cx Tryz.f191 = pf_task_Task_clean := by kernel_rfl
theorem bd191 : BodyOk cx 191 := ⟨Tryz.f191, Tryz.func191, by kernel_rfl, by kernel_rfl⟩
theorem tr192 : trF cx Tryz.f192 = pf_task_Task_decide := by kernel_rfl
theorem bd192 : BodyOk cx 192 := ⟨Tryz.f192, Tryz.func192, by kernel_rfl, by kernel_rfl⟩
theorem tr193 : trF cx Tryz.f193 = pf_task_Task_tell := by kernel_rfl
theorem bd193 : BodyOk cx 193 := ⟨Tryz.f193, Tryz.func193, by kernel_rfl, by kernel_rfl⟩
theorem tr194 : trF cx Tryz.f194 = pf_slices_IndexFunc_router_ticket_router_ticket := by kernel_rfl
theorem bd194 : BodyOk cx 194 := ⟨Tryz.f194, Tryz.func194, by kernel_rfl, by kernel_rfl⟩
theorem tr195 : trF cx Tryz.f195 = pf_router_Router_tell_1 := by kernel_rfl
theorem bd195 : BodyOk cx 195 := ⟨Tryz.f195, Tryz.func195, by kernel_rfl, by kernel_rfl⟩
theorem tr196 : trF cx Tryz.f196 = pf_slices_Delete_router_ticket_router_ticket := by kernel_rfl
theorem bd196 : BodyOk cx 196 := ⟨Tryz.f196, Tryz.func196, by kernel_rfl, by kernel_rfl⟩
theorem tr197 : trF cx Tryz.f197 = pf_slices_DeleteFunc_router_job_router_job := by kernel_rfl
theorem bd197 : BodyOk cx 197 := ⟨Tryz.f197, Tryz.func197, by kernel_rfl, by kernel_rfl⟩
theorem tr198 : trF cx Tryz.f198 = pf_router_Router_over_1 := by kernel_rfl
theorem bd198 : BodyOk cx 198 := ⟨Tryz.f198, Tryz.func198, by kernel_rfl, by kernel_rfl⟩
theorem tr201 : trF cx Tryz.f201 = pf_slices_IndexFunc_router_want_router_want := by kernel_rfl
theorem bd201 : BodyOk cx 201 := ⟨Tryz.f201, Tryz.func201, by kernel_rfl, by kernel_rfl⟩
theorem tr202 : trF cx Tryz.f202 = pf_router_Router_over_2 := by kernel_rfl
theorem bd202 : BodyOk cx 202 := ⟨Tryz.f202, Tryz.func202, by kernel_rfl, by kernel_rfl⟩
theorem tr203 : trF cx Tryz.f203 = pf_slices_Delete_router_want_router_want := by kernel_rfl
theorem bd203 : BodyOk cx 203 := ⟨Tryz.f203, Tryz.func203, by kernel_rfl, by kernel_rfl⟩
theorem tr205 : trF cx Tryz.f205 = pf_pack_Reader_fail := by kernel_rfl
theorem bd205 : BodyOk cx 205 := ⟨Tryz.f205, Tryz.func205, by kernel_rfl, by kernel_rfl⟩
theorem tr206 : trF cx Tryz.f206 = pf_internal_strconv_Itoa := by kernel_rfl
theorem bd206 : BodyOk cx 206 := ⟨Tryz.f206, Tryz.func206, by kernel_rfl, by kernel_rfl⟩
theorem tr207 : trF cx Tryz.f207 = pf_strings_Builder_copyCheck := by kernel_rfl
theorem bd207 : BodyOk cx 207 := ⟨Tryz.f207, Tryz.func207, by kernel_rfl, by kernel_rfl⟩
theorem tr208 : trF cx Tryz.f208 = pf_strings_Builder_Grow := by kernel_rfl
theorem bd208 : BodyOk cx 208 := ⟨Tryz.f208, Tryz.func208, by kernel_rfl, by kernel_rfl⟩
theorem tr209 : trF cx Tryz.f209 = pf_internal_strconv_small := by kernel_rfl
theorem bd209 : BodyOk cx 209 := ⟨Tryz.f209, Tryz.func209, by kernel_rfl, by kernel_rfl⟩
theorem tr214 : trF cx Tryz.f214 = pf_internal_stringslite_HasSuffix := by kernel_rfl
theorem bd214 : BodyOk cx 214 := ⟨Tryz.f214, Tryz.func214, by kernel_rfl, by kernel_rfl⟩
theorem tr215 : trF cx Tryz.f215 = pf_words_Number := by kernel_rfl
theorem bd215 : BodyOk cx 215 := ⟨Tryz.f215, Tryz.func215, by kernel_rfl, by kernel_rfl⟩
theorem tr216 : trF cx Tryz.f216 = pf_words_store := by kernel_rfl
theorem bd216 : BodyOk cx 216 := ⟨Tryz.f216, Tryz.func216, by kernel_rfl, by kernel_rfl⟩
theorem tr217 : trF cx Tryz.f217 = pf_words_signed := by kernel_rfl
theorem bd217 : BodyOk cx 217 := ⟨Tryz.f217, Tryz.func217, by kernel_rfl, by kernel_rfl⟩
theorem tr218 : trF cx Tryz.f218 = pf_place_Metas := by kernel_rfl
theorem bd218 : BodyOk cx 218 := ⟨Tryz.f218, Tryz.func218, by kernel_rfl, by kernel_rfl⟩
theorem tr219 : trF cx Tryz.f219 = pf_task_Task_enter := by kernel_rfl
theorem bd219 : BodyOk cx 219 := ⟨Tryz.f219, Tryz.func219, by kernel_rfl, by kernel_rfl⟩
theorem tr221 : trF cx Tryz.f221 = pf_item_Store_Peek := by kernel_rfl
theorem bd221 : BodyOk cx 221 := ⟨Tryz.f221, Tryz.func221, by kernel_rfl, by kernel_rfl⟩
theorem tr222 : trF cx Tryz.f222 = pf_item_Store_out := by kernel_rfl
theorem bd222 : BodyOk cx 222 := ⟨Tryz.f222, Tryz.func222, by kernel_rfl, by kernel_rfl⟩
theorem tr225 : trF cx Tryz.f225 = pf_chain_Chain_step := by kernel_rfl
theorem bd225 : BodyOk cx 225 := ⟨Tryz.f225, Tryz.func225, by kernel_rfl, by kernel_rfl⟩
theorem tr226 : trF cx Tryz.f226 = pf_chain_Chain_bucket := by kernel_rfl
theorem bd226 : BodyOk cx 226 := ⟨Tryz.f226, Tryz.func226, by kernel_rfl, by kernel_rfl⟩
theorem tr227 : trF cx Tryz.f227 = pf_chain_find := by kernel_rfl
theorem bd227 : BodyOk cx 227 := ⟨Tryz.f227, Tryz.func227, by kernel_rfl, by kernel_rfl⟩
theorem tr234 : trF cx Tryz.f234 = pf_chain_Hash := by kernel_rfl
theorem bd234 : BodyOk cx 234 := ⟨Tryz.f234, Tryz.func234, by kernel_rfl, by kernel_rfl⟩
theorem tr235 : trF cx Tryz.f235 = pf_gather_Gather_State := by kernel_rfl
theorem bd235 : BodyOk cx 235 := ⟨Tryz.f235, Tryz.func235, by kernel_rfl, by kernel_rfl⟩
theorem tr236 : trF cx Tryz.f236 = pf_rs_Code_Decode := by kernel_rfl
theorem bd236 : BodyOk cx 236 := ⟨Tryz.f236, Tryz.func236, by kernel_rfl, by kernel_rfl⟩
theorem tr237 : trF cx Tryz.f237 = pf_gather_Gather_Parts := by kernel_rfl
theorem bd237 : BodyOk cx 237 := ⟨Tryz.f237, Tryz.func237, by kernel_rfl, by kernel_rfl⟩
theorem tr240 : trF cx Tryz.f240 = pf_rs_Code_Encode := by kernel_rfl
theorem bd240 : BodyOk cx 240 := ⟨Tryz.f240, Tryz.func240, by kernel_rfl, by kernel_rfl⟩
theorem tr241 : trF cx Tryz.f241 = pf_when_Live := by kernel_rfl
theorem bd241 : BodyOk cx 241 := ⟨Tryz.f241, Tryz.func241, by kernel_rfl, by kernel_rfl⟩
theorem tr242 : trF cx Tryz.f242 = pf_task_Task_unseen := by kernel_rfl
theorem bd242 : BodyOk cx 242 := ⟨Tryz.f242, Tryz.func242, by kernel_rfl, by kernel_rfl⟩
theorem tr243 : trF cx Tryz.f243 = pf_task_reads := by kernel_rfl
theorem bd243 : BodyOk cx 243 := ⟨Tryz.f243, Tryz.func243, by kernel_rfl, by kernel_rfl⟩
theorem tr244 : trF cx Tryz.f244 = pf_task_Task_gather := by kernel_rfl
theorem bd244 : BodyOk cx 244 := ⟨Tryz.f244, Tryz.func244, by kernel_rfl, by kernel_rfl⟩
theorem tr245 : trF cx Tryz.f245 = pf_task_Task_write := by kernel_rfl
theorem bd245 : BodyOk cx 245 := ⟨Tryz.f245, Tryz.func245, by kernel_rfl, by kernel_rfl⟩
theorem tr246 : trF cx Tryz.f246 = pf_task_Task_all := by kernel_rfl
theorem bd246 : BodyOk cx 246 := ⟨Tryz.f246, Tryz.func246, by kernel_rfl, by kernel_rfl⟩
theorem tr247 : trF cx Tryz.f247 = pf_model_Next := by kernel_rfl
theorem bd247 : BodyOk cx 247 := ⟨Tryz.f247, Tryz.func247, by kernel_rfl, by kernel_rfl⟩
theorem tr248 : trF cx Tryz.f248 = pf_task_Task_scatter := by kernel_rfl
theorem bd248 : BodyOk cx 248 := ⟨Tryz.f248, Tryz.func248, by kernel_rfl, by kernel_rfl⟩
theorem tr249 : trF cx Tryz.f249 = pf_slices_IndexFunc_router_job_router_job := by kernel_rfl
theorem bd249 : BodyOk cx 249 := ⟨Tryz.f249, Tryz.func249, by kernel_rfl, by kernel_rfl⟩
theorem tr252 : trF cx Tryz.f252 = pf_internal_strconv_FormatInt := by kernel_rfl
theorem bd252 : BodyOk cx 252 := ⟨Tryz.f252, Tryz.func252, by kernel_rfl, by kernel_rfl⟩
theorem tr254 : trF cx Tryz.f254 = pf_strings_Builder_grow := by kernel_rfl
theorem bd254 : BodyOk cx 254 := ⟨Tryz.f254, Tryz.func254, by kernel_rfl, by kernel_rfl⟩
theorem tr259 : trF cx Tryz.f259 = pf_strings_CutPrefix := by kernel_rfl
theorem bd259 : BodyOk cx 259 := ⟨Tryz.f259, Tryz.func259, by kernel_rfl, by kernel_rfl⟩
theorem tr269 : trF cx Tryz.f269 = pf_slab_Slab_Read := by kernel_rfl
theorem bd269 : BodyOk cx 269 := ⟨Tryz.f269, Tryz.func269, by kernel_rfl, by kernel_rfl⟩
theorem tr271 : trF cx Tryz.f271 = pf_rs_Code_chosen := by kernel_rfl
theorem bd271 : BodyOk cx 271 := ⟨Tryz.f271, Tryz.func271, by kernel_rfl, by kernel_rfl⟩
theorem tr272 : trF cx Tryz.f272 = pf_matrix_Invert := by kernel_rfl
theorem bd272 : BodyOk cx 272 := ⟨Tryz.f272, Tryz.func272, by kernel_rfl, by kernel_rfl⟩
theorem tr273 : trF cx Tryz.f273 = pf_rs_Code_mix := by kernel_rfl
theorem bd273 : BodyOk cx 273 := ⟨Tryz.f273, Tryz.func273, by kernel_rfl, by kernel_rfl⟩
theorem tr274 : trF cx Tryz.f274 = pf_slices_Clone_api_Part_api_Part := by kernel_rfl
theorem bd274 : BodyOk cx 274 := ⟨Tryz.f274, Tryz.func274, by kernel_rfl, by kernel_rfl⟩
theorem tr275 : trF cx Tryz.f275 = pf_task_PutRecord := by kernel_rfl
theorem bd275 : BodyOk cx 275 := ⟨Tryz.f275, Tryz.func275, by kernel_rfl, by kernel_rfl⟩
theorem tr276 : trF cx Tryz.f276 = pf_gather_New := by kernel_rfl
theorem bd276 : BodyOk cx 276 := ⟨Tryz.f276, Tryz.func276, by kernel_rfl, by kernel_rfl⟩
theorem tr277 : trF cx Tryz.f277 = pf_when_Deadline := by kernel_rfl
theorem bd277 : BodyOk cx 277 := ⟨Tryz.f277, Tryz.func277, by kernel_rfl, by kernel_rfl⟩
theorem tr278 : trF cx Tryz.f278 = pf_model_Next_1 := by kernel_rfl
theorem bd278 : BodyOk cx 278 := ⟨Tryz.f278, Tryz.func278, by kernel_rfl, by kernel_rfl⟩
theorem tr285 : trF cx Tryz.f285 = pf_internal_stringslite_CutPrefix := by kernel_rfl
theorem bd285 : BodyOk cx 285 := ⟨Tryz.f285, Tryz.func285, by kernel_rfl, by kernel_rfl⟩
theorem tr290 : trF cx Tryz.f290 = pf_matrix_Right := by kernel_rfl
theorem bd290 : BodyOk cx 290 := ⟨Tryz.f290, Tryz.func290, by kernel_rfl, by kernel_rfl⟩
theorem tr291 : trF cx Tryz.f291 = pf_matrix_copied := by kernel_rfl
theorem bd291 : BodyOk cx 291 := ⟨Tryz.f291, Tryz.func291, by kernel_rfl, by kernel_rfl⟩
theorem tr292 : trF cx Tryz.f292 = pf_matrix_reduce := by kernel_rfl
theorem bd292 : BodyOk cx 292 := ⟨Tryz.f292, Tryz.func292, by kernel_rfl, by kernel_rfl⟩
theorem tr293 : trF cx Tryz.f293 = pf_slices_Clone_byte_byte := by kernel_rfl
theorem bd293 : BodyOk cx 293 := ⟨Tryz.f293, Tryz.func293, by kernel_rfl, by kernel_rfl⟩
theorem tr294 : trF cx Tryz.f294 = pf_gf_Mul := by kernel_rfl
theorem bd294 : BodyOk cx 294 := ⟨Tryz.f294, Tryz.func294, by kernel_rfl, by kernel_rfl⟩
theorem bds : AllOf (BodyOk cx) nums := ⟨bd3, bd5, bd6, bd7, bd8, bd9, bd10, bd15, bd16, bd17, bd18, bd19, bd20, bd21, bd24, bd25, bd26, bd27, bd29, bd30, bd31, bd32, bd33, bd34, bd35, bd36, bd37, bd38, bd39, bd40, bd41, bd42, bd43, bd45, bd46, bd47, bd48, bd50, bd51, bd52, bd53, bd54, bd55, bd56, bd57, bd58, bd59, bd60, bd61, bd64, bd66, bd67, bd68, bd69, bd70, bd71, bd72, bd73, bd74, bd75, bd76, bd77, bd78, bd80, bd81, bd82, bd83, bd84, bd85, bd86, bd87, bd88, bd89, bd92, bd93, bd96, bd97, bd99, bd100, bd101, bd102, bd104, bd105, bd106, bd107, bd108, bd109, bd110, bd112, bd113, bd114, bd115, bd116, bd117, bd120, bd121, bd122, bd123, bd124, bd125, bd126, bd127, bd128, bd129, bd130, bd131, bd132, bd133, bd134, bd135, bd136, bd137, bd138, bd139, bd140, bd141, bd144, bd145, bd146, bd147, bd148, bd150, bd151, bd152, bd153, bd154, bd155, bd156, bd157, bd161, bd162, bd163, bd164, bd167, bd168, bd169, bd170, bd171, bd183, bd184, bd185, bd186, bd187, bd188, bd189, bd190, bd191, bd192, bd193, bd194, bd195, bd196, bd197, bd198, bd201, bd202, bd203, bd205, bd206, bd207, bd208, bd209, bd214, bd215, bd216, bd217, bd218, bd219, bd221, bd222, bd225, bd226, bd227, bd234, bd235, bd236, bd237, bd240, bd241, bd242, bd243, bd244, bd245, bd246, bd247, bd248, bd249, bd252, bd254, bd259, bd269, bd271, bd272, bd273, bd274, bd275, bd276, bd277, bd278, bd285, bd290, bd291, bd292, bd293, bd294, trivial⟩
theorem ext_ok : ExtOk cx := by
  refine ext_table (l := [(213, 1), (253, 2), (282, 3)]) rfl fun p hp => ?_
  rcases List.mem_cons.1 hp with rfl | hp
  · exact item_index Tryz.func213 (by kernel_rfl) (by kernel_rfl) (by kernel_rfl) (by kernel_rfl)
  rcases List.mem_cons.1 hp with rfl | hp
  · exact item_same Tryz.func253 (by kernel_rfl) (by kernel_rfl) (by kernel_rfl) (by kernel_rfl)
  rcases List.mem_cons.1 hp with rfl | hp
  · exact item_nozero (ps := #[3]) (t := 236) (e := 5) Tryz.func282 (by kernel_rfl) (by kernel_rfl) (by kernel_rfl) (by kernel_rfl) Tryz.underlying236 (show cx.P.info? 5 = some (cx.P.info? 5).get! from (by kernel_rfl)) (by kernel_rfl) (by kernel_rfl)
  cases hp
theorem prog_ok : ProgOk cx := ⟨by kernel_rfl, ext_ok, fm_ok2 rfl bds⟩
theorem ok3 : EntOk cx tree0.get 3 := .inl ⟨Tryz.f3, Tryz.func3, by rw [tr3]; kernel_rfl⟩
theorem ok5 : EntOk cx tree0.get 5 := .inl ⟨Tryz.f5, Tryz.func5, by rw [tr5]; kernel_rfl⟩
theorem ok6 : EntOk cx tree0.get 6 := .inl ⟨Tryz.f6, Tryz.func6, by rw [tr6]; kernel_rfl⟩
theorem ok7 : EntOk cx tree0.get 7 := .inl ⟨Tryz.f7, Tryz.func7, by rw [tr7]; kernel_rfl⟩
theorem ok8 : EntOk cx tree0.get 8 := .inl ⟨Tryz.f8, Tryz.func8, by rw [tr8]; kernel_rfl⟩
theorem ok9 : EntOk cx tree0.get 9 := .inl ⟨Tryz.f9, Tryz.func9, by rw [tr9]; kernel_rfl⟩
theorem ok10 : EntOk cx tree0.get 10 := .inl ⟨Tryz.f10, Tryz.func10, by rw [tr10]; kernel_rfl⟩
theorem ok15 : EntOk cx tree0.get 15 := .inl ⟨Tryz.f15, Tryz.func15, by rw [tr15]; kernel_rfl⟩
theorem ok16 : EntOk cx tree0.get 16 := .inl ⟨Tryz.f16, Tryz.func16, by rw [tr16]; kernel_rfl⟩
theorem ok17 : EntOk cx tree0.get 17 := .inl ⟨Tryz.f17, Tryz.func17, by rw [tr17]; kernel_rfl⟩
theorem ok18 : EntOk cx tree0.get 18 := .inl ⟨Tryz.f18, Tryz.func18, by rw [tr18]; kernel_rfl⟩
theorem ok19 : EntOk cx tree0.get 19 := .inl ⟨Tryz.f19, Tryz.func19, by rw [tr19]; kernel_rfl⟩
theorem ok20 : EntOk cx tree0.get 20 := .inl ⟨Tryz.f20, Tryz.func20, by rw [tr20]; kernel_rfl⟩
theorem ok21 : EntOk cx tree0.get 21 := .inl ⟨Tryz.f21, Tryz.func21, by rw [tr21]; kernel_rfl⟩
theorem ok24 : EntOk cx tree0.get 24 := .inl ⟨Tryz.f24, Tryz.func24, by rw [tr24]; kernel_rfl⟩
theorem ok25 : EntOk cx tree0.get 25 := .inl ⟨Tryz.f25, Tryz.func25, by rw [tr25]; kernel_rfl⟩
theorem ok26 : EntOk cx tree0.get 26 := .inl ⟨Tryz.f26, Tryz.func26, by rw [tr26]; kernel_rfl⟩
theorem ok27 : EntOk cx tree0.get 27 := .inl ⟨Tryz.f27, Tryz.func27, by rw [tr27]; kernel_rfl⟩
theorem ok29 : EntOk cx tree0.get 29 := .inl ⟨Tryz.f29, Tryz.func29, by rw [tr29]; kernel_rfl⟩
theorem ok30 : EntOk cx tree0.get 30 := .inl ⟨Tryz.f30, Tryz.func30, by rw [tr30]; kernel_rfl⟩
theorem ok31 : EntOk cx tree0.get 31 := .inl ⟨Tryz.f31, Tryz.func31, by rw [tr31]; kernel_rfl⟩
theorem ok32 : EntOk cx tree0.get 32 := .inl ⟨Tryz.f32, Tryz.func32, by rw [tr32]; kernel_rfl⟩
theorem ok33 : EntOk cx tree0.get 33 := .inl ⟨Tryz.f33, Tryz.func33, by rw [tr33]; kernel_rfl⟩
theorem ok34 : EntOk cx tree0.get 34 := .inl ⟨Tryz.f34, Tryz.func34, by rw [tr34]; kernel_rfl⟩
theorem ok35 : EntOk cx tree0.get 35 := .inl ⟨Tryz.f35, Tryz.func35, by rw [tr35]; kernel_rfl⟩
theorem ok36 : EntOk cx tree0.get 36 := .inl ⟨Tryz.f36, Tryz.func36, by rw [tr36]; kernel_rfl⟩
theorem ok37 : EntOk cx tree0.get 37 := .inl ⟨Tryz.f37, Tryz.func37, by rw [tr37]; kernel_rfl⟩
theorem ok38 : EntOk cx tree0.get 38 := .inl ⟨Tryz.f38, Tryz.func38, by rw [tr38]; kernel_rfl⟩
theorem ok39 : EntOk cx tree0.get 39 := .inl ⟨Tryz.f39, Tryz.func39, by rw [tr39]; kernel_rfl⟩
theorem ok40 : EntOk cx tree0.get 40 := .inl ⟨Tryz.f40, Tryz.func40, by rw [tr40]; kernel_rfl⟩
theorem ok41 : EntOk cx tree0.get 41 := .inl ⟨Tryz.f41, Tryz.func41, by rw [tr41]; kernel_rfl⟩
theorem ok42 : EntOk cx tree0.get 42 := .inl ⟨Tryz.f42, Tryz.func42, by rw [tr42]; kernel_rfl⟩
theorem ok43 : EntOk cx tree0.get 43 := .inl ⟨Tryz.f43, Tryz.func43, by rw [tr43]; kernel_rfl⟩
theorem ok45 : EntOk cx tree0.get 45 := .inl ⟨Tryz.f45, Tryz.func45, by rw [tr45]; kernel_rfl⟩
theorem ok46 : EntOk cx tree0.get 46 := .inl ⟨Tryz.f46, Tryz.func46, by rw [tr46]; kernel_rfl⟩
theorem ok47 : EntOk cx tree0.get 47 := .inl ⟨Tryz.f47, Tryz.func47, by rw [tr47]; kernel_rfl⟩
theorem ok48 : EntOk cx tree0.get 48 := .inl ⟨Tryz.f48, Tryz.func48, by rw [tr48]; kernel_rfl⟩
theorem ok50 : EntOk cx tree0.get 50 := .inl ⟨Tryz.f50, Tryz.func50, by rw [tr50]; kernel_rfl⟩
theorem ok51 : EntOk cx tree0.get 51 := .inl ⟨Tryz.f51, Tryz.func51, by rw [tr51]; kernel_rfl⟩
theorem ok52 : EntOk cx tree0.get 52 := .inl ⟨Tryz.f52, Tryz.func52, by rw [tr52]; kernel_rfl⟩
theorem ok53 : EntOk cx tree0.get 53 := .inl ⟨Tryz.f53, Tryz.func53, by rw [tr53]; kernel_rfl⟩
theorem ok54 : EntOk cx tree0.get 54 := .inl ⟨Tryz.f54, Tryz.func54, by rw [tr54]; kernel_rfl⟩
theorem ok55 : EntOk cx tree0.get 55 := .inl ⟨Tryz.f55, Tryz.func55, by rw [tr55]; kernel_rfl⟩
theorem ok56 : EntOk cx tree0.get 56 := .inl ⟨Tryz.f56, Tryz.func56, by rw [tr56]; kernel_rfl⟩
theorem ok57 : EntOk cx tree0.get 57 := .inl ⟨Tryz.f57, Tryz.func57, by rw [tr57]; kernel_rfl⟩
theorem ok58 : EntOk cx tree0.get 58 := .inl ⟨Tryz.f58, Tryz.func58, by rw [tr58]; kernel_rfl⟩
theorem ok59 : EntOk cx tree0.get 59 := .inl ⟨Tryz.f59, Tryz.func59, by rw [tr59]; kernel_rfl⟩
theorem ok60 : EntOk cx tree0.get 60 := .inl ⟨Tryz.f60, Tryz.func60, by rw [tr60]; kernel_rfl⟩
theorem ok61 : EntOk cx tree0.get 61 := .inl ⟨Tryz.f61, Tryz.func61, by rw [tr61]; kernel_rfl⟩
theorem ok64 : EntOk cx tree0.get 64 := .inl ⟨Tryz.f64, Tryz.func64, by rw [tr64]; kernel_rfl⟩
theorem ok66 : EntOk cx tree0.get 66 := .inl ⟨Tryz.f66, Tryz.func66, by rw [tr66]; kernel_rfl⟩
theorem ok67 : EntOk cx tree0.get 67 := .inl ⟨Tryz.f67, Tryz.func67, by rw [tr67]; kernel_rfl⟩
theorem ok68 : EntOk cx tree0.get 68 := .inl ⟨Tryz.f68, Tryz.func68, by rw [tr68]; kernel_rfl⟩
theorem ok69 : EntOk cx tree0.get 69 := .inl ⟨Tryz.f69, Tryz.func69, by rw [tr69]; kernel_rfl⟩
theorem ok70 : EntOk cx tree0.get 70 := .inl ⟨Tryz.f70, Tryz.func70, by rw [tr70]; kernel_rfl⟩
theorem ok71 : EntOk cx tree0.get 71 := .inl ⟨Tryz.f71, Tryz.func71, by rw [tr71]; kernel_rfl⟩
theorem ok72 : EntOk cx tree0.get 72 := .inl ⟨Tryz.f72, Tryz.func72, by rw [tr72]; kernel_rfl⟩
theorem ok73 : EntOk cx tree0.get 73 := .inl ⟨Tryz.f73, Tryz.func73, by rw [tr73]; kernel_rfl⟩
theorem ok74 : EntOk cx tree0.get 74 := .inl ⟨Tryz.f74, Tryz.func74, by rw [tr74]; kernel_rfl⟩
theorem ok75 : EntOk cx tree0.get 75 := .inl ⟨Tryz.f75, Tryz.func75, by rw [tr75]; kernel_rfl⟩
theorem ok76 : EntOk cx tree0.get 76 := .inl ⟨Tryz.f76, Tryz.func76, by rw [tr76]; kernel_rfl⟩
theorem ok77 : EntOk cx tree0.get 77 := .inl ⟨Tryz.f77, Tryz.func77, by rw [tr77]; kernel_rfl⟩
theorem ok78 : EntOk cx tree0.get 78 := .inl ⟨Tryz.f78, Tryz.func78, by rw [tr78]; kernel_rfl⟩
theorem ok80 : EntOk cx tree0.get 80 := .inl ⟨Tryz.f80, Tryz.func80, by rw [tr80]; kernel_rfl⟩
theorem ok81 : EntOk cx tree0.get 81 := .inl ⟨Tryz.f81, Tryz.func81, by rw [tr81]; kernel_rfl⟩
theorem ok82 : EntOk cx tree0.get 82 := .inl ⟨Tryz.f82, Tryz.func82, by rw [tr82]; kernel_rfl⟩
theorem ok83 : EntOk cx tree0.get 83 := ent_make prog_ok rfl (by decide) Tryz.func83 tr83 (by kernel_rfl)
theorem ok84 : EntOk cx tree0.get 84 := .inl ⟨Tryz.f84, Tryz.func84, by rw [tr84]; kernel_rfl⟩
theorem ok85 : EntOk cx tree0.get 85 := .inl ⟨Tryz.f85, Tryz.func85, by rw [tr85]; kernel_rfl⟩
theorem ok86 : EntOk cx tree0.get 86 := .inl ⟨Tryz.f86, Tryz.func86, by rw [tr86]; kernel_rfl⟩
theorem ok87 : EntOk cx tree0.get 87 := .inl ⟨Tryz.f87, Tryz.func87, by rw [tr87]; kernel_rfl⟩
theorem ok88 : EntOk cx tree0.get 88 := .inl ⟨Tryz.f88, Tryz.func88, by rw [tr88]; kernel_rfl⟩
theorem ok89 : EntOk cx tree0.get 89 := .inl ⟨Tryz.f89, Tryz.func89, by rw [tr89]; kernel_rfl⟩
theorem ok92 : EntOk cx tree0.get 92 := .inl ⟨Tryz.f92, Tryz.func92, by rw [tr92]; kernel_rfl⟩
theorem ok93 : EntOk cx tree0.get 93 := .inl ⟨Tryz.f93, Tryz.func93, by rw [tr93]; kernel_rfl⟩
theorem ok96 : EntOk cx tree0.get 96 := .inl ⟨Tryz.f96, Tryz.func96, by rw [tr96]; kernel_rfl⟩
theorem ok97 : EntOk cx tree0.get 97 := .inl ⟨Tryz.f97, Tryz.func97, by rw [tr97]; kernel_rfl⟩
theorem ok99 : EntOk cx tree0.get 99 := .inl ⟨Tryz.f99, Tryz.func99, by rw [tr99]; kernel_rfl⟩
theorem ok100 : EntOk cx tree0.get 100 := .inl ⟨Tryz.f100, Tryz.func100, by rw [tr100]; kernel_rfl⟩
theorem ok101 : EntOk cx tree0.get 101 := .inl ⟨Tryz.f101, Tryz.func101, by rw [tr101]; kernel_rfl⟩
theorem ok102 : EntOk cx tree0.get 102 := .inl ⟨Tryz.f102, Tryz.func102, by rw [tr102]; kernel_rfl⟩
theorem ok104 : EntOk cx tree0.get 104 := .inl ⟨Tryz.f104, Tryz.func104, by rw [tr104]; kernel_rfl⟩
theorem ok105 : EntOk cx tree0.get 105 := .inl ⟨Tryz.f105, Tryz.func105, by rw [tr105]; kernel_rfl⟩
theorem ok106 : EntOk cx tree0.get 106 := .inl ⟨Tryz.f106, Tryz.func106, by rw [tr106]; kernel_rfl⟩
theorem ok107 : EntOk cx tree0.get 107 := .inl ⟨Tryz.f107, Tryz.func107, by rw [tr107]; kernel_rfl⟩
theorem ok108 : EntOk cx tree0.get 108 := .inl ⟨Tryz.f108, Tryz.func108, by rw [tr108]; kernel_rfl⟩
theorem ok109 : EntOk cx tree0.get 109 := .inl ⟨Tryz.f109, Tryz.func109, by rw [tr109]; kernel_rfl⟩
theorem ok110 : EntOk cx tree0.get 110 := .inl ⟨Tryz.f110, Tryz.func110, by rw [tr110]; kernel_rfl⟩
theorem ok112 : EntOk cx tree0.get 112 := .inl ⟨Tryz.f112, Tryz.func112, by rw [tr112]; kernel_rfl⟩
theorem ok113 : EntOk cx tree0.get 113 := .inl ⟨Tryz.f113, Tryz.func113, by rw [tr113]; kernel_rfl⟩
theorem ok114 : EntOk cx tree0.get 114 := .inl ⟨Tryz.f114, Tryz.func114, by rw [tr114]; kernel_rfl⟩
theorem ok115 : EntOk cx tree0.get 115 := .inl ⟨Tryz.f115, Tryz.func115, by rw [tr115]; kernel_rfl⟩
theorem ok116 : EntOk cx tree0.get 116 := .inl ⟨Tryz.f116, Tryz.func116, by rw [tr116]; kernel_rfl⟩
theorem ok117 : EntOk cx tree0.get 117 := .inl ⟨Tryz.f117, Tryz.func117, by rw [tr117]; kernel_rfl⟩
theorem ok120 : EntOk cx tree0.get 120 := .inl ⟨Tryz.f120, Tryz.func120, by rw [tr120]; kernel_rfl⟩
theorem ok121 : EntOk cx tree0.get 121 := .inl ⟨Tryz.f121, Tryz.func121, by rw [tr121]; kernel_rfl⟩
theorem ok122 : EntOk cx tree0.get 122 := .inl ⟨Tryz.f122, Tryz.func122, by rw [tr122]; kernel_rfl⟩
theorem ok123 : EntOk cx tree0.get 123 := .inl ⟨Tryz.f123, Tryz.func123, by rw [tr123]; kernel_rfl⟩
theorem ok124 : EntOk cx tree0.get 124 := .inl ⟨Tryz.f124, Tryz.func124, by rw [tr124]; kernel_rfl⟩
theorem ok125 : EntOk cx tree0.get 125 := .inl ⟨Tryz.f125, Tryz.func125, by rw [tr125]; kernel_rfl⟩
theorem ok126 : EntOk cx tree0.get 126 := .inl ⟨Tryz.f126, Tryz.func126, by rw [tr126]; kernel_rfl⟩
theorem ok127 : EntOk cx tree0.get 127 := .inl ⟨Tryz.f127, Tryz.func127, by rw [tr127]; kernel_rfl⟩
theorem ok128 : EntOk cx tree0.get 128 := .inl ⟨Tryz.f128, Tryz.func128, by rw [tr128]; kernel_rfl⟩
theorem ok129 : EntOk cx tree0.get 129 := .inl ⟨Tryz.f129, Tryz.func129, by rw [tr129]; kernel_rfl⟩
theorem ok130 : EntOk cx tree0.get 130 := .inl ⟨Tryz.f130, Tryz.func130, by rw [tr130]; kernel_rfl⟩
theorem ok131 : EntOk cx tree0.get 131 := .inl ⟨Tryz.f131, Tryz.func131, by rw [tr131]; kernel_rfl⟩
theorem ok132 : EntOk cx tree0.get 132 := .inl ⟨Tryz.f132, Tryz.func132, by rw [tr132]; kernel_rfl⟩
theorem ok133 : EntOk cx tree0.get 133 := .inl ⟨Tryz.f133, Tryz.func133, by rw [tr133]; kernel_rfl⟩
theorem ok134 : EntOk cx tree0.get 134 := .inl ⟨Tryz.f134, Tryz.func134, by rw [tr134]; kernel_rfl⟩
theorem ok135 : EntOk cx tree0.get 135 := .inl ⟨Tryz.f135, Tryz.func135, by rw [tr135]; kernel_rfl⟩
theorem ok136 : EntOk cx tree0.get 136 := .inl ⟨Tryz.f136, Tryz.func136, by rw [tr136]; kernel_rfl⟩
theorem ok137 : EntOk cx tree0.get 137 := .inl ⟨Tryz.f137, Tryz.func137, by rw [tr137]; kernel_rfl⟩
theorem ok138 : EntOk cx tree0.get 138 := .inl ⟨Tryz.f138, Tryz.func138, by rw [tr138]; kernel_rfl⟩
theorem ok139 : EntOk cx tree0.get 139 := .inl ⟨Tryz.f139, Tryz.func139, by rw [tr139]; kernel_rfl⟩
theorem ok140 : EntOk cx tree0.get 140 := .inl ⟨Tryz.f140, Tryz.func140, by rw [tr140]; kernel_rfl⟩
theorem ok141 : EntOk cx tree0.get 141 := .inl ⟨Tryz.f141, Tryz.func141, by rw [tr141]; kernel_rfl⟩
theorem ok144 : EntOk cx tree0.get 144 := .inl ⟨Tryz.f144, Tryz.func144, by rw [tr144]; kernel_rfl⟩
theorem ok145 : EntOk cx tree0.get 145 := .inl ⟨Tryz.f145, Tryz.func145, by rw [tr145]; kernel_rfl⟩
theorem ok146 : EntOk cx tree0.get 146 := .inl ⟨Tryz.f146, Tryz.func146, by rw [tr146]; kernel_rfl⟩
theorem ok147 : EntOk cx tree0.get 147 := .inl ⟨Tryz.f147, Tryz.func147, by rw [tr147]; kernel_rfl⟩
theorem ok148 : EntOk cx tree0.get 148 := .inl ⟨Tryz.f148, Tryz.func148, by rw [tr148]; kernel_rfl⟩
theorem ok150 : EntOk cx tree0.get 150 := .inl ⟨Tryz.f150, Tryz.func150, by rw [tr150]; kernel_rfl⟩
theorem ok151 : EntOk cx tree0.get 151 := .inl ⟨Tryz.f151, Tryz.func151, by rw [tr151]; kernel_rfl⟩
theorem ok152 : EntOk cx tree0.get 152 := .inl ⟨Tryz.f152, Tryz.func152, by rw [tr152]; kernel_rfl⟩
theorem ok153 : EntOk cx tree0.get 153 := .inl ⟨Tryz.f153, Tryz.func153, by rw [tr153]; kernel_rfl⟩
theorem ok154 : EntOk cx tree0.get 154 := .inl ⟨Tryz.f154, Tryz.func154, by rw [tr154]; kernel_rfl⟩
theorem ok155 : EntOk cx tree0.get 155 := .inl ⟨Tryz.f155, Tryz.func155, by rw [tr155]; kernel_rfl⟩
theorem ok156 : EntOk cx tree0.get 156 := .inl ⟨Tryz.f156, Tryz.func156, by rw [tr156]; kernel_rfl⟩
theorem ok157 : EntOk cx tree0.get 157 := .inl ⟨Tryz.f157, Tryz.func157, by rw [tr157]; kernel_rfl⟩
theorem ok161 : EntOk cx tree0.get 161 := .inl ⟨Tryz.f161, Tryz.func161, by rw [tr161]; kernel_rfl⟩
theorem ok162 : EntOk cx tree0.get 162 := .inl ⟨Tryz.f162, Tryz.func162, by rw [tr162]; kernel_rfl⟩
theorem ok163 : EntOk cx tree0.get 163 := .inl ⟨Tryz.f163, Tryz.func163, by rw [tr163]; kernel_rfl⟩
theorem ok164 : EntOk cx tree0.get 164 := .inl ⟨Tryz.f164, Tryz.func164, by rw [tr164]; kernel_rfl⟩
theorem ok167 : EntOk cx tree0.get 167 := .inl ⟨Tryz.f167, Tryz.func167, by rw [tr167]; kernel_rfl⟩
theorem ok168 : EntOk cx tree0.get 168 := .inl ⟨Tryz.f168, Tryz.func168, by rw [tr168]; kernel_rfl⟩
theorem ok169 : EntOk cx tree0.get 169 := .inl ⟨Tryz.f169, Tryz.func169, by rw [tr169]; kernel_rfl⟩
theorem ok170 : EntOk cx tree0.get 170 := .inl ⟨Tryz.f170, Tryz.func170, by rw [tr170]; kernel_rfl⟩
theorem ok171 : EntOk cx tree0.get 171 := .inl ⟨Tryz.f171, Tryz.func171, by rw [tr171]; kernel_rfl⟩
theorem ok183 : EntOk cx tree0.get 183 := .inl ⟨Tryz.f183, Tryz.func183, by rw [tr183]; kernel_rfl⟩
theorem ok184 : EntOk cx tree0.get 184 := .inl ⟨Tryz.f184, Tryz.func184, by rw [tr184]; kernel_rfl⟩
theorem ok185 : EntOk cx tree0.get 185 := .inl ⟨Tryz.f185, Tryz.func185, by rw [tr185]; kernel_rfl⟩
theorem ok186 : EntOk cx tree0.get 186 := .inl ⟨Tryz.f186, Tryz.func186, by rw [tr186]; kernel_rfl⟩
theorem ok187 : EntOk cx tree0.get 187 := .inl ⟨Tryz.f187, Tryz.func187, by rw [tr187]; kernel_rfl⟩
theorem ok188 : EntOk cx tree0.get 188 := .inl ⟨Tryz.f188, Tryz.func188, by rw [tr188]; kernel_rfl⟩
theorem ok189 : EntOk cx tree0.get 189 := .inl ⟨Tryz.f189, Tryz.func189, by rw [tr189]; kernel_rfl⟩
theorem ok190 : EntOk cx tree0.get 190 := .inl ⟨Tryz.f190, Tryz.func190, by rw [tr190]; kernel_rfl⟩
theorem ok191 : EntOk cx tree0.get 191 := .inl ⟨Tryz.f191, Tryz.func191, by rw [tr191]; kernel_rfl⟩
theorem ok192 : EntOk cx tree0.get 192 := .inl ⟨Tryz.f192, Tryz.func192, by rw [tr192]; kernel_rfl⟩
theorem ok193 : EntOk cx tree0.get 193 := .inl ⟨Tryz.f193, Tryz.func193, by rw [tr193]; kernel_rfl⟩
theorem ok194 : EntOk cx tree0.get 194 := .inl ⟨Tryz.f194, Tryz.func194, by rw [tr194]; kernel_rfl⟩
theorem ok195 : EntOk cx tree0.get 195 := .inl ⟨Tryz.f195, Tryz.func195, by rw [tr195]; kernel_rfl⟩
theorem ok196 : EntOk cx tree0.get 196 := .inl ⟨Tryz.f196, Tryz.func196, by rw [tr196]; kernel_rfl⟩
theorem ok197 : EntOk cx tree0.get 197 := .inl ⟨Tryz.f197, Tryz.func197, by rw [tr197]; kernel_rfl⟩
theorem ok198 : EntOk cx tree0.get 198 := .inl ⟨Tryz.f198, Tryz.func198, by rw [tr198]; kernel_rfl⟩
theorem ok201 : EntOk cx tree0.get 201 := .inl ⟨Tryz.f201, Tryz.func201, by rw [tr201]; kernel_rfl⟩
theorem ok202 : EntOk cx tree0.get 202 := .inl ⟨Tryz.f202, Tryz.func202, by rw [tr202]; kernel_rfl⟩
theorem ok203 : EntOk cx tree0.get 203 := .inl ⟨Tryz.f203, Tryz.func203, by rw [tr203]; kernel_rfl⟩
theorem ok205 : EntOk cx tree0.get 205 := .inl ⟨Tryz.f205, Tryz.func205, by rw [tr205]; kernel_rfl⟩
theorem ok206 : EntOk cx tree0.get 206 := .inl ⟨Tryz.f206, Tryz.func206, by rw [tr206]; kernel_rfl⟩
theorem ok207 : EntOk cx tree0.get 207 := .inl ⟨Tryz.f207, Tryz.func207, by rw [tr207]; kernel_rfl⟩
theorem ok208 : EntOk cx tree0.get 208 := .inl ⟨Tryz.f208, Tryz.func208, by rw [tr208]; kernel_rfl⟩
theorem ok209 : EntOk cx tree0.get 209 := .inl ⟨Tryz.f209, Tryz.func209, by rw [tr209]; kernel_rfl⟩
theorem ok214 : EntOk cx tree0.get 214 := .inl ⟨Tryz.f214, Tryz.func214, by rw [tr214]; kernel_rfl⟩
theorem ok215 : EntOk cx tree0.get 215 := .inl ⟨Tryz.f215, Tryz.func215, by rw [tr215]; kernel_rfl⟩
theorem ok216 : EntOk cx tree0.get 216 := .inl ⟨Tryz.f216, Tryz.func216, by rw [tr216]; kernel_rfl⟩
theorem ok217 : EntOk cx tree0.get 217 := .inl ⟨Tryz.f217, Tryz.func217, by rw [tr217]; kernel_rfl⟩
theorem ok218 : EntOk cx tree0.get 218 := .inl ⟨Tryz.f218, Tryz.func218, by rw [tr218]; kernel_rfl⟩
theorem ok219 : EntOk cx tree0.get 219 := .inl ⟨Tryz.f219, Tryz.func219, by rw [tr219]; kernel_rfl⟩
theorem ok221 : EntOk cx tree0.get 221 := .inl ⟨Tryz.f221, Tryz.func221, by rw [tr221]; kernel_rfl⟩
theorem ok222 : EntOk cx tree0.get 222 := .inl ⟨Tryz.f222, Tryz.func222, by rw [tr222]; kernel_rfl⟩
theorem ok225 : EntOk cx tree0.get 225 := .inl ⟨Tryz.f225, Tryz.func225, by rw [tr225]; kernel_rfl⟩
theorem ok226 : EntOk cx tree0.get 226 := .inl ⟨Tryz.f226, Tryz.func226, by rw [tr226]; kernel_rfl⟩
theorem ok227 : EntOk cx tree0.get 227 := .inl ⟨Tryz.f227, Tryz.func227, by rw [tr227]; kernel_rfl⟩
theorem ok234 : EntOk cx tree0.get 234 := .inl ⟨Tryz.f234, Tryz.func234, by rw [tr234]; kernel_rfl⟩
theorem ok235 : EntOk cx tree0.get 235 := .inl ⟨Tryz.f235, Tryz.func235, by rw [tr235]; kernel_rfl⟩
theorem ok236 : EntOk cx tree0.get 236 := .inl ⟨Tryz.f236, Tryz.func236, by rw [tr236]; kernel_rfl⟩
theorem ok237 : EntOk cx tree0.get 237 := .inl ⟨Tryz.f237, Tryz.func237, by rw [tr237]; kernel_rfl⟩
theorem ok240 : EntOk cx tree0.get 240 := .inl ⟨Tryz.f240, Tryz.func240, by rw [tr240]; kernel_rfl⟩
theorem ok241 : EntOk cx tree0.get 241 := .inl ⟨Tryz.f241, Tryz.func241, by rw [tr241]; kernel_rfl⟩
theorem ok242 : EntOk cx tree0.get 242 := .inl ⟨Tryz.f242, Tryz.func242, by rw [tr242]; kernel_rfl⟩
theorem ok243 : EntOk cx tree0.get 243 := .inl ⟨Tryz.f243, Tryz.func243, by rw [tr243]; kernel_rfl⟩
theorem ok244 : EntOk cx tree0.get 244 := .inl ⟨Tryz.f244, Tryz.func244, by rw [tr244]; kernel_rfl⟩
theorem ok245 : EntOk cx tree0.get 245 := .inl ⟨Tryz.f245, Tryz.func245, by rw [tr245]; kernel_rfl⟩
theorem ok246 : EntOk cx tree0.get 246 := .inl ⟨Tryz.f246, Tryz.func246, by rw [tr246]; kernel_rfl⟩
theorem ok247 : EntOk cx tree0.get 247 := .inl ⟨Tryz.f247, Tryz.func247, by rw [tr247]; kernel_rfl⟩
theorem ok248 : EntOk cx tree0.get 248 := .inl ⟨Tryz.f248, Tryz.func248, by rw [tr248]; kernel_rfl⟩
theorem ok249 : EntOk cx tree0.get 249 := .inl ⟨Tryz.f249, Tryz.func249, by rw [tr249]; kernel_rfl⟩
theorem ok252 : EntOk cx tree0.get 252 := .inl ⟨Tryz.f252, Tryz.func252, by rw [tr252]; kernel_rfl⟩
theorem ok254 : EntOk cx tree0.get 254 := .inl ⟨Tryz.f254, Tryz.func254, by rw [tr254]; kernel_rfl⟩
theorem ok259 : EntOk cx tree0.get 259 := .inl ⟨Tryz.f259, Tryz.func259, by rw [tr259]; kernel_rfl⟩
theorem ok269 : EntOk cx tree0.get 269 := .inl ⟨Tryz.f269, Tryz.func269, by rw [tr269]; kernel_rfl⟩
theorem ok271 : EntOk cx tree0.get 271 := .inl ⟨Tryz.f271, Tryz.func271, by rw [tr271]; kernel_rfl⟩
theorem ok272 : EntOk cx tree0.get 272 := .inl ⟨Tryz.f272, Tryz.func272, by rw [tr272]; kernel_rfl⟩
theorem ok273 : EntOk cx tree0.get 273 := .inl ⟨Tryz.f273, Tryz.func273, by rw [tr273]; kernel_rfl⟩
theorem ok274 : EntOk cx tree0.get 274 := .inl ⟨Tryz.f274, Tryz.func274, by rw [tr274]; kernel_rfl⟩
theorem ok275 : EntOk cx tree0.get 275 := .inl ⟨Tryz.f275, Tryz.func275, by rw [tr275]; kernel_rfl⟩
theorem ok276 : EntOk cx tree0.get 276 := .inl ⟨Tryz.f276, Tryz.func276, by rw [tr276]; kernel_rfl⟩
theorem ok277 : EntOk cx tree0.get 277 := .inl ⟨Tryz.f277, Tryz.func277, by rw [tr277]; kernel_rfl⟩
theorem ok278 : EntOk cx tree0.get 278 := .inl ⟨Tryz.f278, Tryz.func278, by rw [tr278]; kernel_rfl⟩
theorem ok285 : EntOk cx tree0.get 285 := .inl ⟨Tryz.f285, Tryz.func285, by rw [tr285]; kernel_rfl⟩
theorem ok290 : EntOk cx tree0.get 290 := .inl ⟨Tryz.f290, Tryz.func290, by rw [tr290]; kernel_rfl⟩
theorem ok291 : EntOk cx tree0.get 291 := .inl ⟨Tryz.f291, Tryz.func291, by rw [tr291]; kernel_rfl⟩
theorem ok292 : EntOk cx tree0.get 292 := .inl ⟨Tryz.f292, Tryz.func292, by rw [tr292]; kernel_rfl⟩
theorem ok293 : EntOk cx tree0.get 293 := .inl ⟨Tryz.f293, Tryz.func293, by rw [tr293]; kernel_rfl⟩
theorem ok294 : EntOk cx tree0.get 294 := .inl ⟨Tryz.f294, Tryz.func294, by rw [tr294]; kernel_rfl⟩
theorem oks : AllOf (EntOk cx tree0.get) nums := ⟨ok3, ok5, ok6, ok7, ok8, ok9, ok10, ok15, ok16, ok17, ok18, ok19, ok20, ok21, ok24, ok25, ok26, ok27, ok29, ok30, ok31, ok32, ok33, ok34, ok35, ok36, ok37, ok38, ok39, ok40, ok41, ok42, ok43, ok45, ok46, ok47, ok48, ok50, ok51, ok52, ok53, ok54, ok55, ok56, ok57, ok58, ok59, ok60, ok61, ok64, ok66, ok67, ok68, ok69, ok70, ok71, ok72, ok73, ok74, ok75, ok76, ok77, ok78, ok80, ok81, ok82, ok83, ok84, ok85, ok86, ok87, ok88, ok89, ok92, ok93, ok96, ok97, ok99, ok100, ok101, ok102, ok104, ok105, ok106, ok107, ok108, ok109, ok110, ok112, ok113, ok114, ok115, ok116, ok117, ok120, ok121, ok122, ok123, ok124, ok125, ok126, ok127, ok128, ok129, ok130, ok131, ok132, ok133, ok134, ok135, ok136, ok137, ok138, ok139, ok140, ok141, ok144, ok145, ok146, ok147, ok148, ok150, ok151, ok152, ok153, ok154, ok155, ok156, ok157, ok161, ok162, ok163, ok164, ok167, ok168, ok169, ok170, ok171, ok183, ok184, ok185, ok186, ok187, ok188, ok189, ok190, ok191, ok192, ok193, ok194, ok195, ok196, ok197, ok198, ok201, ok202, ok203, ok205, ok206, ok207, ok208, ok209, ok214, ok215, ok216, ok217, ok218, ok219, ok221, ok222, ok225, ok226, ok227, ok234, ok235, ok236, ok237, ok240, ok241, ok242, ok243, ok244, ok245, ok246, ok247, ok248, ok249, ok252, ok254, ok259, ok269, ok271, ok272, ok273, ok274, ok275, ok276, ok277, ok278, ok285, ok290, ok291, ok292, ok293, ok294, trivial⟩
theorem lib_ok0 : LibOk cx tree0.get := lib_ok2 rfl oks
theorem run_depotlaw24_ClusterRuns : isTrue (call tree0.get 900 3 [] noHeap) = true := Fs.isTrue_of (mk := 83) (by kernel_rfl) (by decide +kernel)
theorem walk_depotlaw24_ClusterRuns (w : World) : Calls cx.P 3 #[] w fun e w' => e = .returned (.bool true) ∧ Go.RowKit.Below w.heap.size w w' :=
  run_closed prog_ok lib_ok0 (fun _ => rfl) (g := 3) (f := 3) rfl run_depotlaw24_ClusterRuns w
end R
def lib : Lib := fun f => bif Nat.beq f 3 then some (.prim runsPrim) else tree0.get f
theorem lk3 : EntOk cx lib 3 := ent_runs (fun w => R.walk_depotlaw24_ClusterRuns w) rfl
theorem lk4 : EntOk cx lib 4 := .inl ⟨Tryz.f4, Tryz.func4, by rw [tr_depotlaw24_ClusterIgnores]; kernel_rfl⟩
theorem at_depotlaw24_ClusterIgnores : lib n_depotlaw24_ClusterIgnores = some (.code pf_depotlaw24_ClusterIgnores) := by kernel_rfl
theorem lk5 : EntOk cx lib 5 := .inl ⟨Tryz.f5, Tryz.func5, by rw [tr_cluster_New]; kernel_rfl⟩
theorem at_cluster_New : lib n_cluster_New = some (.code pf_cluster_New) := by kernel_rfl
theorem lk6 : EntOk cx lib 6 := .inl ⟨Tryz.f6, Tryz.func6, by rw [tr_depotlaw24_ClusterRuns_1]; kernel_rfl⟩
theorem at_depotlaw24_ClusterRuns_1 : lib n_depotlaw24_ClusterRuns_1 = some (.code pf_depotlaw24_ClusterRuns_1) := by kernel_rfl
theorem lk7 : EntOk cx lib 7 := .inl ⟨Tryz.f7, Tryz.func7, by rw [tr_cluster_Cluster_Do]; kernel_rfl⟩
theorem at_cluster_Cluster_Do : lib n_cluster_Cluster_Do = some (.code pf_cluster_Cluster_Do) := by kernel_rfl
theorem lk8 : EntOk cx lib 8 := .inl ⟨Tryz.f8, Tryz.func8, by rw [tr_cluster_Cluster_Said]; kernel_rfl⟩
theorem at_cluster_Cluster_Said : lib n_cluster_Cluster_Said = some (.code pf_cluster_Cluster_Said) := by kernel_rfl
theorem lk9 : EntOk cx lib 9 := .inl ⟨Tryz.f9, Tryz.func9, by rw [tr_cluster_Cluster_Due]; kernel_rfl⟩
theorem at_cluster_Cluster_Due : lib n_cluster_Cluster_Due = some (.code pf_cluster_Cluster_Due) := by kernel_rfl
theorem lk10 : EntOk cx lib 10 := .inl ⟨Tryz.f10, Tryz.func10, by rw [tr_cluster_Cluster_History]; kernel_rfl⟩
theorem at_cluster_Cluster_History : lib n_cluster_Cluster_History = some (.code pf_cluster_Cluster_History) := by kernel_rfl
theorem lk11 : EntOk cx lib 11 := .inl ⟨Tryz.f11, Tryz.func11, by rw [tr_depotkeep_Config]; kernel_rfl⟩
theorem at_depotkeep_Config : lib n_depotkeep_Config = some (.code pf_depotkeep_Config) := by kernel_rfl
theorem lk12 : EntOk cx lib 12 := .inl ⟨Tryz.f12, Tryz.func12, by rw [tr_cluster_Cluster_Frames]; kernel_rfl⟩
theorem at_cluster_Cluster_Frames : lib n_cluster_Cluster_Frames = some (.code pf_cluster_Cluster_Frames) := by kernel_rfl
theorem lk13 : EntOk cx lib 13 := .inl ⟨Tryz.f13, Tryz.func13, by rw [tr_depotbook_Within]; kernel_rfl⟩
theorem at_depotbook_Within : lib n_depotbook_Within = some (.code pf_depotbook_Within) := by kernel_rfl
theorem lk14 : EntOk cx lib 14 := .inl ⟨Tryz.f14, Tryz.func14, by rw [tr_depotbook_Same_api_Frame]; kernel_rfl⟩
theorem at_depotbook_Same_api_Frame : lib n_depotbook_Same_api_Frame = some (.code pf_depotbook_Same_api_Frame) := by kernel_rfl
theorem lk15 : EntOk cx lib 15 := .inl ⟨Tryz.f15, Tryz.func15, by rw [tr_router_New]; kernel_rfl⟩
theorem at_router_New : lib n_router_New = some (.code pf_router_New) := by kernel_rfl
theorem lk16 : EntOk cx lib 16 := .inl ⟨Tryz.f16, Tryz.func16, by rw [tr_net_New]; kernel_rfl⟩
theorem at_net_New : lib n_net_New = some (.code pf_net_New) := by kernel_rfl
theorem lk17 : EntOk cx lib 17 := .inl ⟨Tryz.f17, Tryz.func17, by rw [tr_slot_New]; kernel_rfl⟩
theorem at_slot_New : lib n_slot_New = some (.code pf_slot_New) := by kernel_rfl
theorem lk18 : EntOk cx lib 18 := .inl ⟨Tryz.f18, Tryz.func18, by rw [tr_parse_New]; kernel_rfl⟩
theorem at_parse_New : lib n_parse_New = some (.code pf_parse_New) := by kernel_rfl
theorem lk19 : EntOk cx lib 19 := .inl ⟨Tryz.f19, Tryz.func19, by rw [tr_cluster_Cluster_settle]; kernel_rfl⟩
theorem at_cluster_Cluster_settle : lib n_cluster_Cluster_settle = some (.code pf_cluster_Cluster_settle) := by kernel_rfl
theorem lk20 : EntOk cx lib 20 := .inl ⟨Tryz.f20, Tryz.func20, by rw [tr_cluster_Cluster_send]; kernel_rfl⟩
theorem at_cluster_Cluster_send : lib n_cluster_Cluster_send = some (.code pf_cluster_Cluster_send) := by kernel_rfl
theorem lk21 : EntOk cx lib 21 := .inl ⟨Tryz.f21, Tryz.func21, by rw [tr_cluster_Cluster_frame]; kernel_rfl⟩
theorem at_cluster_Cluster_frame : lib n_cluster_Cluster_frame = some (.code pf_cluster_Cluster_frame) := by kernel_rfl
theorem lk24 : EntOk cx lib 24 := .inl ⟨Tryz.f24, Tryz.func24, by rw [tr_cluster_known]; kernel_rfl⟩
theorem at_cluster_known : lib n_cluster_known = some (.code pf_cluster_known) := by kernel_rfl
theorem lk25 : EntOk cx lib 25 := .inl ⟨Tryz.f25, Tryz.func25, by rw [tr_slices_Clone_api_Event_api_Event]; kernel_rfl⟩
theorem at_slices_Clone_api_Event_api_Event : lib n_slices_Clone_api_Event_api_Event = some (.code pf_slices_Clone_api_Event_api_Event) := by kernel_rfl
theorem lk26 : EntOk cx lib 26 := .inl ⟨Tryz.f26, Tryz.func26, by rw [tr_cluster_copied]; kernel_rfl⟩
theorem at_cluster_copied : lib n_cluster_copied = some (.code pf_cluster_copied) := by kernel_rfl
theorem lk27 : EntOk cx lib 27 := .inl ⟨Tryz.f27, Tryz.func27, by rw [tr_cluster_answered]; kernel_rfl⟩
theorem at_cluster_answered : lib n_cluster_answered = some (.code pf_cluster_answered) := by kernel_rfl
theorem lk28 : EntOk cx lib 28 := .inl ⟨Tryz.f28, Tryz.func28, by rw [tr_net_Net_List]; kernel_rfl⟩
theorem at_net_Net_List : lib n_net_Net_List = some (.code pf_net_Net_List) := by kernel_rfl
theorem lk29 : EntOk cx lib 29 := .inl ⟨Tryz.f29, Tryz.func29, by rw [tr_task_RightConfig]; kernel_rfl⟩
theorem at_task_RightConfig : lib n_task_RightConfig = some (.code pf_task_RightConfig) := by kernel_rfl
theorem lk30 : EntOk cx lib 30 := .inl ⟨Tryz.f30, Tryz.func30, by rw [tr_ask_New]; kernel_rfl⟩
theorem at_ask_New : lib n_ask_New = some (.code pf_ask_New) := by kernel_rfl
theorem lk31 : EntOk cx lib 31 := .inl ⟨Tryz.f31, Tryz.func31, by rw [tr_view_New]; kernel_rfl⟩
theorem at_view_New : lib n_view_New = some (.code pf_view_New) := by kernel_rfl
theorem lk32 : EntOk cx lib 32 := .inl ⟨Tryz.f32, Tryz.func32, by rw [tr_router_Router_again]; kernel_rfl⟩
theorem at_router_Router_again : lib n_router_Router_again = some (.code pf_router_Router_again) := by kernel_rfl
theorem lk33 : EntOk cx lib 33 := .inl ⟨Tryz.f33, Tryz.func33, by rw [tr_item_New]; kernel_rfl⟩
theorem at_item_New : lib n_item_New = some (.code pf_item_New) := by kernel_rfl
theorem lk34 : EntOk cx lib 34 := .inl ⟨Tryz.f34, Tryz.func34, by rw [tr_router_Router_Drain]; kernel_rfl⟩
theorem at_router_Router_Drain : lib n_router_Router_Drain = some (.code pf_router_Router_Drain) := by kernel_rfl
theorem lk35 : EntOk cx lib 35 := .inl ⟨Tryz.f35, Tryz.func35, by rw [tr_net_Net_Send]; kernel_rfl⟩
theorem at_net_Net_Send : lib n_net_Net_Send = some (.code pf_net_Net_Send) := by kernel_rfl
theorem lk36 : EntOk cx lib 36 := .inl ⟨Tryz.f36, Tryz.func36, by rw [tr_cluster_conn_say]; kernel_rfl⟩
theorem at_cluster_conn_say : lib n_cluster_conn_say = some (.code pf_cluster_conn_say) := by kernel_rfl
theorem lk37 : EntOk cx lib 37 := .inl ⟨Tryz.f37, Tryz.func37, by rw [tr_parse_Parser_Shut]; kernel_rfl⟩
theorem at_parse_Parser_Shut : lib n_parse_Parser_Shut = some (.code pf_parse_Parser_Shut) := by kernel_rfl
theorem lk38 : EntOk cx lib 38 := .inl ⟨Tryz.f38, Tryz.func38, by rw [tr_parse_Parser_Feed]; kernel_rfl⟩
theorem at_parse_Parser_Feed : lib n_parse_Parser_Feed = some (.code pf_parse_Parser_Feed) := by kernel_rfl
theorem lk39 : EntOk cx lib 39 := .inl ⟨Tryz.f39, Tryz.func39, by rw [tr_router_Router_Do]; kernel_rfl⟩
theorem at_router_Router_Do : lib n_router_Router_Do = some (.code pf_router_Router_Do) := by kernel_rfl
theorem lk40 : EntOk cx lib 40 := .inl ⟨Tryz.f40, Tryz.func40, by rw [tr_net_Net_Copy]; kernel_rfl⟩
theorem at_net_Net_Copy : lib n_net_Net_Copy = some (.code pf_net_Net_Copy) := by kernel_rfl
theorem lk41 : EntOk cx lib 41 := .inl ⟨Tryz.f41, Tryz.func41, by rw [tr_net_Net_Drop]; kernel_rfl⟩
theorem at_net_Net_Drop : lib n_net_Net_Drop = some (.code pf_net_Net_Drop) := by kernel_rfl
theorem lk42 : EntOk cx lib 42 := .inl ⟨Tryz.f42, Tryz.func42, by rw [tr_router_Router_Take]; kernel_rfl⟩
theorem at_router_Router_Take : lib n_router_Router_Take = some (.code pf_router_Router_Take) := by kernel_rfl
theorem lk43 : EntOk cx lib 43 := .inl ⟨Tryz.f43, Tryz.func43, by rw [tr_slot_Slot_Take]; kernel_rfl⟩
theorem at_slot_Slot_Take : lib n_slot_Slot_Take = some (.code pf_slot_Slot_Take) := by kernel_rfl
theorem lk45 : EntOk cx lib 45 := .inl ⟨Tryz.f45, Tryz.func45, by rw [tr_router_Router_pump]; kernel_rfl⟩
theorem at_router_Router_pump : lib n_router_Router_pump = some (.code pf_router_Router_pump) := by kernel_rfl
theorem lk46 : EntOk cx lib 46 := .inl ⟨Tryz.f46, Tryz.func46, by rw [tr_slot_Slot_clear]; kernel_rfl⟩
theorem at_slot_Slot_clear : lib n_slot_Slot_clear = some (.code pf_slot_Slot_clear) := by kernel_rfl
theorem lk47 : EntOk cx lib 47 := .inl ⟨Tryz.f47, Tryz.func47, by rw [tr_slices_Clone_string_string]; kernel_rfl⟩
theorem at_slices_Clone_string_string : lib n_slices_Clone_string_string = some (.code pf_slices_Clone_string_string) := by kernel_rfl
theorem lk48 : EntOk cx lib 48 := .inl ⟨Tryz.f48, Tryz.func48, by rw [tr_slices_Clone_api_Found_api_Found]; kernel_rfl⟩
theorem at_slices_Clone_api_Found_api_Found : lib n_slices_Clone_api_Found_api_Found = some (.code pf_slices_Clone_api_Found_api_Found) := by kernel_rfl
theorem lk49 : EntOk cx lib 49 := .inl ⟨Tryz.f49, Tryz.func49, by rw [tr_slices_Clone_api_Frame_api_Frame]; kernel_rfl⟩
theorem at_slices_Clone_api_Frame_api_Frame : lib n_slices_Clone_api_Frame_api_Frame = some (.code pf_slices_Clone_api_Frame_api_Frame) := by kernel_rfl
theorem lk50 : EntOk cx lib 50 := .inl ⟨Tryz.f50, Tryz.func50, by rw [tr_rs_New]; kernel_rfl⟩
theorem at_rs_New : lib n_rs_New = some (.code pf_rs_New) := by kernel_rfl
theorem lk51 : EntOk cx lib 51 := .inl ⟨Tryz.f51, Tryz.func51, by rw [tr_task_within]; kernel_rfl⟩
theorem at_task_within : lib n_task_within = some (.code pf_task_within) := by kernel_rfl
theorem lk52 : EntOk cx lib 52 := .inl ⟨Tryz.f52, Tryz.func52, by rw [tr_view_View_Next]; kernel_rfl⟩
theorem at_view_View_Next : lib n_view_View_Next = some (.code pf_view_View_Next) := by kernel_rfl
theorem lk53 : EntOk cx lib 53 := .inl ⟨Tryz.f53, Tryz.func53, by rw [tr_ask_Asks_Cancel]; kernel_rfl⟩
theorem at_ask_Asks_Cancel : lib n_ask_Asks_Cancel = some (.code pf_ask_Asks_Cancel) := by kernel_rfl
theorem lk54 : EntOk cx lib 54 := .inl ⟨Tryz.f54, Tryz.func54, by rw [tr_router_Router_heard]; kernel_rfl⟩
theorem at_router_Router_heard : lib n_router_Router_heard = some (.code pf_router_Router_heard) := by kernel_rfl
theorem lk55 : EntOk cx lib 55 := .inl ⟨Tryz.f55, Tryz.func55, by rw [tr_router_Router_send]; kernel_rfl⟩
theorem at_router_Router_send : lib n_router_Router_send = some (.code pf_router_Router_send) := by kernel_rfl
theorem lk56 : EntOk cx lib 56 := .inl ⟨Tryz.f56, Tryz.func56, by rw [tr_slab_New]; kernel_rfl⟩
theorem at_slab_New : lib n_slab_New = some (.code pf_slab_New) := by kernel_rfl
theorem lk57 : EntOk cx lib 57 := .inl ⟨Tryz.f57, Tryz.func57, by rw [tr_chain_New]; kernel_rfl⟩
theorem at_chain_New : lib n_chain_New = some (.code pf_chain_New) := by kernel_rfl
theorem lk58 : EntOk cx lib 58 := .inl ⟨Tryz.f58, Tryz.func58, by rw [tr_answer_Quiet]; kernel_rfl⟩
theorem at_answer_Quiet : lib n_answer_Quiet = some (.code pf_answer_Quiet) := by kernel_rfl
theorem lk59 : EntOk cx lib 59 := .inl ⟨Tryz.f59, Tryz.func59, by rw [tr_answer_Text]; kernel_rfl⟩
theorem at_answer_Text : lib n_answer_Text = some (.code pf_answer_Text) := by kernel_rfl
theorem lk60 : EntOk cx lib 60 := .inl ⟨Tryz.f60, Tryz.func60, by rw [tr_parse_Parser_line]; kernel_rfl⟩
theorem at_parse_Parser_line : lib n_parse_Parser_line = some (.code pf_parse_Parser_line) := by kernel_rfl
theorem lk61 : EntOk cx lib 61 := .inl ⟨Tryz.f61, Tryz.func61, by rw [tr_parse_Parser_data]; kernel_rfl⟩
theorem at_parse_Parser_data : lib n_parse_Parser_data = some (.code pf_parse_Parser_data) := by kernel_rfl
theorem lk64 : EntOk cx lib 64 := .inl ⟨Tryz.f64, Tryz.func64, by rw [tr_router_Router_reply]; kernel_rfl⟩
theorem at_router_Router_reply : lib n_router_Router_reply = some (.code pf_router_Router_reply) := by kernel_rfl
theorem lk66 : EntOk cx lib 66 := .inl ⟨Tryz.f66, Tryz.func66, by rw [tr_router_May]; kernel_rfl⟩
theorem at_router_May : lib n_router_May = some (.code pf_router_May) := by kernel_rfl
theorem lk67 : EntOk cx lib 67 := .inl ⟨Tryz.f67, Tryz.func67, by rw [tr_router_Router_gets]; kernel_rfl⟩
theorem at_router_Router_gets : lib n_router_Router_gets = some (.code pf_router_Router_gets) := by kernel_rfl
theorem lk68 : EntOk cx lib 68 := .inl ⟨Tryz.f68, Tryz.func68, by rw [tr_words_Storing]; kernel_rfl⟩
theorem at_words_Storing : lib n_words_Storing = some (.code pf_words_Storing) := by kernel_rfl
theorem lk69 : EntOk cx lib 69 := .inl ⟨Tryz.f69, Tryz.func69, by rw [tr_router_Router_want]; kernel_rfl⟩
theorem at_router_Router_want : lib n_router_Router_want = some (.code pf_router_Router_want) := by kernel_rfl
theorem lk70 : EntOk cx lib 70 := .inl ⟨Tryz.f70, Tryz.func70, by rw [tr_slices_Delete_api_Frame_api_Frame]; kernel_rfl⟩
theorem at_slices_Delete_api_Frame_api_Frame : lib n_slices_Delete_api_Frame_api_Frame = some (.code pf_slices_Delete_api_Frame_api_Frame) := by kernel_rfl
theorem lk71 : EntOk cx lib 71 := .inl ⟨Tryz.f71, Tryz.func71, by rw [tr_ask_Asks_Answer]; kernel_rfl⟩
theorem at_ask_Asks_Answer : lib n_ask_Asks_Answer = some (.code pf_ask_Asks_Answer) := by kernel_rfl
theorem lk72 : EntOk cx lib 72 := .inl ⟨Tryz.f72, Tryz.func72, by rw [tr_wire_Right]; kernel_rfl⟩
theorem at_wire_Right : lib n_wire_Right = some (.code pf_wire_Right) := by kernel_rfl
theorem lk73 : EntOk cx lib 73 := .inl ⟨Tryz.f73, Tryz.func73, by rw [tr_slot_Slot_reset]; kernel_rfl⟩
theorem at_slot_Slot_reset : lib n_slot_Slot_reset = some (.code pf_slot_Slot_reset) := by kernel_rfl
theorem lk74 : EntOk cx lib 74 := .inl ⟨Tryz.f74, Tryz.func74, by rw [tr_slices_DeleteFunc_slot_did_slot_did]; kernel_rfl⟩
theorem at_slices_DeleteFunc_slot_did_slot_did : lib n_slices_DeleteFunc_slot_did_slot_did = some (.code pf_slices_DeleteFunc_slot_did_slot_did) := by kernel_rfl
theorem lk75 : EntOk cx lib 75 := .inl ⟨Tryz.f75, Tryz.func75, by rw [tr_slot_Slot_Take_1]; kernel_rfl⟩
theorem at_slot_Slot_Take_1 : lib n_slot_Slot_Take_1 = some (.code pf_slot_Slot_Take_1) := by kernel_rfl
theorem lk76 : EntOk cx lib 76 := .inl ⟨Tryz.f76, Tryz.func76, by rw [tr_slot_Slot_do]; kernel_rfl⟩
theorem at_slot_Slot_do : lib n_slot_Slot_do = some (.code pf_slot_Slot_do) := by kernel_rfl
theorem lk77 : EntOk cx lib 77 := .inl ⟨Tryz.f77, Tryz.func77, by rw [tr_ask_Asks_floor]; kernel_rfl⟩
theorem at_ask_Asks_floor : lib n_ask_Asks_floor = some (.code pf_ask_Asks_floor) := by kernel_rfl
theorem lk78 : EntOk cx lib 78 := .inl ⟨Tryz.f78, Tryz.func78, by rw [tr_slices_Contains_int_int]; kernel_rfl⟩
theorem at_slices_Contains_int_int : lib n_slices_Contains_int_int = some (.code pf_slices_Contains_int_int) := by kernel_rfl
theorem lk80 : EntOk cx lib 80 := .inl ⟨Tryz.f80, Tryz.func80, by rw [tr_fill_Fill_Next]; kernel_rfl⟩
theorem at_fill_Fill_Next : lib n_fill_Fill_Next = some (.code pf_fill_Fill_Next) := by kernel_rfl
theorem lk81 : EntOk cx lib 81 := .inl ⟨Tryz.f81, Tryz.func81, by rw [tr_router_Router_env]; kernel_rfl⟩
theorem at_router_Router_env : lib n_router_Router_env = some (.code pf_router_Router_env) := by kernel_rfl
theorem lk82 : EntOk cx lib 82 := .inl ⟨Tryz.f82, Tryz.func82, by rw [tr_view_View_Inc]; kernel_rfl⟩
theorem at_view_View_Inc : lib n_view_View_Inc = some (.code pf_view_View_Inc) := by kernel_rfl
theorem lk83 : EntOk cx lib 83 := ent_make prog_ok rfl (by decide) Tryz.func83 tr_gf_Make (by kernel_rfl)
theorem lk84 : EntOk cx lib 84 := .inl ⟨Tryz.f84, Tryz.func84, by rw [tr_matrix_Cauchy]; kernel_rfl⟩
theorem at_matrix_Cauchy : lib n_matrix_Cauchy = some (.code pf_matrix_Cauchy) := by kernel_rfl
theorem lk85 : EntOk cx lib 85 := .inl ⟨Tryz.f85, Tryz.func85, by rw [tr_router_Router_owned]; kernel_rfl⟩
theorem at_router_Router_owned : lib n_router_Router_owned = some (.code pf_router_Router_owned) := by kernel_rfl
theorem lk86 : EntOk cx lib 86 := .inl ⟨Tryz.f86, Tryz.func86, by rw [tr_fill_New]; kernel_rfl⟩
theorem at_fill_New : lib n_fill_New = some (.code pf_fill_New) := by kernel_rfl
theorem lk87 : EntOk cx lib 87 := .inl ⟨Tryz.f87, Tryz.func87, by rw [tr_router_Router_job]; kernel_rfl⟩
theorem at_router_Router_job : lib n_router_Router_job = some (.code pf_router_Router_job) := by kernel_rfl
theorem lk88 : EntOk cx lib 88 := .inl ⟨Tryz.f88, Tryz.func88, by rw [tr_task_Task_Got]; kernel_rfl⟩
theorem at_task_Task_Got : lib n_task_Task_Got = some (.code pf_task_Task_Got) := by kernel_rfl
theorem lk89 : EntOk cx lib 89 := .inl ⟨Tryz.f89, Tryz.func89, by rw [tr_router_Router_look]; kernel_rfl⟩
theorem at_router_Router_look : lib n_router_Router_look = some (.code pf_router_Router_look) := by kernel_rfl
theorem lk92 : EntOk cx lib 92 := .inl ⟨Tryz.f92, Tryz.func92, by rw [tr_ask_Asks_Begin]; kernel_rfl⟩
theorem at_ask_Asks_Begin : lib n_ask_Asks_Begin = some (.code pf_ask_Asks_Begin) := by kernel_rfl
theorem lk93 : EntOk cx lib 93 := .inl ⟨Tryz.f93, Tryz.func93, by rw [tr_answer_values]; kernel_rfl⟩
theorem at_answer_values : lib n_answer_values = some (.code pf_answer_values) := by kernel_rfl
theorem lk96 : EntOk cx lib 96 := .inl ⟨Tryz.f96, Tryz.func96, by rw [tr_answer_plain]; kernel_rfl⟩
theorem at_answer_plain : lib n_answer_plain = some (.code pf_answer_plain) := by kernel_rfl
theorem lk97 : EntOk cx lib 97 := .inl ⟨Tryz.f97, Tryz.func97, by rw [tr_strings_IndexByte]; kernel_rfl⟩
theorem at_strings_IndexByte : lib n_strings_IndexByte = some (.code pf_strings_IndexByte) := by kernel_rfl
theorem lk99 : EntOk cx lib 99 := .inl ⟨Tryz.f99, Tryz.func99, by rw [tr_strings_TrimSuffix]; kernel_rfl⟩
theorem at_strings_TrimSuffix : lib n_strings_TrimSuffix = some (.code pf_strings_TrimSuffix) := by kernel_rfl
theorem lk100 : EntOk cx lib 100 := .inl ⟨Tryz.f100, Tryz.func100, by rw [tr_words_Line]; kernel_rfl⟩
theorem at_words_Line : lib n_words_Line = some (.code pf_words_Line) := by kernel_rfl
theorem lk101 : EntOk cx lib 101 := .inl ⟨Tryz.f101, Tryz.func101, by rw [tr_parse_Parser_say]; kernel_rfl⟩
theorem at_parse_Parser_say : lib n_parse_Parser_say = some (.code pf_parse_Parser_say) := by kernel_rfl
theorem lk102 : EntOk cx lib 102 := .inl ⟨Tryz.f102, Tryz.func102, by rw [tr_strings_HasPrefix]; kernel_rfl⟩
theorem at_strings_HasPrefix : lib n_strings_HasPrefix = some (.code pf_strings_HasPrefix) := by kernel_rfl
theorem lk104 : EntOk cx lib 104 := .inl ⟨Tryz.f104, Tryz.func104, by rw [tr_router_within]; kernel_rfl⟩
theorem at_router_within : lib n_router_within = some (.code pf_router_within) := by kernel_rfl
theorem lk105 : EntOk cx lib 105 := .inl ⟨Tryz.f105, Tryz.func105, by rw [tr_words_Key]; kernel_rfl⟩
theorem at_words_Key : lib n_words_Key = some (.code pf_words_Key) := by kernel_rfl
theorem lk106 : EntOk cx lib 106 := .inl ⟨Tryz.f106, Tryz.func106, by rw [tr_router_Router_begin]; kernel_rfl⟩
theorem at_router_Router_begin : lib n_router_Router_begin = some (.code pf_router_Router_begin) := by kernel_rfl
theorem lk107 : EntOk cx lib 107 := .inl ⟨Tryz.f107, Tryz.func107, by rw [tr_slices_Delete_ask_open_ask_open]; kernel_rfl⟩
theorem at_slices_Delete_ask_open_ask_open : lib n_slices_Delete_ask_open_ask_open = some (.code pf_slices_Delete_ask_open_ask_open) := by kernel_rfl
theorem lk108 : EntOk cx lib 108 := .inl ⟨Tryz.f108, Tryz.func108, by rw [tr_wire_within]; kernel_rfl⟩
theorem at_wire_within : lib n_wire_within = some (.code pf_wire_within) := by kernel_rfl
theorem lk109 : EntOk cx lib 109 := .inl ⟨Tryz.f109, Tryz.func109, by rw [tr_wire_role]; kernel_rfl⟩
theorem at_wire_role : lib n_wire_role = some (.code pf_wire_role) := by kernel_rfl
theorem lk110 : EntOk cx lib 110 := .inl ⟨Tryz.f110, Tryz.func110, by rw [tr_slices_IndexFunc_slot_did_slot_did]; kernel_rfl⟩
theorem at_slices_IndexFunc_slot_did_slot_did : lib n_slices_IndexFunc_slot_did_slot_did = some (.code pf_slices_IndexFunc_slot_did_slot_did) := by kernel_rfl
theorem lk112 : EntOk cx lib 112 := .inl ⟨Tryz.f112, Tryz.func112, by rw [tr_slot_Slot_stands]; kernel_rfl⟩
theorem at_slot_Slot_stands : lib n_slot_Slot_stands = some (.code pf_slot_Slot_stands) := by kernel_rfl
theorem lk113 : EntOk cx lib 113 := .inl ⟨Tryz.f113, Tryz.func113, by rw [tr_item_Store_Put]; kernel_rfl⟩
theorem at_item_Store_Put : lib n_item_Store_Put = some (.code pf_item_Store_Put) := by kernel_rfl
theorem lk114 : EntOk cx lib 114 := .inl ⟨Tryz.f114, Tryz.func114, by rw [tr_slot_name]; kernel_rfl⟩
theorem at_slot_name : lib n_slot_name = some (.code pf_slot_name) := by kernel_rfl
theorem lk115 : EntOk cx lib 115 := .inl ⟨Tryz.f115, Tryz.func115, by rw [tr_pack_Num]; kernel_rfl⟩
theorem at_pack_Num : lib n_pack_Num = some (.code pf_pack_Num) := by kernel_rfl
theorem lk116 : EntOk cx lib 116 := .inl ⟨Tryz.f116, Tryz.func116, by rw [tr_item_Store_Drop]; kernel_rfl⟩
theorem at_item_Store_Drop : lib n_item_Store_Drop = some (.code pf_item_Store_Drop) := by kernel_rfl
theorem lk117 : EntOk cx lib 117 := .inl ⟨Tryz.f117, Tryz.func117, by rw [tr_slices_Index_int_int]; kernel_rfl⟩
theorem at_slices_Index_int_int : lib n_slices_Index_int_int = some (.code pf_slices_Index_int_int) := by kernel_rfl
theorem lk120 : EntOk cx lib 120 := .inl ⟨Tryz.f120, Tryz.func120, by rw [tr_fill_Fill_key]; kernel_rfl⟩
theorem at_fill_Fill_key : lib n_fill_Fill_key = some (.code pf_fill_Fill_key) := by kernel_rfl
theorem lk121 : EntOk cx lib 121 := .inl ⟨Tryz.f121, Tryz.func121, by rw [tr_view_View_State]; kernel_rfl⟩
theorem at_view_View_State : lib n_view_View_State = some (.code pf_view_View_State) := by kernel_rfl
theorem lk122 : EntOk cx lib 122 := .inl ⟨Tryz.f122, Tryz.func122, by rw [tr_view_View_of]; kernel_rfl⟩
theorem at_view_View_of : lib n_view_View_of = some (.code pf_view_View_of) := by kernel_rfl
theorem lk123 : EntOk cx lib 123 := .inl ⟨Tryz.f123, Tryz.func123, by rw [tr_matrix_Identity]; kernel_rfl⟩
theorem at_matrix_Identity : lib n_matrix_Identity = some (.code pf_matrix_Identity) := by kernel_rfl
theorem lk124 : EntOk cx lib 124 := .inl ⟨Tryz.f124, Tryz.func124, by rw [tr_gf_Inv]; kernel_rfl⟩
theorem at_gf_Inv : lib n_gf_Inv = some (.code pf_gf_Inv) := by kernel_rfl
theorem lk125 : EntOk cx lib 125 := .inl ⟨Tryz.f125, Tryz.func125, by rw [tr_slices_IndexFunc_router_owner_router_owner]; kernel_rfl⟩
theorem at_slices_IndexFunc_router_owner_router_owner : lib n_slices_IndexFunc_router_owner_router_owner = some (.code pf_slices_IndexFunc_router_owner_router_owner) := by kernel_rfl
theorem lk126 : EntOk cx lib 126 := .inl ⟨Tryz.f126, Tryz.func126, by rw [tr_router_Router_owned_1]; kernel_rfl⟩
theorem at_router_Router_owned_1 : lib n_router_Router_owned_1 = some (.code pf_router_Router_owned_1) := by kernel_rfl
theorem lk127 : EntOk cx lib 127 := .inl ⟨Tryz.f127, Tryz.func127, by rw [tr_slices_Delete_router_owner_router_owner]; kernel_rfl⟩
theorem at_slices_Delete_router_owner_router_owner : lib n_slices_Delete_router_owner_router_owner = some (.code pf_slices_Delete_router_owner_router_owner) := by kernel_rfl
theorem lk128 : EntOk cx lib 128 := .inl ⟨Tryz.f128, Tryz.func128, by rw [tr_slices_Clone_int_int]; kernel_rfl⟩
theorem at_slices_Clone_int_int : lib n_slices_Clone_int_int = some (.code pf_slices_Clone_int_int) := by kernel_rfl
theorem lk129 : EntOk cx lib 129 := .inl ⟨Tryz.f129, Tryz.func129, by rw [tr_task_GetRecord]; kernel_rfl⟩
theorem at_task_GetRecord : lib n_task_GetRecord = some (.code pf_task_GetRecord) := by kernel_rfl
theorem lk130 : EntOk cx lib 130 := .inl ⟨Tryz.f130, Tryz.func130, by rw [tr_place_Position]; kernel_rfl⟩
theorem at_place_Position : lib n_place_Position = some (.code pf_place_Position) := by kernel_rfl
theorem lk131 : EntOk cx lib 131 := .inl ⟨Tryz.f131, Tryz.func131, by rw [tr_gather_Gather_Got]; kernel_rfl⟩
theorem at_gather_Gather_Got : lib n_gather_Gather_Got = some (.code pf_gather_Gather_Got) := by kernel_rfl
theorem lk132 : EntOk cx lib 132 := .inl ⟨Tryz.f132, Tryz.func132, by rw [tr_rs_Code_Size]; kernel_rfl⟩
theorem at_rs_Code_Size : lib n_rs_Code_Size = some (.code pf_rs_Code_Size) := by kernel_rfl
theorem lk133 : EntOk cx lib 133 := .inl ⟨Tryz.f133, Tryz.func133, by rw [tr_task_Task_more]; kernel_rfl⟩
theorem at_task_Task_more : lib n_task_Task_more = some (.code pf_task_Task_more) := by kernel_rfl
theorem lk134 : EntOk cx lib 134 := .inl ⟨Tryz.f134, Tryz.func134, by rw [tr_task_Task_on]; kernel_rfl⟩
theorem at_task_Task_on : lib n_task_Task_on = some (.code pf_task_Task_on) := by kernel_rfl
theorem lk135 : EntOk cx lib 135 := .inl ⟨Tryz.f135, Tryz.func135, by rw [tr_task_Task_Phase]; kernel_rfl⟩
theorem at_task_Task_Phase : lib n_task_Task_Phase = some (.code pf_task_Task_Phase) := by kernel_rfl
theorem lk136 : EntOk cx lib 136 := .inl ⟨Tryz.f136, Tryz.func136, by rw [tr_task_Task_Take]; kernel_rfl⟩
theorem at_task_Task_Take : lib n_task_Task_Take = some (.code pf_task_Task_Take) := by kernel_rfl
theorem lk137 : EntOk cx lib 137 := .inl ⟨Tryz.f137, Tryz.func137, by rw [tr_task_Task_Answer]; kernel_rfl⟩
theorem at_task_Task_Answer : lib n_task_Task_Answer = some (.code pf_task_Task_Answer) := by kernel_rfl
theorem lk138 : EntOk cx lib 138 := .inl ⟨Tryz.f138, Tryz.func138, by rw [tr_router_Router_tell]; kernel_rfl⟩
theorem at_router_Router_tell : lib n_router_Router_tell = some (.code pf_router_Router_tell) := by kernel_rfl
theorem lk139 : EntOk cx lib 139 := .inl ⟨Tryz.f139, Tryz.func139, by rw [tr_router_Router_over]; kernel_rfl⟩
theorem at_router_Router_over : lib n_router_Router_over = some (.code pf_router_Router_over) := by kernel_rfl
theorem lk140 : EntOk cx lib 140 := .inl ⟨Tryz.f140, Tryz.func140, by rw [tr_pack_Read]; kernel_rfl⟩
theorem at_pack_Read : lib n_pack_Read = some (.code pf_pack_Read) := by kernel_rfl
theorem lk141 : EntOk cx lib 141 := .inl ⟨Tryz.f141, Tryz.func141, by rw [tr_pack_Reader_At]; kernel_rfl⟩
theorem at_pack_Reader_At : lib n_pack_Reader_At = some (.code pf_pack_Reader_At) := by kernel_rfl
theorem lk144 : EntOk cx lib 144 := .inl ⟨Tryz.f144, Tryz.func144, by rw [tr_answer_number]; kernel_rfl⟩
theorem at_answer_number : lib n_answer_number = some (.code pf_answer_number) := by kernel_rfl
theorem lk145 : EntOk cx lib 145 := .inl ⟨Tryz.f145, Tryz.func145, by rw [tr_strconv_Itoa]; kernel_rfl⟩
theorem at_strconv_Itoa : lib n_strconv_Itoa = some (.code pf_strconv_Itoa) := by kernel_rfl
theorem lk146 : EntOk cx lib 146 := .inl ⟨Tryz.f146, Tryz.func146, by rw [tr_strings_Builder_WriteString]; kernel_rfl⟩
theorem at_strings_Builder_WriteString : lib n_strings_Builder_WriteString = some (.code pf_strings_Builder_WriteString) := by kernel_rfl
theorem lk147 : EntOk cx lib 147 := .inl ⟨Tryz.f147, Tryz.func147, by rw [tr_strings_Join]; kernel_rfl⟩
theorem at_strings_Join : lib n_strings_Join = some (.code pf_strings_Join) := by kernel_rfl
theorem lk148 : EntOk cx lib 148 := .inl ⟨Tryz.f148, Tryz.func148, by rw [tr_strings_Builder_String]; kernel_rfl⟩
theorem at_strings_Builder_String : lib n_strings_Builder_String = some (.code pf_strings_Builder_String) := by kernel_rfl
theorem lk150 : EntOk cx lib 150 := .inl ⟨Tryz.f150, Tryz.func150, by rw [tr_internal_stringslite_IndexByte]; kernel_rfl⟩
theorem at_internal_stringslite_IndexByte : lib n_internal_stringslite_IndexByte = some (.code pf_internal_stringslite_IndexByte) := by kernel_rfl
theorem lk151 : EntOk cx lib 151 := .inl ⟨Tryz.f151, Tryz.func151, by rw [tr_internal_stringslite_TrimSuffix]; kernel_rfl⟩
theorem at_internal_stringslite_TrimSuffix : lib n_internal_stringslite_TrimSuffix = some (.code pf_internal_stringslite_TrimSuffix) := by kernel_rfl
theorem lk152 : EntOk cx lib 152 := .inl ⟨Tryz.f152, Tryz.func152, by rw [tr_words_Split]; kernel_rfl⟩
theorem at_words_Split : lib n_words_Split = some (.code pf_words_Split) := by kernel_rfl
theorem lk153 : EntOk cx lib 153 := .inl ⟨Tryz.f153, Tryz.func153, by rw [tr_words_shapeOf]; kernel_rfl⟩
theorem at_words_shapeOf : lib n_words_shapeOf = some (.code pf_words_shapeOf) := by kernel_rfl
theorem lk154 : EntOk cx lib 154 := .inl ⟨Tryz.f154, Tryz.func154, by rw [tr_words_fill]; kernel_rfl⟩
theorem at_words_fill : lib n_words_fill = some (.code pf_words_fill) := by kernel_rfl
theorem lk155 : EntOk cx lib 155 := .inl ⟨Tryz.f155, Tryz.func155, by rw [tr_internal_stringslite_HasPrefix]; kernel_rfl⟩
theorem at_internal_stringslite_HasPrefix : lib n_internal_stringslite_HasPrefix = some (.code pf_internal_stringslite_HasPrefix) := by kernel_rfl
theorem lk156 : EntOk cx lib 156 := .inl ⟨Tryz.f156, Tryz.func156, by rw [tr_task_New]; kernel_rfl⟩
theorem at_task_New : lib n_task_New = some (.code pf_task_New) := by kernel_rfl
theorem lk157 : EntOk cx lib 157 := .inl ⟨Tryz.f157, Tryz.func157, by rw [tr_task_Task_Start]; kernel_rfl⟩
theorem at_task_Task_Start : lib n_task_Task_Start = some (.code pf_task_Task_Start) := by kernel_rfl
theorem lk161 : EntOk cx lib 161 := .inl ⟨Tryz.f161, Tryz.func161, by rw [tr_item_Store_Get]; kernel_rfl⟩
theorem at_item_Store_Get : lib n_item_Store_Get = some (.code pf_item_Store_Get) := by kernel_rfl
theorem lk162 : EntOk cx lib 162 := .inl ⟨Tryz.f162, Tryz.func162, by rw [tr_pack_Reader_Num]; kernel_rfl⟩
theorem at_pack_Reader_Num : lib n_pack_Reader_Num = some (.code pf_pack_Reader_Num) := by kernel_rfl
theorem lk163 : EntOk cx lib 163 := .inl ⟨Tryz.f163, Tryz.func163, by rw [tr_slab_Slab_Class]; kernel_rfl⟩
theorem at_slab_Slab_Class : lib n_slab_Slab_Class = some (.code pf_slab_Slab_Class) := by kernel_rfl
theorem lk164 : EntOk cx lib 164 := .inl ⟨Tryz.f164, Tryz.func164, by rw [tr_slab_Slab_Alloc]; kernel_rfl⟩
theorem at_slab_Slab_Alloc : lib n_slab_Slab_Alloc = some (.code pf_slab_Slab_Alloc) := by kernel_rfl
theorem lk167 : EntOk cx lib 167 := .inl ⟨Tryz.f167, Tryz.func167, by rw [tr_item_Store_in]; kernel_rfl⟩
theorem at_item_Store_in : lib n_item_Store_in = some (.code pf_item_Store_in) := by kernel_rfl
theorem lk168 : EntOk cx lib 168 := .inl ⟨Tryz.f168, Tryz.func168, by rw [tr_chain_Chain_Put]; kernel_rfl⟩
theorem at_chain_Chain_Put : lib n_chain_Chain_Put = some (.code pf_chain_Chain_Put) := by kernel_rfl
theorem lk169 : EntOk cx lib 169 := .inl ⟨Tryz.f169, Tryz.func169, by rw [tr_pack_num]; kernel_rfl⟩
theorem at_pack_num : lib n_pack_num = some (.code pf_pack_num) := by kernel_rfl
theorem lk170 : EntOk cx lib 170 := .inl ⟨Tryz.f170, Tryz.func170, by rw [tr_pack_grown]; kernel_rfl⟩
theorem at_pack_grown : lib n_pack_grown = some (.code pf_pack_grown) := by kernel_rfl
theorem lk171 : EntOk cx lib 171 := .inl ⟨Tryz.f171, Tryz.func171, by rw [tr_chain_Chain_Get]; kernel_rfl⟩
theorem at_chain_Chain_Get : lib n_chain_Chain_Get = some (.code pf_chain_Chain_Get) := by kernel_rfl
theorem lk183 : EntOk cx lib 183 := .inl ⟨Tryz.f183, Tryz.func183, by rw [tr_pack_Reader_End]; kernel_rfl⟩
theorem at_pack_Reader_End : lib n_pack_Reader_End = some (.code pf_pack_Reader_End) := by kernel_rfl
theorem lk184 : EntOk cx lib 184 := .inl ⟨Tryz.f184, Tryz.func184, by rw [tr_place_Stripe]; kernel_rfl⟩
theorem at_place_Stripe : lib n_place_Stripe = some (.code pf_place_Stripe) := by kernel_rfl
theorem lk185 : EntOk cx lib 185 := .inl ⟨Tryz.f185, Tryz.func185, by rw [tr_gather_Gather_Next]; kernel_rfl⟩
theorem at_gather_Gather_Next : lib n_gather_Gather_Next = some (.code pf_gather_Gather_Next) := by kernel_rfl
theorem lk186 : EntOk cx lib 186 := .inl ⟨Tryz.f186, Tryz.func186, by rw [tr_task_Task_ask]; kernel_rfl⟩
theorem at_task_Task_ask : lib n_task_Task_ask = some (.code pf_task_Task_ask) := by kernel_rfl
theorem lk187 : EntOk cx lib 187 := .inl ⟨Tryz.f187, Tryz.func187, by rw [tr_task_Task_gathered]; kernel_rfl⟩
theorem at_task_Task_gathered : lib n_task_Task_gathered = some (.code pf_task_Task_gathered) := by kernel_rfl
theorem lk188 : EntOk cx lib 188 := .inl ⟨Tryz.f188, Tryz.func188, by rw [tr_task_Task_found]; kernel_rfl⟩
theorem at_task_Task_found : lib n_task_Task_found = some (.code pf_task_Task_found) := by kernel_rfl
theorem lk189 : EntOk cx lib 189 := .inl ⟨Tryz.f189, Tryz.func189, by rw [tr_task_Task_scattered]; kernel_rfl⟩
theorem at_task_Task_scattered : lib n_task_Task_scattered = some (.code pf_task_Task_scattered) := by kernel_rfl
theorem lk190 : EntOk cx lib 190 := .inl ⟨Tryz.f190, Tryz.func190, by rw [tr_task_Task_written]; kernel_rfl⟩
theorem at_task_Task_written : lib n_task_Task_written = some (.code pf_task_Task_written) := by kernel_rfl
theorem lk191 : EntOk cx lib 191 := .inl ⟨Tryz.f191, Tryz.func191, by rw [tr_task_Task_clean]; kernel_rfl⟩
theorem at_task_Task_clean : lib n_task_Task_clean = some (.code pf_task_Task_clean) := by kernel_rfl
theorem lk192 : EntOk cx lib 192 := .inl ⟨Tryz.f192, Tryz.func192, by rw [tr_task_Task_decide]; kernel_rfl⟩
theorem at_task_Task_decide : lib n_task_Task_decide = some (.code pf_task_Task_decide) := by kernel_rfl
theorem lk193 : EntOk cx lib 193 := .inl ⟨Tryz.f193, Tryz.func193, by rw [tr_task_Task_tell]; kernel_rfl⟩
theorem at_task_Task_tell : lib n_task_Task_tell = some (.code pf_task_Task_tell) := by kernel_rfl
theorem lk194 : EntOk cx lib 194 := .inl ⟨Tryz.f194, Tryz.func194, by rw [tr_slices_IndexFunc_router_ticket_router_ticket]; kernel_rfl⟩
theorem at_slices_IndexFunc_router_ticket_router_ticket : lib n_slices_IndexFunc_router_ticket_router_ticket = some (.code pf_slices_IndexFunc_router_ticket_router_ticket) := by kernel_rfl
theorem lk195 : EntOk cx lib 195 := .inl ⟨Tryz.f195, Tryz.func195, by rw [tr_router_Router_tell_1]; kernel_rfl⟩
theorem at_router_Router_tell_1 : lib n_router_Router_tell_1 = some (.code pf_router_Router_tell_1) := by kernel_rfl
theorem lk196 : EntOk cx lib 196 := .inl ⟨Tryz.f196, Tryz.func196, by rw [tr_slices_Delete_router_ticket_router_ticket]; kernel_rfl⟩
theorem at_slices_Delete_router_ticket_router_ticket : lib n_slices_Delete_router_ticket_router_ticket = some (.code pf_slices_Delete_router_ticket_router_ticket) := by kernel_rfl
theorem lk197 : EntOk cx lib 197 := .inl ⟨Tryz.f197, Tryz.func197, by rw [tr_slices_DeleteFunc_router_job_router_job]; kernel_rfl⟩
theorem at_slices_DeleteFunc_router_job_router_job : lib n_slices_DeleteFunc_router_job_router_job = some (.code pf_slices_DeleteFunc_router_job_router_job) := by kernel_rfl
theorem lk198 : EntOk cx lib 198 := .inl ⟨Tryz.f198, Tryz.func198, by rw [tr_router_Router_over_1]; kernel_rfl⟩
theorem at_router_Router_over_1 : lib n_router_Router_over_1 = some (.code pf_router_Router_over_1) := by kernel_rfl
theorem lk201 : EntOk cx lib 201 := .inl ⟨Tryz.f201, Tryz.func201, by rw [tr_slices_IndexFunc_router_want_router_want]; kernel_rfl⟩
theorem at_slices_IndexFunc_router_want_router_want : lib n_slices_IndexFunc_router_want_router_want = some (.code pf_slices_IndexFunc_router_want_router_want) := by kernel_rfl
theorem lk202 : EntOk cx lib 202 := .inl ⟨Tryz.f202, Tryz.func202, by rw [tr_router_Router_over_2]; kernel_rfl⟩
theorem at_router_Router_over_2 : lib n_router_Router_over_2 = some (.code pf_router_Router_over_2) := by kernel_rfl
theorem lk203 : EntOk cx lib 203 := .inl ⟨Tryz.f203, Tryz.func203, by rw [tr_slices_Delete_router_want_router_want]; kernel_rfl⟩
theorem at_slices_Delete_router_want_router_want : lib n_slices_Delete_router_want_router_want = some (.code pf_slices_Delete_router_want_router_want) := by kernel_rfl
theorem lk205 : EntOk cx lib 205 := .inl ⟨Tryz.f205, Tryz.func205, by rw [tr_pack_Reader_fail]; kernel_rfl⟩
theorem at_pack_Reader_fail : lib n_pack_Reader_fail = some (.code pf_pack_Reader_fail) := by kernel_rfl
theorem lk206 : EntOk cx lib 206 := .inl ⟨Tryz.f206, Tryz.func206, by rw [tr_internal_strconv_Itoa]; kernel_rfl⟩
theorem at_internal_strconv_Itoa : lib n_internal_strconv_Itoa = some (.code pf_internal_strconv_Itoa) := by kernel_rfl
theorem lk207 : EntOk cx lib 207 := .inl ⟨Tryz.f207, Tryz.func207, by rw [tr_strings_Builder_copyCheck]; kernel_rfl⟩
theorem at_strings_Builder_copyCheck : lib n_strings_Builder_copyCheck = some (.code pf_strings_Builder_copyCheck) := by kernel_rfl
theorem lk208 : EntOk cx lib 208 := .inl ⟨Tryz.f208, Tryz.func208, by rw [tr_strings_Builder_Grow]; kernel_rfl⟩
theorem at_strings_Builder_Grow : lib n_strings_Builder_Grow = some (.code pf_strings_Builder_Grow) := by kernel_rfl
theorem lk209 : EntOk cx lib 209 := .inl ⟨Tryz.f209, Tryz.func209, by rw [tr_internal_strconv_small]; kernel_rfl⟩
theorem at_internal_strconv_small : lib n_internal_strconv_small = some (.code pf_internal_strconv_small) := by kernel_rfl
theorem lk214 : EntOk cx lib 214 := .inl ⟨Tryz.f214, Tryz.func214, by rw [tr_internal_stringslite_HasSuffix]; kernel_rfl⟩
theorem at_internal_stringslite_HasSuffix : lib n_internal_stringslite_HasSuffix = some (.code pf_internal_stringslite_HasSuffix) := by kernel_rfl
theorem lk215 : EntOk cx lib 215 := .inl ⟨Tryz.f215, Tryz.func215, by rw [tr_words_Number]; kernel_rfl⟩
theorem at_words_Number : lib n_words_Number = some (.code pf_words_Number) := by kernel_rfl
theorem lk216 : EntOk cx lib 216 := .inl ⟨Tryz.f216, Tryz.func216, by rw [tr_words_store]; kernel_rfl⟩
theorem at_words_store : lib n_words_store = some (.code pf_words_store) := by kernel_rfl
theorem lk217 : EntOk cx lib 217 := .inl ⟨Tryz.f217, Tryz.func217, by rw [tr_words_signed]; kernel_rfl⟩
theorem at_words_signed : lib n_words_signed = some (.code pf_words_signed) := by kernel_rfl
theorem lk218 : EntOk cx lib 218 := .inl ⟨Tryz.f218, Tryz.func218, by rw [tr_place_Metas]; kernel_rfl⟩
theorem at_place_Metas : lib n_place_Metas = some (.code pf_place_Metas) := by kernel_rfl
theorem lk219 : EntOk cx lib 219 := .inl ⟨Tryz.f219, Tryz.func219, by rw [tr_task_Task_enter]; kernel_rfl⟩
theorem at_task_Task_enter : lib n_task_Task_enter = some (.code pf_task_Task_enter) := by kernel_rfl
theorem lk221 : EntOk cx lib 221 := .inl ⟨Tryz.f221, Tryz.func221, by rw [tr_item_Store_Peek]; kernel_rfl⟩
theorem at_item_Store_Peek : lib n_item_Store_Peek = some (.code pf_item_Store_Peek) := by kernel_rfl
theorem lk222 : EntOk cx lib 222 := .inl ⟨Tryz.f222, Tryz.func222, by rw [tr_item_Store_out]; kernel_rfl⟩
theorem at_item_Store_out : lib n_item_Store_out = some (.code pf_item_Store_out) := by kernel_rfl
theorem lk225 : EntOk cx lib 225 := .inl ⟨Tryz.f225, Tryz.func225, by rw [tr_chain_Chain_step]; kernel_rfl⟩
theorem at_chain_Chain_step : lib n_chain_Chain_step = some (.code pf_chain_Chain_step) := by kernel_rfl
theorem lk226 : EntOk cx lib 226 := .inl ⟨Tryz.f226, Tryz.func226, by rw [tr_chain_Chain_bucket]; kernel_rfl⟩
theorem at_chain_Chain_bucket : lib n_chain_Chain_bucket = some (.code pf_chain_Chain_bucket) := by kernel_rfl
theorem lk227 : EntOk cx lib 227 := .inl ⟨Tryz.f227, Tryz.func227, by rw [tr_chain_find]; kernel_rfl⟩
theorem at_chain_find : lib n_chain_find = some (.code pf_chain_find) := by kernel_rfl
theorem lk234 : EntOk cx lib 234 := .inl ⟨Tryz.f234, Tryz.func234, by rw [tr_chain_Hash]; kernel_rfl⟩
theorem at_chain_Hash : lib n_chain_Hash = some (.code pf_chain_Hash) := by kernel_rfl
theorem lk235 : EntOk cx lib 235 := .inl ⟨Tryz.f235, Tryz.func235, by rw [tr_gather_Gather_State]; kernel_rfl⟩
theorem at_gather_Gather_State : lib n_gather_Gather_State = some (.code pf_gather_Gather_State) := by kernel_rfl
theorem lk236 : EntOk cx lib 236 := .inl ⟨Tryz.f236, Tryz.func236, by rw [tr_rs_Code_Decode]; kernel_rfl⟩
theorem at_rs_Code_Decode : lib n_rs_Code_Decode = some (.code pf_rs_Code_Decode) := by kernel_rfl
theorem lk237 : EntOk cx lib 237 := .inl ⟨Tryz.f237, Tryz.func237, by rw [tr_gather_Gather_Parts]; kernel_rfl⟩
theorem at_gather_Gather_Parts : lib n_gather_Gather_Parts = some (.code pf_gather_Gather_Parts) := by kernel_rfl
theorem lk240 : EntOk cx lib 240 := .inl ⟨Tryz.f240, Tryz.func240, by rw [tr_rs_Code_Encode]; kernel_rfl⟩
theorem at_rs_Code_Encode : lib n_rs_Code_Encode = some (.code pf_rs_Code_Encode) := by kernel_rfl
theorem lk241 : EntOk cx lib 241 := .inl ⟨Tryz.f241, Tryz.func241, by rw [tr_when_Live]; kernel_rfl⟩
theorem at_when_Live : lib n_when_Live = some (.code pf_when_Live) := by kernel_rfl
theorem lk242 : EntOk cx lib 242 := .inl ⟨Tryz.f242, Tryz.func242, by rw [tr_task_Task_unseen]; kernel_rfl⟩
theorem at_task_Task_unseen : lib n_task_Task_unseen = some (.code pf_task_Task_unseen) := by kernel_rfl
theorem lk243 : EntOk cx lib 243 := .inl ⟨Tryz.f243, Tryz.func243, by rw [tr_task_reads]; kernel_rfl⟩
theorem at_task_reads : lib n_task_reads = some (.code pf_task_reads) := by kernel_rfl
theorem lk244 : EntOk cx lib 244 := .inl ⟨Tryz.f244, Tryz.func244, by rw [tr_task_Task_gather]; kernel_rfl⟩
theorem at_task_Task_gather : lib n_task_Task_gather = some (.code pf_task_Task_gather) := by kernel_rfl
theorem lk245 : EntOk cx lib 245 := .inl ⟨Tryz.f245, Tryz.func245, by rw [tr_task_Task_write]; kernel_rfl⟩
theorem at_task_Task_write : lib n_task_Task_write = some (.code pf_task_Task_write) := by kernel_rfl
theorem lk246 : EntOk cx lib 246 := .inl ⟨Tryz.f246, Tryz.func246, by rw [tr_task_Task_all]; kernel_rfl⟩
theorem at_task_Task_all : lib n_task_Task_all = some (.code pf_task_Task_all) := by kernel_rfl
theorem lk247 : EntOk cx lib 247 := .inl ⟨Tryz.f247, Tryz.func247, by rw [tr_model_Next]; kernel_rfl⟩
theorem at_model_Next : lib n_model_Next = some (.code pf_model_Next) := by kernel_rfl
theorem lk248 : EntOk cx lib 248 := .inl ⟨Tryz.f248, Tryz.func248, by rw [tr_task_Task_scatter]; kernel_rfl⟩
theorem at_task_Task_scatter : lib n_task_Task_scatter = some (.code pf_task_Task_scatter) := by kernel_rfl
theorem lk249 : EntOk cx lib 249 := .inl ⟨Tryz.f249, Tryz.func249, by rw [tr_slices_IndexFunc_router_job_router_job]; kernel_rfl⟩
theorem at_slices_IndexFunc_router_job_router_job : lib n_slices_IndexFunc_router_job_router_job = some (.code pf_slices_IndexFunc_router_job_router_job) := by kernel_rfl
theorem lk252 : EntOk cx lib 252 := .inl ⟨Tryz.f252, Tryz.func252, by rw [tr_internal_strconv_FormatInt]; kernel_rfl⟩
theorem at_internal_strconv_FormatInt : lib n_internal_strconv_FormatInt = some (.code pf_internal_strconv_FormatInt) := by kernel_rfl
theorem lk254 : EntOk cx lib 254 := .inl ⟨Tryz.f254, Tryz.func254, by rw [tr_strings_Builder_grow]; kernel_rfl⟩
theorem at_strings_Builder_grow : lib n_strings_Builder_grow = some (.code pf_strings_Builder_grow) := by kernel_rfl
theorem lk259 : EntOk cx lib 259 := .inl ⟨Tryz.f259, Tryz.func259, by rw [tr_strings_CutPrefix]; kernel_rfl⟩
theorem at_strings_CutPrefix : lib n_strings_CutPrefix = some (.code pf_strings_CutPrefix) := by kernel_rfl
theorem lk269 : EntOk cx lib 269 := .inl ⟨Tryz.f269, Tryz.func269, by rw [tr_slab_Slab_Read]; kernel_rfl⟩
theorem at_slab_Slab_Read : lib n_slab_Slab_Read = some (.code pf_slab_Slab_Read) := by kernel_rfl
theorem lk271 : EntOk cx lib 271 := .inl ⟨Tryz.f271, Tryz.func271, by rw [tr_rs_Code_chosen]; kernel_rfl⟩
theorem at_rs_Code_chosen : lib n_rs_Code_chosen = some (.code pf_rs_Code_chosen) := by kernel_rfl
theorem lk272 : EntOk cx lib 272 := .inl ⟨Tryz.f272, Tryz.func272, by rw [tr_matrix_Invert]; kernel_rfl⟩
theorem at_matrix_Invert : lib n_matrix_Invert = some (.code pf_matrix_Invert) := by kernel_rfl
theorem lk273 : EntOk cx lib 273 := .inl ⟨Tryz.f273, Tryz.func273, by rw [tr_rs_Code_mix]; kernel_rfl⟩
theorem at_rs_Code_mix : lib n_rs_Code_mix = some (.code pf_rs_Code_mix) := by kernel_rfl
theorem lk274 : EntOk cx lib 274 := .inl ⟨Tryz.f274, Tryz.func274, by rw [tr_slices_Clone_api_Part_api_Part]; kernel_rfl⟩
theorem at_slices_Clone_api_Part_api_Part : lib n_slices_Clone_api_Part_api_Part = some (.code pf_slices_Clone_api_Part_api_Part) := by kernel_rfl
theorem lk275 : EntOk cx lib 275 := .inl ⟨Tryz.f275, Tryz.func275, by rw [tr_task_PutRecord]; kernel_rfl⟩
theorem at_task_PutRecord : lib n_task_PutRecord = some (.code pf_task_PutRecord) := by kernel_rfl
theorem lk276 : EntOk cx lib 276 := .inl ⟨Tryz.f276, Tryz.func276, by rw [tr_gather_New]; kernel_rfl⟩
theorem at_gather_New : lib n_gather_New = some (.code pf_gather_New) := by kernel_rfl
theorem lk277 : EntOk cx lib 277 := .inl ⟨Tryz.f277, Tryz.func277, by rw [tr_when_Deadline]; kernel_rfl⟩
theorem at_when_Deadline : lib n_when_Deadline = some (.code pf_when_Deadline) := by kernel_rfl
theorem lk278 : EntOk cx lib 278 := .inl ⟨Tryz.f278, Tryz.func278, by rw [tr_model_Next_1]; kernel_rfl⟩
theorem at_model_Next_1 : lib n_model_Next_1 = some (.code pf_model_Next_1) := by kernel_rfl
theorem lk285 : EntOk cx lib 285 := .inl ⟨Tryz.f285, Tryz.func285, by rw [tr_internal_stringslite_CutPrefix]; kernel_rfl⟩
theorem at_internal_stringslite_CutPrefix : lib n_internal_stringslite_CutPrefix = some (.code pf_internal_stringslite_CutPrefix) := by kernel_rfl
theorem lk290 : EntOk cx lib 290 := .inl ⟨Tryz.f290, Tryz.func290, by rw [tr_matrix_Right]; kernel_rfl⟩
theorem at_matrix_Right : lib n_matrix_Right = some (.code pf_matrix_Right) := by kernel_rfl
theorem lk291 : EntOk cx lib 291 := .inl ⟨Tryz.f291, Tryz.func291, by rw [tr_matrix_copied]; kernel_rfl⟩
theorem at_matrix_copied : lib n_matrix_copied = some (.code pf_matrix_copied) := by kernel_rfl
theorem lk292 : EntOk cx lib 292 := .inl ⟨Tryz.f292, Tryz.func292, by rw [tr_matrix_reduce]; kernel_rfl⟩
theorem at_matrix_reduce : lib n_matrix_reduce = some (.code pf_matrix_reduce) := by kernel_rfl
theorem lk293 : EntOk cx lib 293 := .inl ⟨Tryz.f293, Tryz.func293, by rw [tr_slices_Clone_byte_byte]; kernel_rfl⟩
theorem at_slices_Clone_byte_byte : lib n_slices_Clone_byte_byte = some (.code pf_slices_Clone_byte_byte) := by kernel_rfl
theorem lk294 : EntOk cx lib 294 := .inl ⟨Tryz.f294, Tryz.func294, by rw [tr_gf_Mul]; kernel_rfl⟩
theorem at_gf_Mul : lib n_gf_Mul = some (.code pf_gf_Mul) := by kernel_rfl
theorem lks : AllOf (EntOk cx lib) nums := ⟨lk3, lk4, lk5, lk6, lk7, lk8, lk9, lk10, lk11, lk12, lk13, lk14, lk15, lk16, lk17, lk18, lk19, lk20, lk21, lk24, lk25, lk26, lk27, lk28, lk29, lk30, lk31, lk32, lk33, lk34, lk35, lk36, lk37, lk38, lk39, lk40, lk41, lk42, lk43, lk45, lk46, lk47, lk48, lk49, lk50, lk51, lk52, lk53, lk54, lk55, lk56, lk57, lk58, lk59, lk60, lk61, lk64, lk66, lk67, lk68, lk69, lk70, lk71, lk72, lk73, lk74, lk75, lk76, lk77, lk78, lk80, lk81, lk82, lk83, lk84, lk85, lk86, lk87, lk88, lk89, lk92, lk93, lk96, lk97, lk99, lk100, lk101, lk102, lk104, lk105, lk106, lk107, lk108, lk109, lk110, lk112, lk113, lk114, lk115, lk116, lk117, lk120, lk121, lk122, lk123, lk124, lk125, lk126, lk127, lk128, lk129, lk130, lk131, lk132, lk133, lk134, lk135, lk136, lk137, lk138, lk139, lk140, lk141, lk144, lk145, lk146, lk147, lk148, lk150, lk151, lk152, lk153, lk154, lk155, lk156, lk157, lk161, lk162, lk163, lk164, lk167, lk168, lk169, lk170, lk171, lk183, lk184, lk185, lk186, lk187, lk188, lk189, lk190, lk191, lk192, lk193, lk194, lk195, lk196, lk197, lk198, lk201, lk202, lk203, lk205, lk206, lk207, lk208, lk209, lk214, lk215, lk216, lk217, lk218, lk219, lk221, lk222, lk225, lk226, lk227, lk234, lk235, lk236, lk237, lk240, lk241, lk242, lk243, lk244, lk245, lk246, lk247, lk248, lk249, lk252, lk254, lk259, lk269, lk271, lk272, lk273, lk274, lk275, lk276, lk277, lk278, lk285, lk290, lk291, lk292, lk293, lk294, trivial⟩
theorem lib_ok : LibOk cx lib := lib_ok2 rfl lks
-- roots [3, 4]
end Go.Proofs.YtobnlhfgebfebaaGreatDoor
