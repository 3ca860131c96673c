/- The functions that this seat's laws reach, for the clean machine; each is what the translation makes of the given text. Conditions: none. Printed by program. -/
import Derived.Test.YtobnlhfgebfebaaGreatDoorChecked
import Derived.KernelRfl
import Derived.Test.YtobnlhfgebfebaaGreatDoorQsD
import Derived.Test.YtobnlhfgebfebaaGreatDoorQfC
namespace Go.Proofs.YtobnlhfgebfebaaGreatDoor
open Go.Dp
def qm (d t : Nat) : It := .op ⟨some d, none, .r (.mv (.t t))⟩
def qo (d : Nat) (p : PR) : It := .op ⟨some d, none, .r p⟩
def qn (d : Nat) (p : PN) : It := .op ⟨some d, none, .n p⟩
def qe (d : Nat) (p : PE) : It := .op ⟨some d, none, .e p⟩
def qx (p : PE) : It := .op ⟨none, none, .e p⟩
def qg (d g : Nat) (b : Bool) (t : Nat) : It := .op ⟨some d, some (g, b), .r (.mv (.t t))⟩
def qh (d g : Nat) (b : Bool) (p : PR) : It := .op ⟨some d, some (g, b), .r p⟩
def nums : List Nat := [3, 4, 5, 6, 7, 8, 9, 10, 11, 12, 13, 14, 15, 16, 17, 18, 19, 20, 21, 24, 25, 26, 27, 28, 29, 30, 31, 32, 33, 34, 35, 36, 37, 38, 39, 40, 41, 42, 43, 45, 46, 47, 48, 49, 50, 51, 52, 53, 54, 55, 56, 57, 58, 59, 60, 61, 64, 66, 67, 68, 69, 70, 71, 72, 73, 74, 75, 76, 77, 78, 80, 81, 82, 83, 84, 85, 86, 87, 88, 89, 92, 93, 96, 97, 99, 100, 101, 102, 104, 105, 106, 107, 108, 109, 110, 112, 113, 114, 115, 116, 117, 120, 121, 122, 123, 124, 125, 126, 127, 128, 129, 130, 131, 132, 133, 134, 135, 136, 137, 138, 139, 140, 141, 144, 145, 146, 147, 148, 150, 151, 152, 153, 154, 155, 156, 157, 161, 162, 163, 164, 167, 168, 169, 170, 171, 183, 184, 185, 186, 187, 188, 189, 190, 191, 192, 193, 194, 195, 196, 197, 198, 201, 202, 203, 205, 206, 207, 208, 209, 214, 215, 216, 217, 218, 219, 221, 222, 225, 226, 227, 234, 235, 236, 237, 240, 241, 242, 243, 244, 245, 246, 247, 248, 249, 252, 254, 259, 269, 271, 272, 273, 274, 275, 276, 277, 278, 285, 290, 291, 292, 293, 294]
abbrev n_depotlaw24_ClusterRuns : Nat := 3
abbrev n_depotlaw24_ClusterIgnores : Nat := 4
abbrev n_cluster_New : Nat := 5
abbrev n_depotlaw24_ClusterRuns_1 : Nat := 6
abbrev n_cluster_Cluster_Do : Nat := 7
abbrev n_cluster_Cluster_Said : Nat := 8
abbrev n_cluster_Cluster_Due : Nat := 9
abbrev n_cluster_Cluster_History : Nat := 10
abbrev n_depotkeep_Config : Nat := 11
abbrev n_cluster_Cluster_Frames : Nat := 12
abbrev n_depotbook_Within : Nat := 13
abbrev n_depotbook_Same_api_Frame : Nat := 14
abbrev n_router_New : Nat := 15
abbrev n_net_New : Nat := 16
abbrev n_slot_New : Nat := 17
abbrev n_parse_New : Nat := 18
abbrev n_cluster_Cluster_settle : Nat := 19
abbrev n_cluster_Cluster_send : Nat := 20
abbrev n_cluster_Cluster_frame : Nat := 21
abbrev n_cluster_known : Nat := 24
abbrev n_slices_Clone_api_Event_api_Event : Nat := 25
abbrev n_cluster_copied : Nat := 26
abbrev n_cluster_answered : Nat := 27
abbrev n_net_Net_List : Nat := 28
abbrev n_task_RightConfig : Nat := 29
abbrev n_ask_New : Nat := 30
abbrev n_view_New : Nat := 31
abbrev n_router_Router_again : Nat := 32
abbrev n_item_New : Nat := 33
abbrev n_router_Router_Drain : Nat := 34
abbrev n_net_Net_Send : Nat := 35
abbrev n_cluster_conn_say : Nat := 36
abbrev n_parse_Parser_Shut : Nat := 37
abbrev n_parse_Parser_Feed : Nat := 38
abbrev n_router_Router_Do : Nat := 39
abbrev n_net_Net_Copy : Nat := 40
abbrev n_net_Net_Drop : Nat := 41
abbrev n_router_Router_Take : Nat := 42
abbrev n_slot_Slot_Take : Nat := 43
abbrev n_router_Router_pump : Nat := 45
abbrev n_slot_Slot_clear : Nat := 46
abbrev n_slices_Clone_string_string : Nat := 47
abbrev n_slices_Clone_api_Found_api_Found : Nat := 48
abbrev n_slices_Clone_api_Frame_api_Frame : Nat := 49
abbrev n_rs_New : Nat := 50
abbrev n_task_within : Nat := 51
abbrev n_view_View_Next : Nat := 52
abbrev n_ask_Asks_Cancel : Nat := 53
abbrev n_router_Router_heard : Nat := 54
abbrev n_router_Router_send : Nat := 55
abbrev n_slab_New : Nat := 56
abbrev n_chain_New : Nat := 57
abbrev n_answer_Quiet : Nat := 58
abbrev n_answer_Text : Nat := 59
abbrev n_parse_Parser_line : Nat := 60
abbrev n_parse_Parser_data : Nat := 61
abbrev n_router_Router_reply : Nat := 64
abbrev n_router_May : Nat := 66
abbrev n_router_Router_gets : Nat := 67
abbrev n_words_Storing : Nat := 68
abbrev n_router_Router_want : Nat := 69
abbrev n_slices_Delete_api_Frame_api_Frame : Nat := 70
abbrev n_ask_Asks_Answer : Nat := 71
abbrev n_wire_Right : Nat := 72
abbrev n_slot_Slot_reset : Nat := 73
abbrev n_slices_DeleteFunc_slot_did_slot_did : Nat := 74
abbrev n_slot_Slot_Take_1 : Nat := 75
abbrev n_slot_Slot_do : Nat := 76
abbrev n_ask_Asks_floor : Nat := 77
abbrev n_slices_Contains_int_int : Nat := 78
abbrev n_fill_Fill_Next : Nat := 80
abbrev n_router_Router_env : Nat := 81
abbrev n_view_View_Inc : Nat := 82
abbrev n_gf_Make : Nat := 83
abbrev n_matrix_Cauchy : Nat := 84
abbrev n_router_Router_owned : Nat := 85
abbrev n_fill_New : Nat := 86
abbrev n_router_Router_job : Nat := 87
abbrev n_task_Task_Got : Nat := 88
abbrev n_router_Router_look : Nat := 89
abbrev n_ask_Asks_Begin : Nat := 92
abbrev n_answer_values : Nat := 93
abbrev n_answer_plain : Nat := 96
abbrev n_strings_IndexByte : Nat := 97
abbrev n_strings_TrimSuffix : Nat := 99
abbrev n_words_Line : Nat := 100
abbrev n_parse_Parser_say : Nat := 101
abbrev n_strings_HasPrefix : Nat := 102
abbrev n_router_within : Nat := 104
abbrev n_words_Key : Nat := 105
abbrev n_router_Router_begin : Nat := 106
abbrev n_slices_Delete_ask_open_ask_open : Nat := 107
abbrev n_wire_within : Nat := 108
abbrev n_wire_role : Nat := 109
abbrev n_slices_IndexFunc_slot_did_slot_did : Nat := 110
abbrev n_slot_Slot_stands : Nat := 112
abbrev n_item_Store_Put : Nat := 113
abbrev n_slot_name : Nat := 114
abbrev n_pack_Num : Nat := 115
abbrev n_item_Store_Drop : Nat := 116
abbrev n_slices_Index_int_int : Nat := 117
abbrev n_fill_Fill_key : Nat := 120
abbrev n_view_View_State : Nat := 121
abbrev n_view_View_of : Nat := 122
abbrev n_matrix_Identity : Nat := 123
abbrev n_gf_Inv : Nat := 124
abbrev n_slices_IndexFunc_router_owner_router_owner : Nat := 125
abbrev n_router_Router_owned_1 : Nat := 126
abbrev n_slices_Delete_router_owner_router_owner : Nat := 127
abbrev n_slices_Clone_int_int : Nat := 128
abbrev n_task_GetRecord : Nat := 129
abbrev n_place_Position : Nat := 130
abbrev n_gather_Gather_Got : Nat := 131
abbrev n_rs_Code_Size : Nat := 132
abbrev n_task_Task_more : Nat := 133
abbrev n_task_Task_on : Nat := 134
abbrev n_task_Task_Phase : Nat := 135
abbrev n_task_Task_Take : Nat := 136
abbrev n_task_Task_Answer : Nat := 137
abbrev n_router_Router_tell : Nat := 138
abbrev n_router_Router_over : Nat := 139
abbrev n_pack_Read : Nat := 140
abbrev n_pack_Reader_At : Nat := 141
abbrev n_answer_number : Nat := 144
abbrev n_strconv_Itoa : Nat := 145
abbrev n_strings_Builder_WriteString : Nat := 146
abbrev n_strings_Join : Nat := 147
abbrev n_strings_Builder_String : Nat := 148
abbrev n_internal_stringslite_IndexByte : Nat := 150
abbrev n_internal_stringslite_TrimSuffix : Nat := 151
abbrev n_words_Split : Nat := 152
abbrev n_words_shapeOf : Nat := 153
abbrev n_words_fill : Nat := 154
abbrev n_internal_stringslite_HasPrefix : Nat := 155
abbrev n_task_New : Nat := 156
abbrev n_task_Task_Start : Nat := 157
abbrev n_item_Store_Get : Nat := 161
abbrev n_pack_Reader_Num : Nat := 162
abbrev n_slab_Slab_Class : Nat := 163
abbrev n_slab_Slab_Alloc : Nat := 164
abbrev n_item_Store_in : Nat := 167
abbrev n_chain_Chain_Put : Nat := 168
abbrev n_pack_num : Nat := 169
abbrev n_pack_grown : Nat := 170
abbrev n_chain_Chain_Get : Nat := 171
abbrev n_pack_Reader_End : Nat := 183
abbrev n_place_Stripe : Nat := 184
abbrev n_gather_Gather_Next : Nat := 185
abbrev n_task_Task_ask : Nat := 186
abbrev n_task_Task_gathered : Nat := 187
abbrev n_task_Task_found : Nat := 188
abbrev n_task_Task_scattered : Nat := 189
abbrev n_task_Task_written : Nat := 190
abbrev n_task_Task_clean : Nat := 191
abbrev n_task_Task_decide : Nat := 192
abbrev n_task_Task_tell : Nat := 193
abbrev n_slices_IndexFunc_router_ticket_router_ticket : Nat := 194
abbrev n_router_Router_tell_1 : Nat := 195
abbrev n_slices_Delete_router_ticket_router_ticket : Nat := 196
abbrev n_slices_DeleteFunc_router_job_router_job : Nat := 197
abbrev n_router_Router_over_1 : Nat := 198
abbrev n_slices_IndexFunc_router_want_router_want : Nat := 201
abbrev n_router_Router_over_2 : Nat := 202
abbrev n_slices_Delete_router_want_router_want : Nat := 203
abbrev n_pack_Reader_fail : Nat := 205
abbrev n_internal_strconv_Itoa : Nat := 206
abbrev n_strings_Builder_copyCheck : Nat := 207
abbrev n_strings_Builder_Grow : Nat := 208
abbrev n_internal_strconv_small : Nat := 209
abbrev n_internal_stringslite_HasSuffix : Nat := 214
abbrev n_words_Number : Nat := 215
abbrev n_words_store : Nat := 216
abbrev n_words_signed : Nat := 217
abbrev n_place_Metas : Nat := 218
abbrev n_task_Task_enter : Nat := 219
abbrev n_item_Store_Peek : Nat := 221
abbrev n_item_Store_out : Nat := 222
abbrev n_chain_Chain_step : Nat := 225
abbrev n_chain_Chain_bucket : Nat := 226
abbrev n_chain_find : Nat := 227
abbrev n_chain_Hash : Nat := 234
abbrev n_gather_Gather_State : Nat := 235
abbrev n_rs_Code_Decode : Nat := 236
abbrev n_gather_Gather_Parts : Nat := 237
abbrev n_rs_Code_Encode : Nat := 240
abbrev n_when_Live : Nat := 241
abbrev n_task_Task_unseen : Nat := 242
abbrev n_task_reads : Nat := 243
abbrev n_task_Task_gather : Nat := 244
abbrev n_task_Task_write : Nat := 245
abbrev n_task_Task_all : Nat := 246
abbrev n_model_Next : Nat := 247
abbrev n_task_Task_scatter : Nat := 248
abbrev n_slices_IndexFunc_router_job_router_job : Nat := 249
abbrev n_internal_strconv_FormatInt : Nat := 252
abbrev n_strings_Builder_grow : Nat := 254
abbrev n_strings_CutPrefix : Nat := 259
abbrev n_slab_Slab_Read : Nat := 269
abbrev n_rs_Code_chosen : Nat := 271
abbrev n_matrix_Invert : Nat := 272
abbrev n_rs_Code_mix : Nat := 273
abbrev n_slices_Clone_api_Part_api_Part : Nat := 274
abbrev n_task_PutRecord : Nat := 275
abbrev n_gather_New : Nat := 276
abbrev n_when_Deadline : Nat := 277
abbrev n_model_Next_1 : Nat := 278
abbrev n_internal_stringslite_CutPrefix : Nat := 285
abbrev n_matrix_Right : Nat := 290
abbrev n_matrix_copied : Nat := 291
abbrev n_matrix_reduce : Nat := 292
abbrev n_slices_Clone_byte_byte : Nat := 293
abbrev n_gf_Mul : Nat := 294
noncomputable def cx : Cx := { P := Tryz.prog, fm := fmOf nums, gm := fun _ => none, ext := extOf [(213, 1), (253, 2), (282, 3)], bt := some 272 }
/-- depot/depotlaw24.ClusterRuns -/
def pf_depotlaw24_ClusterRuns : PF := { ntmps := 61, results := [.tmp 0], body :=
  (.seq (.region [qo 0 (.mv (.c (.bool false)))])
  (.seq (.region [qo 8 (.build [(.int .i64 (.ofNat 0)), (.int .i64 (.ofNat 0)), (.int .i64 (.ofNat 0)), (.int .i64 (.ofNat 0)), (.int .i64 (.ofNat 0)), (.int .i64 (.ofNat 0))] [(0, 1, (.c (.int .i64 (.ofNat 1)))), (3, 1, (.c (.int .i64 (.ofNat 1)))), (4, 1, (.c (.int .i64 (.ofNat 8)))), (5, 1, (.c (.int .i64 (.ofNat 1024))))]),
    qe 9 (.call 5 [(.t 8)]),
    qm 7 9,
    qo 10 (.ext 0 (.t 7)),
    qo 11 (.ext 1 (.t 7)),
    qn 1 (.new 0 [.nilp]),
    qx (.store 1 (.t 1) (.t 10)),
    qm 2 11])
  (.seq (.seq (.region [qo 12 (.load false 1 (.t 1)),
    qo 13 (.eqc false (.t 12) (.c .nilp)),
    qm 14 13,
    qg 15 14 false 2,
    qh 16 14 false (.bin .neq (.t 15) (.c (.int .i64 (.ofNat 0)))),
    qo 17 (.pick (.t 14) (.c (.bool true)) (.t 16))])
  (.cond (.t 17)
   (.seq (.region [qo 0 (.mv (.c (.bool false)))])
   .ret)
   .skip))
  (.seq (.region [qo 18 (.mkfn 6 [(.t 1)]),
    qm 3 18])
  (.seq (.region [qm 19 3,
    qe 20 (.callv (.t 19) [])])
  (.seq (.region [qo 21 (.load false 1 (.t 1)),
    qo 22 (.build [(.int .i64 (.ofNat 0)), (.int .i64 (.ofNat 0)), (.str [])] [(0, 1, (.c (.int .i64 (.ofNat 1)))), (2, 1, (.c (.str [115, 101, 116, 32, 97, 32, 49, 32, 48, 32, 49, 13, 10, 120, 13, 10, 103, 101, 116, 32, 97, 13, 10])))]),
    qe 23 (.call 7 [(.t 21), (.t 22)]),
    qm 4 23])
  (.seq (.region [qm 24 3,
    qe 25 (.callv (.t 24) [])])
  (.seq (.region [qo 26 (.load false 1 (.t 1)),
    qe 27 (.call 8 [(.t 26), (.c (.int .i64 (.ofNat 0)))]),
    qm 5 27])
  (.seq (.region [qo 28 (.load false 1 (.t 1)),
    qo 29 (.build [(.int .i64 (.ofNat 0)), (.int .i64 (.ofNat 0)), (.str [])] [(0, 1, (.c (.int .i64 (.ofNat 1)))), (1, 1, (.c (.int .i64 (.ofNat 9)))), (2, 1, (.c (.str [120])))]),
    qe 30 (.call 7 [(.t 28), (.t 29)]),
    qm 6 30])
  (.seq (.region [qo 31 (.load false 1 (.t 1)),
    qo 32 (.build [(.int .i64 (.ofNat 0)), (.int .i64 (.ofNat 0)), (.str [])] [(0, 1, (.c (.int .i64 (.ofNat 1)))), (2, 1, (.c (.str [110, 105, 120, 13, 10])))]),
    qe 33 (.call 7 [(.t 31), (.t 32)])])
  (.seq (.region [qm 34 4,
    qm 35 34,
    qg 36 35 true 5,
    qh 37 35 true (.bin .eql (.t 36) (.c (.str [83, 84, 79, 82, 69, 68, 13, 10, 86, 65, 76, 85, 69, 32, 97, 32, 49, 32, 49, 13, 10, 120, 13, 10, 69, 78, 68, 13, 10]))),
    qo 38 (.pick (.t 35) (.t 37) (.c (.bool false))),
    qm 39 38,
    qg 40 39 true 6,
    qh 41 39 true (.un .not (.t 40)),
    qo 42 (.pick (.t 39) (.t 41) (.c (.bool false))),
    qm 43 42,
    qh 44 43 true (.load false 1 (.t 1)),
    .op ⟨(some 45), (some (43, true)), (.e (.call 8 [(.t 44), (.c (.int .i64 (.ofNat 0)))]))⟩,
    qg 46 43 true 5,
    qh 47 43 true (.bin .add (.t 46) (.c (.str [69, 82, 82, 79, 82, 13, 10]))),
    qh 48 43 true (.bin .eql (.t 45) (.t 47)),
    qo 49 (.pick (.t 43) (.t 48) (.c (.bool false))),
    qm 50 49,
    qh 51 50 true (.load false 1 (.t 1)),
    .op ⟨(some 52), (some (50, true)), (.e (.call 9 [(.t 51), (.c (.int .i64 (.ofNat 0)))]))⟩,
    qh 53 50 true (.bin .eql (.t 52) (.c (.int .i64 (.ofNat 0)))),
    qo 54 (.pick (.t 50) (.t 53) (.c (.bool false))),
    qm 55 54,
    qh 56 55 true (.load false 1 (.t 1)),
    .op ⟨(some 57), (some (55, true)), (.e (.call 10 [(.t 56)]))⟩,
    qh 58 55 true (.lensl (.t 57)),
    qh 59 55 true (.bin .eql (.t 58) (.c (.int .i64 (.ofNat 4)))),
    qo 60 (.pick (.t 55) (.t 59) (.c (.bool false))),
    qm 0 60])
  .ret))))))))))) }
theorem tr_depotlaw24_ClusterRuns : trF cx Tryz.f3 = pf_depotlaw24_ClusterRuns := by kernel_rfl
def l0_depotlaw24_ClusterIgnores : PC :=
  (.seq (.seq (.region [.op ⟨(some 26), none, (.r (.mv (.t 9)))⟩,
    .op ⟨(some 27), none, (.r (.mv (.t 1)))⟩,
    .op ⟨(some 28), none, (.r (.lensl (.t 27)))⟩,
    .op ⟨(some 29), none, (.r (.bin .lss (.t 26) (.t 28)))⟩,
    .op ⟨(some 30), none, (.r (.mv (.t 29)))⟩,
    .op ⟨(some 31), (some (30, true)), (.r (.mv (.t 9)))⟩,
    .op ⟨(some 32), (some (30, true)), (.r (.bin .lss (.t 31) (.c (.int .i64 (.ofNat 40)))))⟩,
    .op ⟨(some 33), none, (.r (.pick (.t 30) (.t 32) (.c (.bool false))))⟩])
  (.cond (.t 33)
   .skip
   (.exit 0)))
  (.seq (.block 1 (.seq (.region [.op ⟨(some 36), none, (.r (.mv (.t 1)))⟩,
     .op ⟨(some 37), none, (.r (.mv (.t 9)))⟩,
     .op ⟨(some 38), none, (.r (.iasl 3 (.t 36) (.t 37)))⟩,
     .op ⟨(some 39), none, (.r (.load true 3 (.t 38)))⟩,
     .op ⟨(some 10), none, (.n (.new 0 [(.int .i64 (.ofNat 0)), (.int .i64 (.ofNat 0)), (.str [])]))⟩,
     .op ⟨none, none, (.e (.store 3 (.t 10) (.t 39)))⟩])
   (.seq (.seq (.region [.op ⟨(some 40), none, (.r (.faddr 2 (.t 10)))⟩,
     .op ⟨(some 41), none, (.r (.load false 1 (.t 40)))⟩,
     .op ⟨(some 42), none, (.r (.lens (.t 41)))⟩,
     .op ⟨(some 43), none, (.r (.bin .gtr (.t 42) (.c (.int .i64 (.ofNat 800)))))⟩])
   (.cond (.t 43)
    (.exit 1)
    .skip))
   (.seq (.seq (.region [.op ⟨(some 44), none, (.r (.faddr 0 (.t 10)))⟩,
     .op ⟨(some 45), none, (.r (.load false 1 (.t 44)))⟩])
   (.block 2 (.seq (.region [.op ⟨(some 47), none, (.r (.bin .eql (.t 45) (.c (.int .i64 (.ofNat 1)))))⟩,
      .op ⟨(some 46), none, (.r (.mv (.t 47)))⟩])
    (.cond (.t 46)
     (.region [.op ⟨(some 48), none, (.r (.faddr 1 (.t 10)))⟩,
       .op ⟨(some 49), none, (.r (.load false 1 (.t 48)))⟩,
       .op ⟨(some 50), none, (.e (.call n_depotbook_Within [(.t 49), (.c (.int .i64 (.ofNat 0))), (.c (.int .i64 (.ofNat 9)))]))⟩,
       .op ⟨(some 51), none, (.r (.bin .add (.c (.int .i64 (.ofNat 6))) (.t 50)))⟩,
       .op ⟨(some 52), none, (.r (.faddr 1 (.t 10)))⟩,
       .op ⟨none, none, (.e (.store 1 (.t 52) (.t 51)))⟩])
     (.seq (.seq (.region [.op ⟨(some 54), none, (.r (.bin .eql (.t 45) (.c (.int .i64 (.ofNat 2)))))⟩,
       .op ⟨(some 53), none, (.r (.mv (.t 54)))⟩])
     (.cond (.t 53)
      .skip
      (.seq (.region [.op ⟨(some 55), none, (.r (.bin .eql (.t 45) (.c (.int .i64 (.ofNat 3)))))⟩,
        .op ⟨(some 53), none, (.r (.mv (.t 55)))⟩])
      (.cond (.t 53)
       .skip
       (.region [.op ⟨(some 56), none, (.r (.bin .eql (.t 45) (.c (.int .i64 (.ofNat 4)))))⟩,
         .op ⟨(some 53), none, (.r (.mv (.t 56)))⟩])))))
     (.cond (.t 53)
      (.region [.op ⟨(some 57), none, (.r (.mv (.t 8)))⟩,
        .op ⟨(some 58), none, (.r (.lensl (.t 57)))⟩,
        .op ⟨(some 59), none, (.r (.faddr 1 (.t 10)))⟩,
        .op ⟨(some 60), none, (.r (.load false 1 (.t 59)))⟩,
        .op ⟨(some 61), none, (.e (.call n_depotbook_Within [(.t 60), (.c (.int .i64 (.ofNat 0))), (.c (.int .i64 (.ofNat 9)))]))⟩,
        .op ⟨(some 62), none, (.r (.bin .add (.t 58) (.t 61)))⟩,
        .op ⟨(some 63), none, (.r (.faddr 1 (.t 10)))⟩,
        .op ⟨none, none, (.e (.store 1 (.t 63) (.t 62)))⟩])
      (.seq (.region [.op ⟨(some 65), none, (.r (.bin .eql (.t 45) (.c (.int .i64 (.ofNat 6)))))⟩,
        .op ⟨(some 64), none, (.r (.mv (.t 65)))⟩])
      (.cond (.t 64)
       (.region [.op ⟨(some 66), none, (.r (.faddr 1 (.t 10)))⟩,
         .op ⟨(some 67), none, (.r (.load false 1 (.t 66)))⟩,
         .op ⟨(some 68), none, (.e (.call n_depotbook_Within [(.t 67), (.c (.int .i64 (.ofNat 0))), (.c (.int .i64 (.ofNat 9)))]))⟩,
         .op ⟨(some 69), none, (.r (.bin .sub (.c (.int .i64 (.negSucc 0))) (.t 68)))⟩,
         .op ⟨(some 70), none, (.r (.faddr 1 (.t 10)))⟩,
         .op ⟨none, none, (.e (.store 1 (.t 70) (.t 69)))⟩])
       (.seq (.region [.op ⟨(some 72), none, (.r (.bin .eql (.t 45) (.c (.int .i64 (.ofNat 5)))))⟩,
         .op ⟨(some 71), none, (.r (.mv (.t 72)))⟩])
       (.cond (.t 71)
        (.region [.op ⟨(some 73), none, (.r (.faddr 0 (.t 10)))⟩,
          .op ⟨none, none, (.e (.store 1 (.t 73) (.c (.int .i64 (.negSucc 0)))))⟩])
        .skip))))))))))
   (.seq (.region [.op ⟨(some 74), none, (.r (.mv (.t 6)))⟩,
     .op ⟨(some 75), none, (.r (.load true 3 (.t 10)))⟩,
     .op ⟨(some 76), none, (.e (.call n_cluster_Cluster_Do [(.t 74), (.t 75)]))⟩])
   (.cond (.t 76)
    (.seq (.region [.op ⟨(some 4), none, (.r (.mv (.c (.bool false))))⟩])
    .ret)
    .skip))))))
  (.region [.op ⟨(some 34), none, (.r (.mv (.t 9)))⟩,
    .op ⟨(some 35), none, (.r (.bin .add (.t 34) (.c (.int .i64 (.ofNat 1)))))⟩,
    .op ⟨(some 9), none, (.r (.mv (.t 35)))⟩])))
/-- depot/depotlaw24.ClusterIgnores -/
def pf_depotlaw24_ClusterIgnores : PF := { ntmps := 97, results := [.tmp 4], body :=
  (.seq (.region [.op ⟨(some 2), none, (.n (.box (.t 0)))⟩,
    .op ⟨(some 4), none, (.r (.mv (.c (.bool false))))⟩])
  (.seq (.region [.op ⟨(some 11), none, (.r (.load true 6 (.t 2)))⟩,
    .op ⟨(some 12), none, (.e (.call n_depotkeep_Config [(.t 11)]))⟩,
    .op ⟨(some 5), none, (.n (.new 0 [(.int .i64 (.ofNat 0)), (.int .i64 (.ofNat 0)), (.int .i64 (.ofNat 0)), (.int .i64 (.ofNat 0)), (.int .i64 (.ofNat 0)), (.int .i64 (.ofNat 0))]))⟩,
    .op ⟨none, none, (.e (.store 6 (.t 5) (.t 12)))⟩])
  (.seq (.region [.op ⟨(some 14), none, (.r (.load true 6 (.t 5)))⟩,
    .op ⟨(some 15), none, (.e (.call n_cluster_New [(.t 14)]))⟩,
    .op ⟨(some 13), none, (.r (.mv (.t 15)))⟩,
    .op ⟨(some 16), none, (.r (.ext 0 (.t 13)))⟩,
    .op ⟨(some 17), none, (.r (.ext 1 (.t 13)))⟩,
    .op ⟨(some 6), none, (.r (.mv (.t 16)))⟩,
    .op ⟨(some 7), none, (.r (.mv (.t 17)))⟩])
  (.seq (.seq (.region [.op ⟨(some 18), none, (.r (.mv (.t 6)))⟩,
    .op ⟨(some 19), none, (.r (.eqc false (.t 18) (.c .nilp)))⟩,
    .op ⟨(some 20), none, (.r (.mv (.t 19)))⟩,
    .op ⟨(some 21), (some (20, false)), (.r (.mv (.t 7)))⟩,
    .op ⟨(some 22), (some (20, false)), (.r (.bin .neq (.t 21) (.c (.int .i64 (.ofNat 0)))))⟩,
    .op ⟨(some 23), none, (.r (.pick (.t 20) (.c (.bool true)) (.t 22)))⟩])
  (.cond (.t 23)
   (.seq (.region [.op ⟨(some 4), none, (.r (.mv (.c (.bool false))))⟩])
   .ret)
   .skip))
  (.seq (.region [.op ⟨(some 24), none, (.r (.mv (.t 6)))⟩,
    .op ⟨(some 25), none, (.e (.call n_cluster_Cluster_Frames [(.t 24)]))⟩,
    .op ⟨(some 8), none, (.r (.mv (.t 25)))⟩])
  (.seq (.seq (.region [.op ⟨(some 9), none, (.r (.mv (.c (.int .i64 (.ofNat 0)))))⟩])
  (.block 0 (.loop l0_depotlaw24_ClusterIgnores)))
  (.seq (.region [.op ⟨(some 77), none, (.r (.mv (.t 6)))⟩,
    .op ⟨(some 78), none, (.e (.call n_cluster_Cluster_Frames [(.t 77)]))⟩,
    .op ⟨(some 79), none, (.r (.mv (.t 8)))⟩,
    .op ⟨(some 80), none, (.e (.call n_depotbook_Same_api_Frame [(.t 78), (.t 79)]))⟩,
    .op ⟨(some 81), none, (.r (.mv (.t 80)))⟩,
    .op ⟨(some 82), (some (81, true)), (.r (.mv (.t 8)))⟩,
    .op ⟨(some 83), (some (81, true)), (.r (.lensl (.t 82)))⟩,
    .op ⟨(some 84), (some (81, true)), (.r (.faddr 3 (.t 5)))⟩,
    .op ⟨(some 85), (some (81, true)), (.r (.load false 1 (.t 84)))⟩,
    .op ⟨(some 86), (some (81, true)), (.r (.bin .eql (.t 83) (.t 85)))⟩,
    .op ⟨(some 87), none, (.r (.pick (.t 81) (.t 86) (.c (.bool false))))⟩,
    .op ⟨(some 88), none, (.r (.mv (.t 87)))⟩,
    .op ⟨(some 89), (some (88, true)), (.r (.mv (.t 6)))⟩,
    .op ⟨(some 90), (some (88, true)), (.e (.call n_cluster_Cluster_History [(.t 89)]))⟩,
    .op ⟨(some 91), (some (88, true)), (.r (.lensl (.t 90)))⟩,
    .op ⟨(some 92), (some (88, true)), (.r (.bin .eql (.t 91) (.c (.int .i64 (.ofNat 0)))))⟩,
    .op ⟨(some 93), none, (.r (.pick (.t 88) (.t 92) (.c (.bool false))))⟩,
    .op ⟨(some 94), none, (.r (.mv (.t 93)))⟩,
    .op ⟨(some 95), (some (94, true)), (.e (.call n_depotlaw24_ClusterRuns []))⟩,
    .op ⟨(some 96), none, (.r (.pick (.t 94) (.t 95) (.c (.bool false))))⟩,
    .op ⟨(some 4), none, (.r (.mv (.t 96)))⟩])
  .ret))))))) }
theorem tr_depotlaw24_ClusterIgnores : trF cx Tryz.f4 = pf_depotlaw24_ClusterIgnores := by kernel_rfl
def l0_cluster_New : PC :=
  (.seq (.region [qo 27 (.bin .lss (.t 26) (.t 25))])
  (.seq (.cond (.t 27)
   .skip
   (.exit 0))
  (.seq (.block 1 (.seq (.region [qm 28 26,
     qm 7 28])
   (.seq (.region [qm 30 7,
     qo 31 (.faddr 4 (.t 1)),
     qo 32 (.load false 1 (.t 31)),
     qo 33 (.faddr 5 (.t 1)),
     qo 34 (.load false 1 (.t 33)),
     qe 35 (.call 17 [(.t 30), (.t 32), (.t 34)]),
     qm 29 35,
     qo 36 (.ext 0 (.t 29)),
     qo 37 (.ext 1 (.t 29)),
     qm 8 36,
     qm 9 37])
   (.seq (.seq (.region [qm 38 9,
     qo 39 (.bin .neq (.t 38) (.c (.int .i64 (.ofNat 0))))])
   (.cond (.t 39)
    (.seq (.region [qm 40 9,
      qo 2 (.mv (.c .nilp)),
      qm 3 40])
    .ret)
    .skip))
   (.region [qm 41 6,
     qm 42 6,
     qo 43 (.nilck (.t 42)),
     qo 44 (.faddr 7 (.t 43)),
     qo 45 (.load false 1 (.t 44)),
     qm 46 8,
     qn 47 (.bslice 0 1 1 [.nilp] [(0, 1, (.t 46))]),
     qe 48 (.app 0 1 8 (.t 45) (.t 47)),
     qo 49 (.nilck (.t 41)),
     qo 50 (.faddr 7 (.t 49)),
     qx (.store 1 (.t 50) (.t 48))])))))
  (.region [qo 51 (.bin .add (.t 26) (.c (.int .i64 (.ofNat 1)))),
    qm 26 51]))))
def l1_cluster_New : PC :=
  (.seq (.region [qo 53 (.bin .lss (.t 52) (.c (.int .i64 (.ofNat 6))))])
  (.seq (.cond (.t 53)
   .skip
   (.exit 2))
  (.seq (.block 3 (.seq (.region [qm 54 52,
     qm 10 54])
   (.region [qm 55 6,
     qm 56 10,
     qo 58 (.nilck (.t 55)),
     qo 59 (.faddr 9 (.t 58)),
     qe 57 (.call 18 []),
     qo 60 (.iaarr 6 3 (.t 59) (.t 56)),
     qo 61 (.faddr 0 (.t 60)),
     qx (.store 1 (.t 61) (.t 57))])))
  (.region [qo 62 (.bin .add (.t 52) (.c (.int .i64 (.ofNat 1)))),
    qm 52 62]))))
/-- depot/cluster.New -/
def pf_cluster_New : PF := { ntmps := 66, results := [.tmp 2, .tmp 3], body :=
  (.seq (.region [qn 1 (.box (.t 0)),
    qo 2 (.mv (.c .nilp)),
    qo 3 (.mv (.c (.int .i64 (.ofNat 0))))])
  (.seq (.region [qo 12 (.load true 6 (.t 1)),
    qe 13 (.call 15 [(.t 12)]),
    qm 11 13,
    qo 14 (.ext 0 (.t 11)),
    qo 15 (.ext 1 (.t 11)),
    qm 4 14,
    qm 5 15])
  (.seq (.seq (.region [qm 16 5,
    qo 17 (.bin .neq (.t 16) (.c (.int .i64 (.ofNat 0))))])
  (.cond (.t 17)
   (.seq (.region [qm 18 5,
     qo 2 (.mv (.c .nilp)),
     qm 3 18])
   .ret)
   .skip))
  (.seq (.region [qo 19 (.load true 6 (.t 1)),
    qm 20 4,
    qe 21 (.call 16 []),
    .again ⟨(some 19), none, (.r (.load true 6 (.t 1)))⟩,
    qo 22 (.build [(.int .i64 (.ofNat 0)), (.int .i64 (.ofNat 0)), (.int .i64 (.ofNat 0)), (.int .i64 (.ofNat 0)), (.int .i64 (.ofNat 0)), (.int .i64 (.ofNat 0)), .nilp, .nils, .nilp, .nilp, .nils, (.str []), .nilp, .nils, (.str []), .nilp, .nils, (.str []), .nilp, .nils, (.str []), .nilp, .nils, (.str []), .nilp, .nils, (.str []), .nils] [(0, 6, (.t 19)), (6, 1, (.t 20)), (8, 1, (.t 21))]),
    qn 23 (.box (.t 22)),
    qm 6 23])
  (.seq (.seq (.region [qo 24 (.faddr 3 (.t 1)),
    qo 25 (.load false 1 (.t 24)),
    qo 26 (.mv (.c (.int .i64 (.ofNat 0))))])
  (.block 0 (.loop l0_cluster_New)))
  (.seq (.seq (.region [qo 52 (.mv (.c (.int .i64 (.ofNat 0))))])
  (.block 2 (.loop l1_cluster_New)))
  (.seq (.region [qm 63 6,
    qe 64 (.call 19 [(.t 63)])])
  (.seq (.region [qm 65 6,
    qm 2 65,
    qo 3 (.mv (.c (.int .i64 (.ofNat 0))))])
  .ret)))))))) }
theorem tr_cluster_New : trF cx Tryz.f5 = pf_cluster_New := by kernel_rfl
def l0_depotlaw24_ClusterRuns_1 : PC :=
  (.seq (.seq (.region [qm 2 1,
    qo 3 (.bin .lss (.t 2) (.c (.int .i64 (.ofNat 300)))),
    qm 4 3,
    qh 5 4 true (.load false 1 (.t 0)),
    qh 6 4 true (.build [(.int .i64 (.ofNat 0)), (.int .i64 (.ofNat 0)), (.str [])] [(0, 1, (.c (.int .i64 (.ofNat 2))))]),
    .op ⟨(some 7), (some (4, true)), (.e (.call 7 [(.t 5), (.t 6)]))⟩,
    qo 8 (.pick (.t 4) (.t 7) (.c (.bool false)))])
  (.cond (.t 8)
   .skip
   (.exit 0)))
  (.seq (.block 1 .skip)
  (.region [qm 9 1,
    qo 10 (.bin .add (.t 9) (.c (.int .i64 (.ofNat 1)))),
    qm 1 10])))
/-- depot/depotlaw24.ClusterRuns$1 -/
def pf_depotlaw24_ClusterRuns_1 : PF := { ntmps := 11, results := [], body :=
  (.seq (.region [qo 1 (.mv (.c (.int .i64 (.ofNat 0))))])
  (.block 0 (.loop l0_depotlaw24_ClusterRuns_1))) }
theorem tr_depotlaw24_ClusterRuns_1 : trF cx Tryz.f6 = pf_depotlaw24_ClusterRuns_1 := by kernel_rfl
/-- (*depot/cluster.Cluster).Do -/
def pf_cluster_Cluster_Do : PF := { ntmps := 56, results := [.tmp 4], body :=
  (.seq (.region [.op ⟨(some 3), none, (.n (.box (.t 1)))⟩,
    .op ⟨(some 4), none, (.r (.mv (.c (.bool false))))⟩])
  (.seq (.region [.op ⟨(some 5), none, (.r (.mv (.c (.bool true))))⟩])
  (.seq (.seq (.region [.op ⟨(some 6), none, (.r (.faddr 0 (.t 3)))⟩,
    .op ⟨(some 7), none, (.r (.load false 1 (.t 6)))⟩])
  (.block 0 (.seq (.region [.op ⟨(some 9), none, (.r (.bin .eql (.t 7) (.c (.int .i64 (.ofNat 1)))))⟩,
     .op ⟨(some 8), none, (.r (.mv (.t 9)))⟩])
   (.cond (.t 8)
    (.region [.op ⟨(some 10), none, (.r (.mv (.t 0)))⟩,
      .op ⟨(some 11), none, (.r (.load true 3 (.t 3)))⟩,
      .op ⟨(some 12), none, (.e (.call n_cluster_Cluster_send [(.t 10), (.t 11)]))⟩,
      .op ⟨(some 5), none, (.r (.mv (.t 12)))⟩])
    (.seq (.seq (.region [.op ⟨(some 14), none, (.r (.bin .eql (.t 7) (.c (.int .i64 (.ofNat 2)))))⟩,
      .op ⟨(some 13), none, (.r (.mv (.t 14)))⟩])
    (.cond (.t 13)
     .skip
     (.seq (.region [.op ⟨(some 15), none, (.r (.bin .eql (.t 7) (.c (.int .i64 (.ofNat 3)))))⟩,
       .op ⟨(some 13), none, (.r (.mv (.t 15)))⟩])
     (.cond (.t 13)
      .skip
      (.region [.op ⟨(some 16), none, (.r (.bin .eql (.t 7) (.c (.int .i64 (.ofNat 4)))))⟩,
        .op ⟨(some 13), none, (.r (.mv (.t 16)))⟩])))))
    (.cond (.t 13)
     (.region [.op ⟨(some 17), none, (.r (.mv (.t 0)))⟩,
       .op ⟨(some 18), none, (.r (.load true 3 (.t 3)))⟩,
       .op ⟨(some 19), none, (.e (.call n_cluster_Cluster_frame [(.t 17), (.t 18)]))⟩,
       .op ⟨(some 5), none, (.r (.mv (.t 19)))⟩])
     (.seq (.region [.op ⟨(some 21), none, (.r (.bin .eql (.t 7) (.c (.int .i64 (.ofNat 5)))))⟩,
       .op ⟨(some 20), none, (.r (.mv (.t 21)))⟩])
     (.cond (.t 20)
      (.region [.op ⟨(some 22), none, (.r (.mv (.t 0)))⟩,
        .op ⟨(some 23), none, (.r (.nilck (.t 22)))⟩,
        .op ⟨(some 24), none, (.r (.faddr 6 (.t 23)))⟩,
        .op ⟨(some 25), none, (.r (.load false 1 (.t 24)))⟩,
        .op ⟨(some 26), none, (.r (.bad))⟩])
      (.seq (.region [.op ⟨(some 28), none, (.r (.bin .eql (.t 7) (.c (.int .i64 (.ofNat 6)))))⟩,
        .op ⟨(some 27), none, (.r (.mv (.t 28)))⟩])
      (.cond (.t 27)
       (.seq (.region [.op ⟨(some 29), none, (.r (.faddr 1 (.t 3)))⟩,
         .op ⟨(some 30), none, (.r (.load false 1 (.t 29)))⟩,
         .op ⟨(some 31), none, (.r (.bin .geq (.t 30) (.c (.int .i64 (.ofNat 0)))))⟩,
         .op ⟨(some 32), none, (.r (.mv (.t 31)))⟩,
         .op ⟨(some 33), (some (32, true)), (.r (.faddr 1 (.t 3)))⟩,
         .op ⟨(some 34), (some (32, true)), (.r (.load false 1 (.t 33)))⟩,
         .op ⟨(some 35), (some (32, true)), (.r (.mv (.t 0)))⟩,
         .op ⟨(some 36), (some (32, true)), (.r (.nilck (.t 35)))⟩,
         .op ⟨(some 37), (some (32, true)), (.r (.faddr 7 (.t 36)))⟩,
         .op ⟨(some 38), (some (32, true)), (.r (.load false 1 (.t 37)))⟩,
         .op ⟨(some 39), (some (32, true)), (.r (.lensl (.t 38)))⟩,
         .op ⟨(some 40), (some (32, true)), (.r (.bin .lss (.t 34) (.t 39)))⟩,
         .op ⟨(some 41), none, (.r (.pick (.t 32) (.t 40) (.c (.bool false))))⟩,
         .op ⟨(some 5), none, (.r (.mv (.t 41)))⟩])
       (.seq (.region [.op ⟨(some 42), none, (.r (.mv (.t 5)))⟩])
       (.cond (.t 42)
        (.region [.op ⟨(some 43), none, (.r (.mv (.t 0)))⟩,
          .op ⟨(some 44), none, (.r (.nilck (.t 43)))⟩,
          .op ⟨(some 45), none, (.r (.faddr 7 (.t 44)))⟩,
          .op ⟨(some 46), none, (.r (.load false 1 (.t 45)))⟩,
          .op ⟨(some 47), none, (.r (.faddr 1 (.t 3)))⟩,
          .op ⟨(some 48), none, (.r (.load false 1 (.t 47)))⟩,
          .op ⟨(some 49), none, (.r (.iasl 1 (.t 46) (.t 48)))⟩,
          .op ⟨(some 50), none, (.r (.load false 1 (.t 49)))⟩,
          .op ⟨(some 51), none, (.r (.bad))⟩])
        .skip)))
       (.region [.op ⟨(some 5), none, (.r (.mv (.c (.bool false))))⟩])))))))))))
  (.seq (.seq (.region [.op ⟨(some 52), none, (.r (.mv (.t 5)))⟩])
  (.cond (.t 52)
   (.region [.op ⟨(some 53), none, (.r (.mv (.t 0)))⟩,
     .op ⟨(some 54), none, (.e (.call n_cluster_Cluster_settle [(.t 53)]))⟩])
   .skip))
  (.seq (.region [.op ⟨(some 55), none, (.r (.mv (.t 5)))⟩,
    .op ⟨(some 4), none, (.r (.mv (.t 55)))⟩])
  .ret))))) }
theorem tr_cluster_Cluster_Do : trF cx Tryz.f7 = pf_cluster_Cluster_Do := by kernel_rfl
/-- (*depot/cluster.Cluster).Said -/
def pf_cluster_Cluster_Said : PF := { ntmps := 15, results := [.tmp 4], body :=
  (.seq (.region [qo 4 (.mv (.c (.str [])))])
  (.seq (.seq (.region [qm 5 1,
    qe 6 (.call 24 [(.t 5)]),
    qo 7 (.un .not (.t 6))])
  (.cond (.t 7)
   (.seq (.region [qo 4 (.mv (.c (.str [])))])
   .ret)
   .skip))
  (.seq (.region [qm 8 0,
    qm 9 1,
    qo 10 (.nilck (.t 8)),
    qo 11 (.faddr 9 (.t 10)),
    qo 12 (.iaarr 6 3 (.t 11) (.t 9)),
    qo 13 (.faddr 2 (.t 12)),
    qo 14 (.load false 1 (.t 13)),
    qm 4 14])
  .ret))) }
theorem tr_cluster_Cluster_Said : trF cx Tryz.f8 = pf_cluster_Cluster_Said := by kernel_rfl
/-- (*depot/cluster.Cluster).Due -/
def pf_cluster_Cluster_Due : PF := { ntmps := 16, results := [.tmp 4], body :=
  (.seq (.region [qo 4 (.mv (.c (.int .i64 (.ofNat 0))))])
  (.seq (.seq (.region [qm 5 1,
    qe 6 (.call 24 [(.t 5)]),
    qo 7 (.un .not (.t 6))])
  (.cond (.t 7)
   (.seq (.region [qo 4 (.mv (.c (.int .i64 (.ofNat 0))))])
   .ret)
   .skip))
  (.seq (.region [qm 8 0,
    qm 9 1,
    qo 10 (.nilck (.t 8)),
    qo 11 (.faddr 9 (.t 10)),
    qo 12 (.iaarr 6 3 (.t 11) (.t 9)),
    qo 13 (.faddr 1 (.t 12)),
    qo 14 (.load false 1 (.t 13)),
    qo 15 (.lensl (.t 14)),
    qm 4 15])
  .ret))) }
theorem tr_cluster_Cluster_Due : trF cx Tryz.f9 = pf_cluster_Cluster_Due := by kernel_rfl
def l0_cluster_Cluster_History : PC :=
  (.seq (.region [.op ⟨(some 13), none, (.r (.bin .lss (.t 12) (.t 11)))⟩])
  (.seq (.cond (.t 13)
   .skip
   (.exit 0))
  (.seq (.block 1 (.seq (.region [.op ⟨(some 14), none, (.r (.mv (.t 12)))⟩,
     .op ⟨(some 4), none, (.r (.mv (.t 14)))⟩])
   (.region [.op ⟨(some 15), none, (.r (.mv (.t 3)))⟩,
     .op ⟨(some 16), none, (.r (.mv (.t 4)))⟩,
     .op ⟨(some 17), none, (.r (.mv (.t 3)))⟩,
     .op ⟨(some 18), none, (.r (.mv (.t 4)))⟩,
     .op ⟨(some 19), none, (.r (.mv (.t 3)))⟩,
     .op ⟨(some 20), none, (.r (.mv (.t 4)))⟩,
     .op ⟨(some 21), none, (.r (.iasl 20 (.t 19) (.t 20)))⟩,
     .op ⟨(some 22), none, (.r (.faddr 2 (.t 21)))⟩,
     .op ⟨(some 23), none, (.r (.load true 9 (.t 22)))⟩,
     .op ⟨(some 25), none, (.r (.mv (.t 3)))⟩,
     .op ⟨(some 26), none, (.r (.mv (.t 4)))⟩,
     .op ⟨(some 27), none, (.r (.iasl 20 (.t 25) (.t 26)))⟩,
     .op ⟨(some 28), none, (.r (.faddr 11 (.t 27)))⟩,
     .op ⟨(some 29), none, (.r (.load true 9 (.t 28)))⟩,
     .op ⟨(some 24), none, (.e (.call n_cluster_copied [(.t 23)]))⟩,
     .again ⟨(some 29), none, (.r (.load true 9 (.t 28)))⟩,
     .op ⟨(some 30), none, (.e (.call n_cluster_answered [(.t 29)]))⟩,
     .op ⟨(some 31), none, (.r (.iasl 20 (.t 15) (.t 16)))⟩,
     .op ⟨(some 32), none, (.r (.faddr 2 (.t 31)))⟩,
     .op ⟨none, none, (.e (.store 9 (.t 32) (.t 24)))⟩,
     .op ⟨(some 33), none, (.r (.iasl 20 (.t 17) (.t 18)))⟩,
     .op ⟨(some 34), none, (.r (.faddr 11 (.t 33)))⟩,
     .op ⟨none, none, (.e (.store 9 (.t 34) (.t 30)))⟩])))
  (.region [.op ⟨(some 35), none, (.r (.bin .add (.t 12) (.c (.int .i64 (.ofNat 1)))))⟩,
    .op ⟨(some 12), none, (.r (.mv (.t 35)))⟩]))))
/-- (*depot/cluster.Cluster).History -/
def pf_cluster_Cluster_History : PF := { ntmps := 37, results := [.tmp 2], body :=
  (.seq (.region [.op ⟨(some 2), none, (.r (.mv (.c .nils)))⟩])
  (.seq (.region [.op ⟨(some 5), none, (.r (.mv (.t 0)))⟩,
    .op ⟨(some 6), none, (.r (.nilck (.t 5)))⟩,
    .op ⟨(some 7), none, (.r (.faddr 27 (.t 6)))⟩,
    .op ⟨(some 8), none, (.r (.load false 1 (.t 7)))⟩,
    .op ⟨(some 9), none, (.e (.call n_slices_Clone_api_Event_api_Event [(.t 8)]))⟩,
    .op ⟨(some 3), none, (.r (.mv (.t 9)))⟩])
  (.seq (.seq (.region [.op ⟨(some 10), none, (.r (.mv (.t 3)))⟩,
    .op ⟨(some 11), none, (.r (.lensl (.t 10)))⟩,
    .op ⟨(some 12), none, (.r (.mv (.c (.int .i64 (.ofNat 0)))))⟩])
  (.block 0 (.loop l0_cluster_Cluster_History)))
  (.seq (.region [.op ⟨(some 36), none, (.r (.mv (.t 3)))⟩,
    .op ⟨(some 2), none, (.r (.mv (.t 36)))⟩])
  .ret)))) }
theorem tr_cluster_Cluster_History : trF cx Tryz.f10 = pf_cluster_Cluster_History := by kernel_rfl
/-- depot/depotkeep.Config -/
def pf_depotkeep_Config : PF := { ntmps := 28, results := [.cell 2 true 6], body :=
  (.seq (.region [qn 1 (.box (.t 0)),
    qn 2 (.new 0 [(.int .i64 (.ofNat 0)), (.int .i64 (.ofNat 0)), (.int .i64 (.ofNat 0)), (.int .i64 (.ofNat 0)), (.int .i64 (.ofNat 0)), (.int .i64 (.ofNat 0))])])
  (.seq (.region [qo 5 (.faddr 0 (.t 1)),
    qo 6 (.load false 1 (.t 5)),
    qo 8 (.faddr 1 (.t 1)),
    qo 9 (.load false 1 (.t 8)),
    qe 7 (.call 13 [(.t 6), (.c (.int .i64 (.ofNat 1))), (.c (.int .i64 (.ofNat 4)))]),
    .again ⟨(some 9), none, (.r (.load false 1 (.t 8)))⟩,
    qe 10 (.call 13 [(.t 9), (.c (.int .i64 (.ofNat 0))), (.c (.int .i64 (.ofNat 3)))]),
    qm 3 7,
    qm 4 10])
  (.seq (.region [qm 11 3,
    qm 12 4,
    qo 13 (.faddr 2 (.t 1)),
    qo 14 (.load false 1 (.t 13)),
    qm 15 4,
    qm 17 3,
    qm 18 4,
    qo 19 (.bin .add (.t 17) (.t 18)),
    qo 20 (.faddr 3 (.t 1)),
    qo 21 (.load false 1 (.t 20)),
    qo 24 (.faddr 4 (.t 1)),
    qo 25 (.load false 1 (.t 24)),
    qe 16 (.call 13 [(.t 14), (.c (.int .i64 (.ofNat 0))), (.t 15)]),
    .again ⟨(some 25), none, (.r (.load false 1 (.t 24)))⟩,
    .again ⟨(some 21), none, (.r (.load false 1 (.t 20)))⟩,
    qe 22 (.call 13 [(.t 21), (.c (.int .i64 (.ofNat 0))), (.c (.int .i64 (.ofNat 3)))]),
    .again ⟨(some 25), none, (.r (.load false 1 (.t 24)))⟩,
    qo 23 (.bin .add (.t 19) (.t 22)),
    qe 26 (.call 13 [(.t 25), (.c (.int .i64 (.ofNat 16))), (.c (.int .i64 (.ofNat 48)))]),
    qo 27 (.build [(.int .i64 (.ofNat 0)), (.int .i64 (.ofNat 0)), (.int .i64 (.ofNat 0)), (.int .i64 (.ofNat 0)), (.int .i64 (.ofNat 0)), (.int .i64 (.ofNat 0))] [(0, 1, (.t 11)), (1, 1, (.t 12)), (2, 1, (.t 16)), (3, 1, (.t 23)), (4, 1, (.t 26)), (5, 1, (.c (.int .i64 (.ofNat 4096))))]),
    qx (.store 6 (.t 2) (.t 27))])
  .ret))) }
theorem tr_depotkeep_Config : trF cx Tryz.f11 = pf_depotkeep_Config := by kernel_rfl
/-- (*depot/cluster.Cluster).Frames -/
def pf_cluster_Cluster_Frames : PF := { ntmps := 8, results := [.tmp 2], body :=
  (.seq (.region [.op ⟨(some 2), none, (.r (.mv (.c .nils)))⟩])
  (.seq (.region [.op ⟨(some 3), none, (.r (.mv (.t 0)))⟩,
    .op ⟨(some 4), none, (.r (.nilck (.t 3)))⟩,
    .op ⟨(some 5), none, (.r (.faddr 8 (.t 4)))⟩,
    .op ⟨(some 6), none, (.r (.load false 1 (.t 5)))⟩,
    .op ⟨(some 7), none, (.e (.call n_net_Net_List [(.t 6)]))⟩,
    .op ⟨(some 2), none, (.r (.mv (.t 7)))⟩])
  .ret)) }
theorem tr_cluster_Cluster_Frames : trF cx Tryz.f12 = pf_cluster_Cluster_Frames := by kernel_rfl
/-- depot/depotbook.Within -/
def pf_depotbook_Within : PF := { ntmps := 24, results := [.tmp 6], body :=
  (.seq (.region [.op ⟨(some 6), none, (.r (.mv (.c (.int .i64 (.ofNat 0)))))⟩])
  (.seq (.region [.op ⟨(some 7), none, (.r (.mv (.t 0)))⟩,
    .op ⟨(some 8), none, (.r (.mv (.t 2)))⟩,
    .op ⟨(some 9), none, (.r (.mv (.t 1)))⟩,
    .op ⟨(some 10), none, (.r (.bin .sub (.t 8) (.t 9)))⟩,
    .op ⟨(some 11), none, (.r (.bin .add (.t 10) (.c (.int .i64 (.ofNat 1)))))⟩,
    .op ⟨(some 12), none, (.r (.bin .rem (.t 7) (.t 11)))⟩,
    .op ⟨(some 0), none, (.r (.mv (.t 12)))⟩])
  (.seq (.seq (.region [.op ⟨(some 13), none, (.r (.mv (.t 0)))⟩,
    .op ⟨(some 14), none, (.r (.bin .lss (.t 13) (.c (.int .i64 (.ofNat 0)))))⟩])
  (.cond (.t 14)
   (.region [.op ⟨(some 15), none, (.r (.mv (.t 0)))⟩,
     .op ⟨(some 16), none, (.r (.mv (.t 2)))⟩,
     .op ⟨(some 17), none, (.r (.bin .add (.t 15) (.t 16)))⟩,
     .op ⟨(some 18), none, (.r (.mv (.t 1)))⟩,
     .op ⟨(some 19), none, (.r (.bin .sub (.t 17) (.t 18)))⟩,
     .op ⟨(some 20), none, (.r (.bin .add (.t 19) (.c (.int .i64 (.ofNat 1)))))⟩,
     .op ⟨(some 0), none, (.r (.mv (.t 20)))⟩])
   .skip))
  (.seq (.region [.op ⟨(some 21), none, (.r (.mv (.t 1)))⟩,
    .op ⟨(some 22), none, (.r (.mv (.t 0)))⟩,
    .op ⟨(some 23), none, (.r (.bin .add (.t 21) (.t 22)))⟩,
    .op ⟨(some 6), none, (.r (.mv (.t 23)))⟩])
  .ret)))) }
theorem tr_depotbook_Within : trF cx Tryz.f13 = pf_depotbook_Within := by kernel_rfl
def l0_depotbook_Same_api_Frame : PC :=
  (.seq (.seq (.region [.op ⟨(some 11), none, (.r (.mv (.t 5)))⟩,
    .op ⟨(some 12), none, (.r (.mv (.t 0)))⟩,
    .op ⟨(some 13), none, (.r (.lensl (.t 12)))⟩,
    .op ⟨(some 14), none, (.r (.bin .lss (.t 11) (.t 13)))⟩])
  (.cond (.t 14)
   .skip
   (.exit 0)))
  (.seq (.block 1 (.seq (.region [.op ⟨(some 17), none, (.r (.mv (.t 0)))⟩,
     .op ⟨(some 18), none, (.r (.mv (.t 5)))⟩,
     .op ⟨(some 19), none, (.r (.iasl 9 (.t 17) (.t 18)))⟩,
     .op ⟨(some 20), none, (.r (.load true 9 (.t 19)))⟩,
     .op ⟨(some 21), none, (.r (.mv (.t 1)))⟩,
     .op ⟨(some 22), none, (.r (.mv (.t 5)))⟩,
     .op ⟨(some 23), none, (.r (.iasl 9 (.t 21) (.t 22)))⟩,
     .op ⟨(some 24), none, (.r (.load true 9 (.t 23)))⟩,
     .op ⟨(some 25), none, (.r (.eqa true [(.i .i64), (.i .i64), (.i .i64), (.i .i64), (.i .i64), (.i .i64), .s, (.i .i64), .s] (.t 20) (.t 24)))⟩])
   (.cond (.t 25)
    (.seq (.region [.op ⟨(some 4), none, (.r (.mv (.c (.bool false))))⟩])
    .ret)
    .skip)))
  (.region [.op ⟨(some 15), none, (.r (.mv (.t 5)))⟩,
    .op ⟨(some 16), none, (.r (.bin .add (.t 15) (.c (.int .i64 (.ofNat 1)))))⟩,
    .op ⟨(some 5), none, (.r (.mv (.t 16)))⟩])))
/-- depot/depotbook.Same[depot/api.Frame] -/
def pf_depotbook_Same_api_Frame : PF := { ntmps := 26, results := [.tmp 4], body :=
  (.seq (.region [.op ⟨(some 4), none, (.r (.mv (.c (.bool false))))⟩])
  (.seq (.seq (.region [.op ⟨(some 6), none, (.r (.mv (.t 0)))⟩,
    .op ⟨(some 7), none, (.r (.lensl (.t 6)))⟩,
    .op ⟨(some 8), none, (.r (.mv (.t 1)))⟩,
    .op ⟨(some 9), none, (.r (.lensl (.t 8)))⟩,
    .op ⟨(some 10), none, (.r (.bin .neq (.t 7) (.t 9)))⟩])
  (.cond (.t 10)
   (.seq (.region [.op ⟨(some 4), none, (.r (.mv (.c (.bool false))))⟩])
   .ret)
   .skip))
  (.seq (.seq (.region [.op ⟨(some 5), none, (.r (.mv (.c (.int .i64 (.ofNat 0)))))⟩])
  (.block 0 (.loop l0_depotbook_Same_api_Frame)))
  (.seq (.region [.op ⟨(some 4), none, (.r (.mv (.c (.bool true))))⟩])
  .ret)))) }
theorem tr_depotbook_Same_api_Frame : trF cx Tryz.f14 = pf_depotbook_Same_api_Frame := by kernel_rfl
def l0_router_New : PC :=
  (.seq (.region [qo 25 (.bin .lss (.t 24) (.t 23))])
  (.seq (.cond (.t 25)
   .skip
   (.exit 0))
  (.seq (.block 1 (.seq (.region [qm 26 24,
     qm 5 26])
   (.region [qm 27 4,
     qm 28 5,
     qe 29 (.call 32 [(.t 27), (.t 28)])])))
  (.region [qo 30 (.bin .add (.t 24) (.c (.int .i64 (.ofNat 1)))),
    qm 24 30]))))
/-- depot/router.New -/
def pf_router_New : PF := { ntmps := 32, results := [.tmp 2, .tmp 3], body :=
  (.seq (.region [qn 1 (.box (.t 0)),
    qo 2 (.mv (.c .nilp)),
    qo 3 (.mv (.c (.int .i64 (.ofNat 0))))])
  (.seq (.seq (.region [qo 6 (.load true 6 (.t 1)),
    qe 7 (.call 29 [(.t 6)]),
    qo 8 (.un .not (.t 7))])
  (.cond (.t 8)
   (.seq (.region [qo 2 (.mv (.c .nilp)),
     qo 3 (.mv (.c (.int .i64 (.ofNat 1))))])
   .ret)
   .skip))
  (.seq (.region [qo 9 (.load true 6 (.t 1)),
    qe 10 (.call 30 []),
    .again ⟨(some 9), none, (.r (.load true 6 (.t 1)))⟩,
    qo 11 (.build ([(.int .i64 (.ofNat 0)), (.int .i64 (.ofNat 0)), (.int .i64 (.ofNat 0)), (.int .i64 (.ofNat 0)), (.int .i64 (.ofNat 0)), (.int .i64 (.ofNat 0))] ++ ([.nilp, .nilp] ++ ([(.int .i64 (.ofNat 0)), (.int .i64 (.ofNat 0)), (.int .i64 (.ofNat 0))] ++ ([.nils, .nils, .nils, .nils] ++ (rep 12 [.nilp] ++ ([(.int .i64 (.ofNat 0)), (.int .i64 (.ofNat 0)), (.int .i64 (.ofNat 0)), (.int .i64 (.ofNat 0)), (.int .i64 (.ofNat 0))] ++ ([.nils, .nils]))))))) [(0, 6, (.t 9)), (7, 1, (.t 10))]),
    qn 12 (.box (.t 11)),
    qm 4 12])
  (.seq (.region [qm 14 4,
    qo 15 (.faddr 3 (.t 1)),
    qo 16 (.load false 1 (.t 15)),
    qe 17 (.call 31 [(.t 16)]),
    qm 13 17,
    qo 18 (.ext 0 (.t 13)),
    qo 19 (.ext 1 (.t 13)),
    qo 20 (.nilck (.t 14)),
    qo 21 (.faddr 6 (.t 20)),
    qx (.store 1 (.t 21) (.t 18))])
  (.seq (.seq (.region [qo 22 (.faddr 3 (.t 1)),
    qo 23 (.load false 1 (.t 22)),
    qo 24 (.mv (.c (.int .i64 (.ofNat 0))))])
  (.block 0 (.loop l0_router_New)))
  (.seq (.region [qm 31 4,
    qm 2 31,
    qo 3 (.mv (.c (.int .i64 (.ofNat 0))))])
  .ret)))))) }
theorem tr_router_New : trF cx Tryz.f15 = pf_router_New := by kernel_rfl
/-- depot/net.New -/
def pf_net_New : PF := { ntmps := 3, results := [.tmp 0], body :=
  (.seq (.region [qo 0 (.mv (.c .nilp))])
  (.seq (.region [qo 1 (.build [.nils] []),
    qn 2 (.box (.t 1)),
    qm 0 2])
  .ret)) }
theorem tr_net_New : trF cx Tryz.f16 = pf_net_New := by kernel_rfl
/-- depot/slot.New -/
def pf_slot_New : PF := { ntmps := 31, results := [.tmp 6, .tmp 7], body :=
  (.seq (.region [qo 6 (.mv (.c .nilp)),
    qo 7 (.mv (.c (.int .i64 (.ofNat 0))))])
  (.seq (.seq (.region [qm 10 0,
    qo 11 (.bin .lss (.t 10) (.c (.int .i64 (.ofNat 0)))),
    qm 12 11,
    qg 13 12 false 0,
    qh 14 12 false (.bin .geq (.t 13) (.c (.int .i64 (.ofNat 12)))),
    qo 15 (.pick (.t 12) (.c (.bool true)) (.t 14))])
  (.cond (.t 15)
   (.seq (.region [qo 6 (.mv (.c .nilp)),
     qo 7 (.mv (.c (.int .i64 (.ofNat 1))))])
   .ret)
   .skip))
  (.seq (.region [qm 17 1,
    qm 18 2,
    qe 19 (.call 33 [(.t 17), (.t 18)]),
    qm 16 19,
    qo 20 (.ext 0 (.t 16)),
    qo 21 (.ext 1 (.t 16)),
    qm 8 20,
    qm 9 21])
  (.seq (.seq (.region [qm 22 9,
    qo 23 (.bin .neq (.t 22) (.c (.int .i64 (.ofNat 0))))])
  (.cond (.t 23)
   (.seq (.region [qm 24 9,
     qo 6 (.mv (.c .nilp)),
     qm 7 24])
   .ret)
   .skip))
  (.seq (.region [qm 25 0,
    qm 26 1,
    qm 27 2,
    qm 28 8,
    qo 29 (.build [(.int .i64 (.ofNat 0)), (.int .i64 (.ofNat 0)), (.int .i64 (.ofNat 0)), (.bool false), (.int .i64 (.ofNat 0)), (.int .i64 (.ofNat 0)), .nilp, .nils] [(0, 1, (.t 25)), (1, 1, (.t 26)), (2, 1, (.t 27)), (6, 1, (.t 28))]),
    qn 30 (.box (.t 29)),
    qm 6 30,
    qo 7 (.mv (.c (.int .i64 (.ofNat 0))))])
  .ret))))) }
theorem tr_slot_New : trF cx Tryz.f17 = pf_slot_New := by kernel_rfl
/-- depot/parse.New -/
def pf_parse_New : PF := { ntmps := 3, results := [.tmp 0], body :=
  (.seq (.region [qo 0 (.mv (.c .nilp))])
  (.seq (.region [qo 1 (.build [(.int .i64 (.ofNat 0)), (.str []), (.int .i64 (.ofNat 0)), (.int .i64 (.ofNat 0)), .nils, (.int .i64 (.ofNat 0)), (.int .i64 (.ofNat 0)), (.int .i64 (.ofNat 0)), (.int .i64 (.ofNat 0)), (.int .u64 (.ofNat 0)), (.bool false), (.str []), (.bool false), .nils] []),
    qn 2 (.box (.t 1)),
    qm 0 2])
  .ret)) }
theorem tr_parse_New : trF cx Tryz.f18 = pf_parse_New := by kernel_rfl
def l0_cluster_Cluster_settle : PC :=
  (.seq (.region [qo 23 (.bin .lss (.t 22) (.t 21))])
  (.seq (.cond (.t 23)
   .skip
   (.exit 0))
  (.seq (.block 1 (.seq (.region [qo 24 (.iasl 9 (.t 20) (.t 22)),
     qo 25 (.load true 9 (.t 24)),
     qn 5 (.new 0 [(.int .i64 (.ofNat 0)), (.int .i64 (.ofNat 0)), (.int .i64 (.ofNat 0)), (.int .i64 (.ofNat 0)), (.int .i64 (.ofNat 0)), (.int .i64 (.ofNat 0)), (.str []), (.int .i64 (.ofNat 0)), (.str [])]),
     qx (.store 9 (.t 5) (.t 25))])
   (.region [qm 26 0,
     qo 27 (.nilck (.t 26)),
     qo 28 (.faddr 8 (.t 27)),
     qo 29 (.load false 1 (.t 28)),
     qo 30 (.load true 9 (.t 5)),
     qe 31 (.call 35 [(.t 29), (.t 30)])])))
  (.region [qo 32 (.bin .add (.t 22) (.c (.int .i64 (.ofNat 1)))),
    qm 22 32]))))
def l1_cluster_Cluster_settle : PC :=
  (.seq (.region [qo 66 (.bin .lss (.t 65) (.t 64))])
  (.seq (.cond (.t 66)
   .skip
   (.exit 6))
  (.seq (.block 7 (.seq (.region [qm 67 65,
     qm 9 67])
   (.seq (.region [qm 68 0,
     qm 69 8,
     qo 70 (.nilck (.t 68)),
     qo 71 (.faddr 9 (.t 70)),
     qo 72 (.iaarr 6 3 (.t 71) (.t 69)),
     qo 73 (.faddr 1 (.t 72)),
     qo 74 (.load false 1 (.t 73)),
     qm 75 9,
     qo 76 (.iasl 20 (.t 74) (.t 75)),
     qm 10 76])
   (.seq (.region [qm 77 10,
     qo 78 (.nilck (.t 77)),
     qo 79 (.faddr 0 (.t 78)),
     qo 80 (.load false 1 (.t 79)),
     qo 81 (.faddr 0 (.t 7)),
     qo 82 (.load false 1 (.t 81)),
     qo 83 (.bin .eql (.t 80) (.t 82)),
     qm 84 83,
     qg 85 84 true 10,
     qh 86 84 true (.nilck (.t 85)),
     qh 87 84 true (.faddr 19 (.t 86)),
     qh 88 84 true (.load false 1 (.t 87)),
     qh 89 84 true (.bin .eql (.t 88) (.c (.int .i64 (.ofNat 0)))),
     qo 90 (.pick (.t 84) (.t 89) (.c (.bool false)))])
   (.cond (.t 90)
    (.seq (.region [qm 91 10,
      qm 92 10,
      qo 93 (.faddr 1 (.t 7)),
      qo 94 (.load true 9 (.t 93)),
      qo 95 (.nilck (.t 91)),
      qo 96 (.faddr 10 (.t 95)),
      qx (.store 9 (.t 96) (.t 94)),
      qo 97 (.nilck (.t 92)),
      qo 98 (.faddr 19 (.t 97)),
      qx (.store 1 (.t 98) (.c (.int .i64 (.ofNat 1))))])
    (.exit 3))
    .skip)))))
  (.region [qo 99 (.bin .add (.t 65) (.c (.int .i64 (.ofNat 1)))),
    qm 65 99]))))
def l2_cluster_Cluster_settle : PC :=
  (.seq (.region [qo 55 (.bin .lss (.t 54) (.c (.int .i64 (.ofNat 6))))])
  (.seq (.cond (.t 55)
   .skip
   (.exit 4))
  (.seq (.block 5 (.seq (.region [qm 56 54,
     qm 8 56])
   (.seq (.region [qm 57 0,
     qm 58 8,
     qo 59 (.nilck (.t 57)),
     qo 60 (.faddr 9 (.t 59)),
     qo 61 (.iaarr 6 3 (.t 60) (.t 58)),
     qo 62 (.faddr 1 (.t 61)),
     qo 63 (.load false 1 (.t 62)),
     qo 64 (.lensl (.t 63)),
     qo 65 (.mv (.c (.int .i64 (.ofNat 0))))])
   (.block 6 (.loop l1_cluster_Cluster_settle)))))
  (.region [qo 100 (.bin .add (.t 54) (.c (.int .i64 (.ofNat 1)))),
    qm 54 100]))))
def l3_cluster_Cluster_settle : PC :=
  (.seq (.region [qo 36 (.bin .lss (.t 35) (.t 34))])
  (.seq (.cond (.t 36)
   .skip
   (.exit 2))
  (.seq (.block 3 (.seq (.region [qo 37 (.iasl 10 (.t 33) (.t 35)),
     qo 38 (.load true 10 (.t 37)),
     qn 7 (.new 0 [(.int .i64 (.ofNat 0)), (.int .i64 (.ofNat 0)), .nils, (.bool false), (.int .u64 (.ofNat 0)), (.str []), (.int .i64 (.ofNat 0)), (.int .i64 (.ofNat 0)), (.int .i64 (.ofNat 0)), (.int .i64 (.ofNat 0))]),
     qx (.store 10 (.t 7) (.t 38))])
   (.seq (.region [qm 39 0,
     qm 40 0,
     qo 41 (.nilck (.t 40)),
     qo 42 (.faddr 27 (.t 41)),
     qo 43 (.load false 1 (.t 42)),
     qo 44 (.faddr 0 (.t 7)),
     qo 45 (.load false 1 (.t 44)),
     qo 46 (.faddr 1 (.t 7)),
     qo 47 (.load true 9 (.t 46)),
     qe 48 (.call 27 [(.t 47)]),
     .again ⟨(some 45), none, (.r (.load false 1 (.t 44)))⟩,
     .again ⟨(some 43), none, (.r (.load false 1 (.t 42)))⟩,
     qo 49 (.build [(.int .i64 (.ofNat 0)), (.int .i64 (.ofNat 0)), (.int .i64 (.ofNat 0)), .nils, (.int .i64 (.ofNat 0)), (.int .i64 (.ofNat 0)), (.int .i64 (.ofNat 0)), (.int .i64 (.ofNat 0)), (.int .u64 (.ofNat 0)), (.bool false), (.str []), (.int .i64 (.ofNat 0)), .nils, (.bool false), (.int .u64 (.ofNat 0)), (.str []), (.int .i64 (.ofNat 0)), (.int .i64 (.ofNat 0)), (.int .i64 (.ofNat 0)), (.int .i64 (.ofNat 0))] [(0, 1, (.c (.int .i64 (.ofNat 2)))), (1, 1, (.t 45)), (11, 9, (.t 48))]),
     qn 50 (.bslice 0 20 1 [(.int .i64 (.ofNat 0)), (.int .i64 (.ofNat 0)), (.int .i64 (.ofNat 0)), .nils, (.int .i64 (.ofNat 0)), (.int .i64 (.ofNat 0)), (.int .i64 (.ofNat 0)), (.int .i64 (.ofNat 0)), (.int .u64 (.ofNat 0)), (.bool false), (.str []), (.int .i64 (.ofNat 0)), .nils, (.bool false), (.int .u64 (.ofNat 0)), (.str []), (.int .i64 (.ofNat 0)), (.int .i64 (.ofNat 0)), (.int .i64 (.ofNat 0)), (.int .i64 (.ofNat 0))] [(0, 20, (.t 49))]),
     qe 51 (.app 0 20 208 (.t 43) (.t 50)),
     qo 52 (.nilck (.t 39)),
     qo 53 (.faddr 27 (.t 52)),
     qx (.store 1 (.t 53) (.t 51))])
   (.seq (.region [qo 54 (.mv (.c (.int .i64 (.ofNat 0))))])
   (.block 4 (.loop l2_cluster_Cluster_settle))))))
  (.region [qo 101 (.bin .add (.t 35) (.c (.int .i64 (.ofNat 1)))),
    qm 35 101]))))
def l4_cluster_Cluster_settle : PC :=
  (.seq (.region [qo 103 (.bin .lss (.t 102) (.c (.int .i64 (.ofNat 6))))])
  (.seq (.cond (.t 103)
   .skip
   (.exit 8))
  (.seq (.block 9 (.seq (.region [qm 104 102,
     qm 11 104])
   (.region [qm 105 0,
     qm 106 11,
     qo 107 (.nilck (.t 105)),
     qo 108 (.faddr 9 (.t 107)),
     qo 109 (.iaarr 6 3 (.t 108) (.t 106)),
     qe 110 (.call 36 [(.t 109)])])))
  (.region [qo 111 (.bin .add (.t 102) (.c (.int .i64 (.ofNat 1)))),
    qm 102 111]))))
/-- (*depot/cluster.Cluster).settle -/
def pf_cluster_Cluster_settle : PF := { ntmps := 112, results := [], body :=
  (.scope (.seq (.region [qm 13 0,
     qo 14 (.nilck (.t 13)),
     qo 15 (.faddr 6 (.t 14)),
     qo 16 (.load false 1 (.t 15)),
     qe 17 (.call 34 [(.t 16)]),
     qm 12 17,
     qo 18 (.ext 0 (.t 12)),
     qo 19 (.ext 1 (.t 12)),
     qm 2 18,
     qm 3 19])
   (.seq (.seq (.region [qm 20 2,
     qo 21 (.lensl (.t 20)),
     qo 22 (.mv (.c (.int .i64 (.ofNat 0))))])
   (.block 0 (.loop l0_cluster_Cluster_settle)))
   (.seq .skip
   (.seq (.seq (.region [qm 33 3,
     qo 34 (.lensl (.t 33)),
     qo 35 (.mv (.c (.int .i64 (.ofNat 0))))])
   (.block 2 (.loop l3_cluster_Cluster_settle)))
   (.seq (.region [qo 102 (.mv (.c (.int .i64 (.ofNat 0))))])
   (.block 8 (.loop l4_cluster_Cluster_settle)))))))) }
theorem tr_cluster_Cluster_settle : trF cx Tryz.f19 = pf_cluster_Cluster_settle := by kernel_rfl
def l0_cluster_Cluster_send : PC :=
  (.seq (.region [.op ⟨(some 43), none, (.r (.bin .lss (.t 42) (.t 41)))⟩])
  (.seq (.cond (.t 43)
   .skip
   (.exit 0))
  (.seq (.block 1 (.seq (.region [.op ⟨(some 44), none, (.r (.iasl 18 (.t 40) (.t 42)))⟩,
     .op ⟨(some 45), none, (.r (.load true 18 (.t 44)))⟩,
     .op ⟨(some 7), none, (.n (.new 0 [(.int .i64 (.ofNat 0)), .nils, (.int .i64 (.ofNat 0)), (.int .i64 (.ofNat 0)), (.int .i64 (.ofNat 0)), (.int .i64 (.ofNat 0)), (.int .u64 (.ofNat 0)), (.bool false), (.str []), (.int .i64 (.ofNat 0)), .nils, (.bool false), (.int .u64 (.ofNat 0)), (.str []), (.int .i64 (.ofNat 0)), (.int .i64 (.ofNat 0)), (.int .i64 (.ofNat 0)), (.int .i64 (.ofNat 0))]))⟩,
     .op ⟨none, none, (.e (.store 18 (.t 7) (.t 45)))⟩])
   (.seq (.seq (.region [.op ⟨(some 46), none, (.r (.faddr 0 (.t 7)))⟩,
     .op ⟨(some 47), none, (.r (.faddr 0 (.t 46)))⟩,
     .op ⟨(some 48), none, (.r (.load false 1 (.t 47)))⟩,
     .op ⟨(some 49), none, (.r (.bin .eql (.t 48) (.c (.int .i64 (.ofNat 0)))))⟩])
   (.cond (.t 49)
    (.seq (.region [.op ⟨(some 50), none, (.r (.mv (.t 5)))⟩,
      .op ⟨(some 51), none, (.r (.mv (.t 5)))⟩,
      .op ⟨(some 52), none, (.r (.nilck (.t 51)))⟩,
      .op ⟨(some 53), none, (.r (.faddr 1 (.t 52)))⟩,
      .op ⟨(some 54), none, (.r (.load false 1 (.t 53)))⟩,
      .op ⟨(some 55), none, (.r (.faddr 9 (.t 7)))⟩,
      .op ⟨(some 56), none, (.r (.load true 9 (.t 55)))⟩,
      .op ⟨(some 57), none, (.r (.build [(.int .i64 (.ofNat 0)), (.int .i64 (.ofNat 0)), .nils, (.int .i64 (.ofNat 0)), (.int .i64 (.ofNat 0)), (.int .i64 (.ofNat 0)), (.int .i64 (.ofNat 0)), (.int .u64 (.ofNat 0)), (.bool false), (.str []), (.int .i64 (.ofNat 0)), .nils, (.bool false), (.int .u64 (.ofNat 0)), (.str []), (.int .i64 (.ofNat 0)), (.int .i64 (.ofNat 0)), (.int .i64 (.ofNat 0)), (.int .i64 (.ofNat 0)), (.int .i64 (.ofNat 0))] [(10, 9, (.t 56)), (19, 1, (.c (.int .i64 (.ofNat 1))))]))⟩,
      .op ⟨(some 58), none, (.n (.bslice 0 20 1 [(.int .i64 (.ofNat 0)), (.int .i64 (.ofNat 0)), .nils, (.int .i64 (.ofNat 0)), (.int .i64 (.ofNat 0)), (.int .i64 (.ofNat 0)), (.int .i64 (.ofNat 0)), (.int .u64 (.ofNat 0)), (.bool false), (.str []), (.int .i64 (.ofNat 0)), .nils, (.bool false), (.int .u64 (.ofNat 0)), (.str []), (.int .i64 (.ofNat 0)), (.int .i64 (.ofNat 0)), (.int .i64 (.ofNat 0)), (.int .i64 (.ofNat 0)), (.int .i64 (.ofNat 0))] [(0, 20, (.t 57))]))⟩,
      .op ⟨(some 59), none, (.e (.app 0 20 208 (.t 54) (.t 58)))⟩,
      .op ⟨(some 60), none, (.r (.nilck (.t 50)))⟩,
      .op ⟨(some 61), none, (.r (.faddr 1 (.t 60)))⟩,
      .op ⟨none, none, (.e (.store 1 (.t 61) (.t 59)))⟩])
    (.exit 1))
    .skip))
   (.seq (.region [.op ⟨(some 62), none, (.r (.mv (.t 0)))⟩,
     .op ⟨(some 63), none, (.r (.nilck (.t 62)))⟩,
     .op ⟨(some 64), none, (.r (.faddr 6 (.t 63)))⟩,
     .op ⟨(some 65), none, (.r (.load false 1 (.t 64)))⟩,
     .op ⟨(some 66), none, (.r (.faddr 0 (.t 7)))⟩,
     .op ⟨(some 67), none, (.r (.load true 9 (.t 66)))⟩,
     .op ⟨(some 68), none, (.e (.call n_cluster_copied [(.t 67)]))⟩,
     .again ⟨(some 65), none, (.r (.load false 1 (.t 64)))⟩,
     .op ⟨(some 69), none, (.e (.call n_router_Router_Do [(.t 65), (.t 68)]))⟩,
     .op ⟨(some 8), none, (.r (.mv (.t 69)))⟩])
   (.seq (.region [.op ⟨(some 70), none, (.r (.mv (.t 0)))⟩,
     .op ⟨(some 71), none, (.r (.mv (.t 0)))⟩,
     .op ⟨(some 72), none, (.r (.nilck (.t 71)))⟩,
     .op ⟨(some 73), none, (.r (.faddr 27 (.t 72)))⟩,
     .op ⟨(some 74), none, (.r (.load false 1 (.t 73)))⟩,
     .op ⟨(some 75), none, (.r (.mv (.t 8)))⟩,
     .op ⟨(some 76), none, (.r (.faddr 0 (.t 7)))⟩,
     .op ⟨(some 77), none, (.r (.load true 9 (.t 76)))⟩,
     .op ⟨(some 78), none, (.e (.call n_cluster_copied [(.t 77)]))⟩,
     .again ⟨(some 74), none, (.r (.load false 1 (.t 73)))⟩,
     .op ⟨(some 79), none, (.r (.build [(.int .i64 (.ofNat 0)), (.int .i64 (.ofNat 0)), (.int .i64 (.ofNat 0)), .nils, (.int .i64 (.ofNat 0)), (.int .i64 (.ofNat 0)), (.int .i64 (.ofNat 0)), (.int .i64 (.ofNat 0)), (.int .u64 (.ofNat 0)), (.bool false), (.str []), (.int .i64 (.ofNat 0)), .nils, (.bool false), (.int .u64 (.ofNat 0)), (.str []), (.int .i64 (.ofNat 0)), (.int .i64 (.ofNat 0)), (.int .i64 (.ofNat 0)), (.int .i64 (.ofNat 0))] [(0, 1, (.c (.int .i64 (.ofNat 1)))), (1, 1, (.t 75)), (2, 9, (.t 78))]))⟩,
     .op ⟨(some 80), none, (.n (.bslice 0 20 1 [(.int .i64 (.ofNat 0)), (.int .i64 (.ofNat 0)), (.int .i64 (.ofNat 0)), .nils, (.int .i64 (.ofNat 0)), (.int .i64 (.ofNat 0)), (.int .i64 (.ofNat 0)), (.int .i64 (.ofNat 0)), (.int .u64 (.ofNat 0)), (.bool false), (.str []), (.int .i64 (.ofNat 0)), .nils, (.bool false), (.int .u64 (.ofNat 0)), (.str []), (.int .i64 (.ofNat 0)), (.int .i64 (.ofNat 0)), (.int .i64 (.ofNat 0)), (.int .i64 (.ofNat 0))] [(0, 20, (.t 79))]))⟩,
     .op ⟨(some 81), none, (.e (.app 0 20 208 (.t 74) (.t 80)))⟩,
     .op ⟨(some 82), none, (.r (.nilck (.t 70)))⟩,
     .op ⟨(some 83), none, (.r (.faddr 27 (.t 82)))⟩,
     .op ⟨none, none, (.e (.store 1 (.t 83) (.t 81)))⟩])
   (.region [.op ⟨(some 84), none, (.r (.mv (.t 5)))⟩,
     .op ⟨(some 85), none, (.r (.mv (.t 5)))⟩,
     .op ⟨(some 86), none, (.r (.nilck (.t 85)))⟩,
     .op ⟨(some 87), none, (.r (.faddr 1 (.t 86)))⟩,
     .op ⟨(some 88), none, (.r (.load false 1 (.t 87)))⟩,
     .op ⟨(some 89), none, (.r (.mv (.t 8)))⟩,
     .op ⟨(some 90), none, (.r (.faddr 0 (.t 7)))⟩,
     .op ⟨(some 91), none, (.r (.load true 9 (.t 90)))⟩,
     .op ⟨(some 92), none, (.r (.build [(.int .i64 (.ofNat 0)), (.int .i64 (.ofNat 0)), .nils, (.int .i64 (.ofNat 0)), (.int .i64 (.ofNat 0)), (.int .i64 (.ofNat 0)), (.int .i64 (.ofNat 0)), (.int .u64 (.ofNat 0)), (.bool false), (.str []), (.int .i64 (.ofNat 0)), .nils, (.bool false), (.int .u64 (.ofNat 0)), (.str []), (.int .i64 (.ofNat 0)), (.int .i64 (.ofNat 0)), (.int .i64 (.ofNat 0)), (.int .i64 (.ofNat 0)), (.int .i64 (.ofNat 0))] [(0, 1, (.t 89)), (1, 9, (.t 91))]))⟩,
     .op ⟨(some 93), none, (.n (.bslice 0 20 1 [(.int .i64 (.ofNat 0)), (.int .i64 (.ofNat 0)), .nils, (.int .i64 (.ofNat 0)), (.int .i64 (.ofNat 0)), (.int .i64 (.ofNat 0)), (.int .i64 (.ofNat 0)), (.int .u64 (.ofNat 0)), (.bool false), (.str []), (.int .i64 (.ofNat 0)), .nils, (.bool false), (.int .u64 (.ofNat 0)), (.str []), (.int .i64 (.ofNat 0)), (.int .i64 (.ofNat 0)), (.int .i64 (.ofNat 0)), (.int .i64 (.ofNat 0)), (.int .i64 (.ofNat 0))] [(0, 20, (.t 92))]))⟩,
     .op ⟨(some 94), none, (.e (.app 0 20 208 (.t 88) (.t 93)))⟩,
     .op ⟨(some 95), none, (.r (.nilck (.t 84)))⟩,
     .op ⟨(some 96), none, (.r (.faddr 1 (.t 95)))⟩,
     .op ⟨none, none, (.e (.store 1 (.t 96) (.t 94)))⟩]))))))
  (.region [.op ⟨(some 97), none, (.r (.bin .add (.t 42) (.c (.int .i64 (.ofNat 1)))))⟩,
    .op ⟨(some 42), none, (.r (.mv (.t 97)))⟩]))))
/-- (*depot/cluster.Cluster).send -/
def pf_cluster_Cluster_send : PF := { ntmps := 98, results := [.tmp 4], body :=
  (.seq (.region [.op ⟨(some 3), none, (.n (.box (.t 1)))⟩,
    .op ⟨(some 4), none, (.r (.mv (.c (.bool false))))⟩])
  (.seq (.seq (.region [.op ⟨(some 9), none, (.r (.faddr 1 (.t 3)))⟩,
    .op ⟨(some 10), none, (.r (.load false 1 (.t 9)))⟩,
    .op ⟨(some 11), none, (.r (.bin .lss (.t 10) (.c (.int .i64 (.ofNat 0)))))⟩,
    .op ⟨(some 12), none, (.r (.mv (.t 11)))⟩,
    .op ⟨(some 13), (some (12, false)), (.r (.faddr 1 (.t 3)))⟩,
    .op ⟨(some 14), (some (12, false)), (.r (.load false 1 (.t 13)))⟩,
    .op ⟨(some 15), (some (12, false)), (.r (.bin .geq (.t 14) (.c (.int .i64 (.ofNat 6)))))⟩,
    .op ⟨(some 16), none, (.r (.pick (.t 12) (.c (.bool true)) (.t 15)))⟩,
    .op ⟨(some 17), none, (.r (.mv (.t 16)))⟩,
    .op ⟨(some 18), (some (17, false)), (.r (.mv (.t 0)))⟩,
    .op ⟨(some 19), (some (17, false)), (.r (.faddr 1 (.t 3)))⟩,
    .op ⟨(some 20), (some (17, false)), (.r (.load false 1 (.t 19)))⟩,
    .op ⟨(some 21), (some (17, false)), (.r (.nilck (.t 18)))⟩,
    .op ⟨(some 22), (some (17, false)), (.r (.faddr 9 (.t 21)))⟩,
    .op ⟨(some 23), (some (17, false)), (.r (.iaarr 6 3 (.t 22) (.t 20)))⟩,
    .op ⟨(some 24), (some (17, false)), (.r (.faddr 0 (.t 23)))⟩,
    .op ⟨(some 25), (some (17, false)), (.r (.load false 1 (.t 24)))⟩,
    .op ⟨(some 26), (some (17, false)), (.e (.call n_parse_Parser_Shut [(.t 25)]))⟩,
    .op ⟨(some 27), none, (.r (.pick (.t 17) (.c (.bool true)) (.t 26)))⟩])
  (.cond (.t 27)
   (.seq (.region [.op ⟨(some 4), none, (.r (.mv (.c (.bool false))))⟩])
   .ret)
   .skip))
  (.seq (.region [.op ⟨(some 28), none, (.r (.mv (.t 0)))⟩,
    .op ⟨(some 29), none, (.r (.faddr 1 (.t 3)))⟩,
    .op ⟨(some 30), none, (.r (.load false 1 (.t 29)))⟩,
    .op ⟨(some 31), none, (.r (.nilck (.t 28)))⟩,
    .op ⟨(some 32), none, (.r (.faddr 9 (.t 31)))⟩,
    .op ⟨(some 33), none, (.r (.iaarr 6 3 (.t 32) (.t 30)))⟩,
    .op ⟨(some 5), none, (.r (.mv (.t 33)))⟩])
  (.seq (.seq (.region [.op ⟨(some 34), none, (.r (.mv (.t 5)))⟩,
    .op ⟨(some 35), none, (.r (.nilck (.t 34)))⟩,
    .op ⟨(some 36), none, (.r (.faddr 0 (.t 35)))⟩,
    .op ⟨(some 37), none, (.r (.load false 1 (.t 36)))⟩,
    .op ⟨(some 38), none, (.r (.faddr 2 (.t 3)))⟩,
    .op ⟨(some 39), none, (.r (.load false 1 (.t 38)))⟩,
    .op ⟨(some 42), none, (.r (.mv (.c (.int .i64 (.ofNat 0)))))⟩,
    .op ⟨(some 40), none, (.e (.call n_parse_Parser_Feed [(.t 37), (.t 39)]))⟩,
    .op ⟨(some 41), none, (.r (.lensl (.t 40)))⟩])
  (.block 0 (.loop l0_cluster_Cluster_send)))
  (.seq (.region [.op ⟨(some 4), none, (.r (.mv (.c (.bool true))))⟩])
  .ret))))) }
theorem tr_cluster_Cluster_send : trF cx Tryz.f20 = pf_cluster_Cluster_send := by kernel_rfl
/-- (*depot/cluster.Cluster).frame -/
def pf_cluster_Cluster_frame : PF := { ntmps := 70, results := [.tmp 4], body :=
  (.seq (.region [.op ⟨(some 3), none, (.n (.box (.t 1)))⟩,
    .op ⟨(some 4), none, (.r (.mv (.c (.bool false))))⟩])
  (.seq (.region [.op ⟨(some 10), none, (.r (.mv (.t 0)))⟩,
    .op ⟨(some 11), none, (.r (.nilck (.t 10)))⟩,
    .op ⟨(some 12), none, (.r (.faddr 8 (.t 11)))⟩,
    .op ⟨(some 13), none, (.r (.load false 1 (.t 12)))⟩,
    .op ⟨(some 14), none, (.r (.faddr 1 (.t 3)))⟩,
    .op ⟨(some 15), none, (.r (.load false 1 (.t 14)))⟩,
    .op ⟨(some 5), none, (.n (.new 0 [(.int .i64 (.ofNat 0)), (.int .i64 (.ofNat 0)), (.int .i64 (.ofNat 0)), (.int .i64 (.ofNat 0)), (.int .i64 (.ofNat 0)), (.int .i64 (.ofNat 0)), (.str []), (.int .i64 (.ofNat 0)), (.str [])]))⟩,
    .op ⟨(some 16), none, (.e (.call n_net_Net_Copy [(.t 13), (.t 15)]))⟩,
    .op ⟨(some 9), none, (.r (.mv (.t 16)))⟩,
    .op ⟨(some 17), none, (.r (.ext 0 (.t 9)))⟩,
    .op ⟨(some 18), none, (.r (.ext 1 (.t 9)))⟩,
    .op ⟨none, none, (.e (.store 9 (.t 5) (.t 17)))⟩,
    .op ⟨(some 6), none, (.r (.mv (.t 18)))⟩])
  (.seq (.seq (.region [.op ⟨(some 19), none, (.r (.mv (.t 6)))⟩,
    .op ⟨(some 20), none, (.r (.un .not (.t 19)))⟩])
  (.cond (.t 20)
   (.seq (.region [.op ⟨(some 4), none, (.r (.mv (.c (.bool false))))⟩])
   .ret)
   .skip))
  (.seq (.seq (.region [.op ⟨(some 21), none, (.r (.faddr 0 (.t 3)))⟩,
    .op ⟨(some 22), none, (.r (.load false 1 (.t 21)))⟩,
    .op ⟨(some 23), none, (.r (.bin .neq (.t 22) (.c (.int .i64 (.ofNat 3)))))⟩])
  (.cond (.t 23)
   (.region [.op ⟨(some 24), none, (.r (.mv (.t 0)))⟩,
     .op ⟨(some 25), none, (.r (.nilck (.t 24)))⟩,
     .op ⟨(some 26), none, (.r (.faddr 8 (.t 25)))⟩,
     .op ⟨(some 27), none, (.r (.load false 1 (.t 26)))⟩,
     .op ⟨(some 28), none, (.r (.faddr 1 (.t 3)))⟩,
     .op ⟨(some 29), none, (.r (.load false 1 (.t 28)))⟩,
     .op ⟨(some 30), none, (.e (.call n_net_Net_Drop [(.t 27), (.t 29)]))⟩])
   .skip))
  (.seq (.block 0 (.seq (.region [.op ⟨(some 52), none, (.r (.faddr 0 (.t 3)))⟩,
     .op ⟨(some 53), none, (.r (.load false 1 (.t 52)))⟩,
     .op ⟨(some 54), none, (.r (.bin .eql (.t 53) (.c (.int .i64 (.ofNat 4)))))⟩,
     .op ⟨(some 51), none, (.r (.mv (.t 54)))⟩])
   (.cond (.t 51)
    .skip
    (.seq (.region [.op ⟨(some 56), none, (.r (.faddr 0 (.t 5)))⟩,
      .op ⟨(some 57), none, (.r (.load false 1 (.t 56)))⟩,
      .op ⟨(some 58), none, (.r (.bin .eql (.t 57) (.c (.int .i64 (.ofNat 6)))))⟩,
      .op ⟨(some 59), none, (.r (.mv (.t 58)))⟩,
      .op ⟨(some 60), (some (59, false)), (.r (.faddr 0 (.t 5)))⟩,
      .op ⟨(some 61), (some (59, false)), (.r (.load false 1 (.t 60)))⟩,
      .op ⟨(some 62), (some (59, false)), (.r (.bin .eql (.t 61) (.c (.int .i64 (.ofNat 7)))))⟩,
      .op ⟨(some 63), none, (.r (.pick (.t 59) (.c (.bool true)) (.t 62)))⟩,
      .op ⟨(some 55), none, (.r (.mv (.t 63)))⟩])
    (.cond (.t 55)
     (.region [.op ⟨(some 64), none, (.r (.mv (.t 0)))⟩,
       .op ⟨(some 65), none, (.r (.nilck (.t 64)))⟩,
       .op ⟨(some 66), none, (.r (.faddr 6 (.t 65)))⟩,
       .op ⟨(some 67), none, (.r (.load false 1 (.t 66)))⟩,
       .op ⟨(some 68), none, (.r (.load true 9 (.t 5)))⟩,
       .op ⟨(some 69), none, (.e (.call n_router_Router_Take [(.t 67), (.t 68)]))⟩])
     (.seq (.region [.op ⟨(some 32), none, (.r (.mv (.t 0)))⟩,
       .op ⟨(some 33), none, (.r (.nilck (.t 32)))⟩,
       .op ⟨(some 34), none, (.r (.faddr 7 (.t 33)))⟩,
       .op ⟨(some 35), none, (.r (.load false 1 (.t 34)))⟩,
       .op ⟨(some 36), none, (.r (.faddr 1 (.t 5)))⟩,
       .op ⟨(some 37), none, (.r (.load false 1 (.t 36)))⟩,
       .op ⟨(some 38), none, (.r (.iasl 1 (.t 35) (.t 37)))⟩,
       .op ⟨(some 39), none, (.r (.load false 1 (.t 38)))⟩,
       .op ⟨(some 40), none, (.r (.load true 9 (.t 5)))⟩,
       .op ⟨(some 7), none, (.n (.new 0 [(.int .i64 (.ofNat 0)), (.int .i64 (.ofNat 0)), (.int .i64 (.ofNat 0)), (.int .i64 (.ofNat 0)), (.int .i64 (.ofNat 0)), (.int .i64 (.ofNat 0)), (.str []), (.int .i64 (.ofNat 0)), (.str [])]))⟩,
       .op ⟨(some 41), none, (.e (.call n_slot_Slot_Take [(.t 39), (.t 40)]))⟩,
       .op ⟨(some 31), none, (.r (.mv (.t 41)))⟩,
       .op ⟨(some 42), none, (.r (.ext 0 (.t 31)))⟩,
       .op ⟨(some 43), none, (.r (.ext 1 (.t 31)))⟩,
       .op ⟨none, none, (.e (.store 9 (.t 7) (.t 42)))⟩,
       .op ⟨(some 8), none, (.r (.mv (.t 43)))⟩])
     (.seq (.region [.op ⟨(some 44), none, (.r (.mv (.t 8)))⟩])
     (.cond (.t 44)
      (.region [.op ⟨(some 45), none, (.r (.mv (.t 0)))⟩,
        .op ⟨(some 46), none, (.r (.nilck (.t 45)))⟩,
        .op ⟨(some 47), none, (.r (.faddr 8 (.t 46)))⟩,
        .op ⟨(some 48), none, (.r (.load false 1 (.t 47)))⟩,
        .op ⟨(some 49), none, (.r (.load true 9 (.t 7)))⟩,
        .op ⟨(some 50), none, (.e (.call n_net_Net_Send [(.t 48), (.t 49)]))⟩])
      .skip))))))))
  (.seq (.region [.op ⟨(some 4), none, (.r (.mv (.c (.bool true))))⟩])
  .ret)))))) }
theorem tr_cluster_Cluster_frame : trF cx Tryz.f21 = pf_cluster_Cluster_frame := by kernel_rfl
/-- depot/cluster.known -/
def pf_cluster_known : PF := { ntmps := 9, results := [.tmp 2], body :=
  (.seq (.region [qo 2 (.mv (.c (.bool false)))])
  (.seq (.region [qm 3 0,
    qo 4 (.bin .geq (.t 3) (.c (.int .i64 (.ofNat 0)))),
    qm 5 4,
    qg 6 5 true 0,
    qh 7 5 true (.bin .lss (.t 6) (.c (.int .i64 (.ofNat 6)))),
    qo 8 (.pick (.t 5) (.t 7) (.c (.bool false))),
    qm 2 8])
  .ret)) }
theorem tr_cluster_known : trF cx Tryz.f24 = pf_cluster_known := by kernel_rfl
/-- slices.Clone[[]depot/api.Event,depot/api.Event] -/
def pf_slices_Clone_api_Event_api_Event : PF := { ntmps := 8, results := [.tmp 2], body :=
  (.seq (.region [.op ⟨(some 2), none, (.r (.mv (.c .nils)))⟩])
  (.seq (.seq (.region [.op ⟨(some 3), none, (.r (.mv (.t 0)))⟩,
    .op ⟨(some 4), none, (.r (.eqv false .s (.t 3) (.c .nils)))⟩])
  (.cond (.t 4)
   (.seq (.region [.op ⟨(some 2), none, (.r (.mv (.c .nils)))⟩])
   .ret)
   .skip))
  (.seq (.region [.op ⟨(some 5), none, (.n (.bslice 0 20 0 [] []))⟩,
    .op ⟨(some 6), none, (.r (.mv (.t 0)))⟩,
    .op ⟨(some 7), none, (.e (.app 0 20 208 (.t 5) (.t 6)))⟩,
    .op ⟨(some 2), none, (.r (.mv (.t 7)))⟩])
  .ret))) }
theorem tr_slices_Clone_api_Event_api_Event : trF cx Tryz.f25 = pf_slices_Clone_api_Event_api_Event := by kernel_rfl
/-- depot/cluster.copied -/
def pf_cluster_copied : PF := { ntmps := 8, results := [.cell 2 true 9], body :=
  (.seq (.region [qn 1 (.box (.t 0)),
    qn 2 (.new 0 [(.int .i64 (.ofNat 0)), .nils, (.int .i64 (.ofNat 0)), (.int .i64 (.ofNat 0)), (.int .i64 (.ofNat 0)), (.int .i64 (.ofNat 0)), (.int .u64 (.ofNat 0)), (.bool false), (.str [])])])
  (.seq (.region [qo 3 (.faddr 1 (.t 1)),
    qo 4 (.load false 1 (.t 3)),
    qe 5 (.call 47 [(.t 4)]),
    qo 6 (.faddr 1 (.t 1)),
    qx (.store 1 (.t 6) (.t 5))])
  (.seq (.region [qo 7 (.load true 9 (.t 1)),
    qx (.store 9 (.t 2) (.t 7))])
  .ret))) }
theorem tr_cluster_copied : trF cx Tryz.f26 = pf_cluster_copied := by kernel_rfl
/-- depot/cluster.answered -/
def pf_cluster_answered : PF := { ntmps := 8, results := [.cell 2 true 9], body :=
  (.seq (.region [qn 1 (.box (.t 0)),
    qn 2 (.new 0 [(.int .i64 (.ofNat 0)), .nils, (.bool false), (.int .u64 (.ofNat 0)), (.str []), (.int .i64 (.ofNat 0)), (.int .i64 (.ofNat 0)), (.int .i64 (.ofNat 0)), (.int .i64 (.ofNat 0))])])
  (.seq (.region [qo 3 (.faddr 1 (.t 1)),
    qo 4 (.load false 1 (.t 3)),
    qe 5 (.call 48 [(.t 4)]),
    qo 6 (.faddr 1 (.t 1)),
    qx (.store 1 (.t 6) (.t 5))])
  (.seq (.region [qo 7 (.load true 9 (.t 1)),
    qx (.store 9 (.t 2) (.t 7))])
  .ret))) }
theorem tr_cluster_answered : trF cx Tryz.f27 = pf_cluster_answered := by kernel_rfl
/-- (*depot/net.Net).List -/
def pf_net_Net_List : PF := { ntmps := 8, results := [.tmp 2], body :=
  (.seq (.region [.op ⟨(some 2), none, (.r (.mv (.c .nils)))⟩])
  (.seq (.region [.op ⟨(some 3), none, (.r (.mv (.t 0)))⟩,
    .op ⟨(some 4), none, (.r (.nilck (.t 3)))⟩,
    .op ⟨(some 5), none, (.r (.faddr 0 (.t 4)))⟩,
    .op ⟨(some 6), none, (.r (.load false 1 (.t 5)))⟩,
    .op ⟨(some 7), none, (.e (.call n_slices_Clone_api_Frame_api_Frame [(.t 6)]))⟩,
    .op ⟨(some 2), none, (.r (.mv (.t 7)))⟩])
  .ret)) }
theorem tr_net_Net_List : trF cx Tryz.f28 = pf_net_Net_List := by kernel_rfl
/-- depot/task.RightConfig -/
def pf_task_RightConfig : PF := { ntmps := 40, results := [.tmp 2], body :=
  (.seq (.region [qn 1 (.box (.t 0)),
    qo 2 (.mv (.c (.bool false)))])
  (.seq (.seq (.region [qo 6 (.faddr 0 (.t 1)),
    qo 7 (.load false 1 (.t 6)),
    qo 8 (.faddr 1 (.t 1)),
    qo 9 (.load false 1 (.t 8)),
    qe 10 (.call 50 [(.t 7), (.t 9)]),
    qm 5 10,
    qo 11 (.ext 0 (.t 5)),
    qo 12 (.ext 1 (.t 5)),
    qm 3 11,
    qm 4 12])
  (.seq (.region [qm 13 4,
    qo 14 (.bin .neq (.t 13) (.c (.int .i64 (.ofNat 0))))])
  (.cond (.t 14)
   (.seq (.region [qo 2 (.mv (.c (.bool false)))])
   .ret)
   .skip)))
  (.seq (.region [qo 15 (.faddr 2 (.t 1)),
    qo 16 (.load false 1 (.t 15)),
    qo 17 (.faddr 1 (.t 1)),
    qo 18 (.load false 1 (.t 17)),
    qe 19 (.call 51 [(.t 16), (.c (.int .i64 (.ofNat 0))), (.t 18)]),
    qm 20 19,
    qh 21 20 true (.faddr 3 (.t 1)),
    qh 22 20 true (.load false 1 (.t 21)),
    qh 23 20 true (.faddr 0 (.t 1)),
    qh 24 20 true (.load false 1 (.t 23)),
    qh 25 20 true (.faddr 1 (.t 1)),
    qh 26 20 true (.load false 1 (.t 25)),
    qh 27 20 true (.bin .add (.t 24) (.t 26)),
    .op ⟨(some 28), (some (20, true)), (.e (.call 51 [(.t 22), (.t 27), (.c (.int .i64 (.ofNat 12)))]))⟩,
    qo 29 (.pick (.t 20) (.t 28) (.c (.bool false))),
    qm 30 29,
    qh 31 30 true (.faddr 4 (.t 1)),
    qh 32 30 true (.load false 1 (.t 31)),
    .op ⟨(some 33), (some (30, true)), (.e (.call 51 [(.t 32), (.c (.int .i64 (.ofNat 1))), (.c (.int .i64 (.ofNat 64)))]))⟩,
    qo 34 (.pick (.t 30) (.t 33) (.c (.bool false))),
    qm 35 34,
    qh 36 35 true (.faddr 5 (.t 1)),
    qh 37 35 true (.load false 1 (.t 36)),
    .op ⟨(some 38), (some (35, true)), (.e (.call 51 [(.t 37), (.c (.int .i64 (.ofNat 64))), (.c (.int .i64 (.ofNat 65536)))]))⟩,
    qo 39 (.pick (.t 35) (.t 38) (.c (.bool false))),
    qm 2 39])
  .ret))) }
theorem tr_task_RightConfig : trF cx Tryz.f29 = pf_task_RightConfig := by kernel_rfl
/-- depot/ask.New -/
def pf_ask_New : PF := { ntmps := 3, results := [.tmp 0], body :=
  (.seq (.region [qo 0 (.mv (.c .nilp))])
  (.seq (.region [qo 1 (.build [.nils, (.int .i64 (.ofNat 0))] []),
    qn 2 (.box (.t 1)),
    qm 0 2])
  .ret)) }
theorem tr_ask_New : trF cx Tryz.f30 = pf_ask_New := by kernel_rfl
/-- depot/view.New -/
def pf_view_New : PF := { ntmps := 14, results := [.tmp 2, .tmp 3], body :=
  (.seq (.region [qo 2 (.mv (.c .nilp)),
    qo 3 (.mv (.c (.int .i64 (.ofNat 0))))])
  (.seq (.seq (.region [qm 4 0,
    qo 5 (.bin .lss (.t 4) (.c (.int .i64 (.ofNat 1)))),
    qm 6 5,
    qg 7 6 false 0,
    qh 8 6 false (.bin .gtr (.t 7) (.c (.int .i64 (.ofNat 12)))),
    qo 9 (.pick (.t 6) (.c (.bool true)) (.t 8))])
  (.cond (.t 9)
   (.seq (.region [qo 2 (.mv (.c .nilp)),
     qo 3 (.mv (.c (.int .i64 (.ofNat 1))))])
   .ret)
   .skip))
  (.seq (.region [qm 10 0,
    qn 11 (.mksl 0 2 16 [(.int .i64 (.ofNat 0)), (.int .i64 (.ofNat 0))] (.t 10) (.t 10)),
    qo 12 (.build [.nils] [(0, 1, (.t 11))]),
    qn 13 (.box (.t 12)),
    qm 2 13,
    qo 3 (.mv (.c (.int .i64 (.ofNat 0))))])
  .ret))) }
theorem tr_view_New : trF cx Tryz.f31 = pf_view_New := by kernel_rfl
def l0_router_Router_again : PC :=
  (.seq (.region [qo 26 (.bin .lss (.t 25) (.t 24))])
  (.seq (.cond (.t 26)
   .skip
   (.exit 0))
  (.seq (.block 1 (.seq (.region [qo 27 (.iasl 9 (.t 23) (.t 25)),
     qo 28 (.load true 9 (.t 27)),
     qn 5 (.new 0 [(.int .i64 (.ofNat 0)), (.int .i64 (.ofNat 0)), (.int .i64 (.ofNat 0)), (.int .i64 (.ofNat 0)), (.int .i64 (.ofNat 0)), (.int .i64 (.ofNat 0)), (.str []), (.int .i64 (.ofNat 0)), (.str [])]),
     qx (.store 9 (.t 5) (.t 28))])
   (.region [qm 29 0,
     qo 30 (.load true 9 (.t 5)),
     qo 31 (.build [(.int .i64 (.ofNat 0)), (.int .i64 (.ofNat 0)), (.int .i64 (.ofNat 0)), (.int .i64 (.ofNat 0)), (.int .i64 (.ofNat 0)), (.int .i64 (.ofNat 0)), (.str []), (.int .i64 (.ofNat 0)), (.str [])] []),
     qe 32 (.call 54 [(.t 29), (.t 30), (.t 31), (.c (.bool false))])])))
  (.region [qo 33 (.bin .add (.t 25) (.c (.int .i64 (.ofNat 1)))),
    qm 25 33]))))
/-- (*depot/router.Router).again -/
def pf_router_Router_again : PF := { ntmps := 39, results := [], body :=
  (.seq (.seq (.region [qm 6 0,
    qo 7 (.nilck (.t 6)),
    qo 8 (.faddr 6 (.t 7)),
    qo 9 (.load false 1 (.t 8)),
    qm 10 1,
    qe 11 (.call 52 [(.t 9), (.t 10), (.c (.int .i64 (.ofNat 1)))]),
    qo 12 (.un .not (.t 11))])
  (.cond (.t 12)
   .ret
   .skip))
  (.seq (.region [qm 13 0,
    qm 14 1,
    qo 15 (.nilck (.t 13)),
    qo 16 (.faddr 15 (.t 15)),
    qo 17 (.iaarr 12 1 (.t 16) (.t 14)),
    qx (.store 1 (.t 17) (.c .nilp))])
  (.seq (.seq (.region [qm 18 0,
    qo 19 (.nilck (.t 18)),
    qo 20 (.faddr 7 (.t 19)),
    qo 21 (.load false 1 (.t 20)),
    qm 22 1,
    qe 23 (.call 53 [(.t 21), (.t 22)]),
    qo 24 (.lensl (.t 23)),
    qo 25 (.mv (.c (.int .i64 (.ofNat 0))))])
  (.block 0 (.loop l0_router_Router_again)))
  (.region [qm 34 0,
    qm 35 1,
    qo 36 (.build [(.int .i64 (.ofNat 0)), (.int .i64 (.ofNat 0)), (.int .i64 (.ofNat 0)), (.int .i64 (.ofNat 0)), (.int .i64 (.ofNat 0)), (.int .i64 (.ofNat 0)), (.str []), (.int .i64 (.ofNat 0)), (.str [])] [(0, 1, (.c (.int .i64 (.ofNat 5)))), (1, 1, (.t 35))]),
    qo 37 (.build [(.int .i64 (.ofNat 0)), (.int .i64 (.ofNat 0)), (.int .i64 (.ofNat 0)), (.bool false), (.int .i64 (.ofNat 0)), (.int .i64 (.ofNat 0))] []),
    qe 38 (.call 55 [(.t 34), (.t 36), (.t 37)])])))) }
theorem tr_router_Router_again : trF cx Tryz.f32 = pf_router_Router_again := by kernel_rfl
/-- depot/item.New -/
def pf_item_New : PF := { ntmps := 22, results := [.tmp 4, .tmp 5], body :=
  (.seq (.region [qo 4 (.mv (.c .nilp)),
    qo 5 (.mv (.c (.int .i64 (.ofNat 0))))])
  (.seq (.region [qm 9 0,
    qm 10 1,
    qe 11 (.call 56 [(.t 9), (.t 10)]),
    qm 8 11,
    qo 12 (.ext 0 (.t 8)),
    qo 13 (.ext 1 (.t 8)),
    qm 6 12,
    qm 7 13])
  (.seq (.seq (.region [qm 14 7,
    qo 15 (.bin .neq (.t 14) (.c (.int .i64 (.ofNat 0))))])
  (.cond (.t 15)
   (.seq (.region [qm 16 7,
     qo 4 (.mv (.c .nilp)),
     qm 5 16])
   .ret)
   .skip))
  (.seq (.region [qm 17 6,
    qn 19 (.mksl 0 6 56 [(.str []), (.int .i64 (.ofNat 0)), (.int .i64 (.ofNat 0)), (.bool false), (.int .i64 (.ofNat 0)), (.int .i64 (.ofNat 0))] (.c (.int .i64 (.ofNat 1))) (.c (.int .i64 (.ofNat 1)))),
    qe 18 (.call 57 []),
    qo 20 (.build [.nilp, .nilp, .nils, .nils] [(0, 1, (.t 17)), (1, 1, (.t 18)), (2, 1, (.t 19))]),
    qn 21 (.box (.t 20)),
    qm 4 21,
    qo 5 (.mv (.c (.int .i64 (.ofNat 0))))])
  .ret)))) }
theorem tr_item_New : trF cx Tryz.f33 = pf_item_New := by kernel_rfl
/-- (*depot/router.Router).Drain -/
def pf_router_Router_Drain : PF := { ntmps := 22, results := [.tmp 2, .tmp 3], body :=
  (.seq (.region [qo 2 (.mv (.c .nils)),
    qo 3 (.mv (.c .nils))])
  (.seq (.region [qm 6 0,
    qo 7 (.nilck (.t 6)),
    qo 8 (.faddr 32 (.t 7)),
    qo 9 (.load false 1 (.t 8)),
    qm 10 0,
    qo 11 (.nilck (.t 10)),
    qo 12 (.faddr 33 (.t 11)),
    qo 13 (.load false 1 (.t 12)),
    qm 4 9,
    qm 5 13])
  (.seq (.region [qm 14 0,
    qm 15 0,
    qo 16 (.nilck (.t 14)),
    qo 17 (.faddr 32 (.t 16)),
    qx (.store 1 (.t 17) (.c .nils)),
    qo 18 (.nilck (.t 15)),
    qo 19 (.faddr 33 (.t 18)),
    qx (.store 1 (.t 19) (.c .nils))])
  (.seq (.region [qm 20 4,
    qm 21 5,
    qm 2 20,
    qm 3 21])
  .ret)))) }
theorem tr_router_Router_Drain : trF cx Tryz.f34 = pf_router_Router_Drain := by kernel_rfl
/-- (*depot/net.Net).Send -/
def pf_net_Net_Send : PF := { ntmps := 21, results := [.tmp 4], body :=
  (.seq (.region [qn 3 (.box (.t 1)),
    qo 4 (.mv (.c (.bool false)))])
  (.seq (.seq (.region [qm 5 0,
    qo 6 (.nilck (.t 5)),
    qo 7 (.faddr 0 (.t 6)),
    qo 8 (.load false 1 (.t 7)),
    qo 9 (.lensl (.t 8)),
    qo 10 (.bin .geq (.t 9) (.c (.int .i64 (.ofNat 4000))))])
  (.cond (.t 10)
   (.seq (.region [qo 4 (.mv (.c (.bool false)))])
   .ret)
   .skip))
  (.seq (.region [qm 11 0,
    qm 12 0,
    qo 13 (.nilck (.t 12)),
    qo 14 (.faddr 0 (.t 13)),
    qo 15 (.load false 1 (.t 14)),
    qo 16 (.load true 9 (.t 3)),
    qn 17 (.bslice 0 9 1 [(.int .i64 (.ofNat 0)), (.int .i64 (.ofNat 0)), (.int .i64 (.ofNat 0)), (.int .i64 (.ofNat 0)), (.int .i64 (.ofNat 0)), (.int .i64 (.ofNat 0)), (.str []), (.int .i64 (.ofNat 0)), (.str [])] [(0, 9, (.t 16))]),
    qe 18 (.app 0 9 88 (.t 15) (.t 17)),
    qo 19 (.nilck (.t 11)),
    qo 20 (.faddr 0 (.t 19)),
    qx (.store 1 (.t 20) (.t 18))])
  (.seq (.region [qo 4 (.mv (.c (.bool true)))])
  .ret)))) }
theorem tr_net_Net_Send : trF cx Tryz.f35 = pf_net_Net_Send := by kernel_rfl
def l0_cluster_conn_say : PC :=
  (.seq (.seq (.region [qm 3 0,
    qo 4 (.nilck (.t 3)),
    qo 5 (.faddr 1 (.t 4)),
    qo 6 (.load false 1 (.t 5)),
    qo 7 (.lensl (.t 6)),
    qo 8 (.bin .gtr (.t 7) (.c (.int .i64 (.ofNat 0)))),
    qm 9 8,
    qg 10 9 true 0,
    qh 11 9 true (.nilck (.t 10)),
    qh 12 9 true (.faddr 1 (.t 11)),
    qh 13 9 true (.load false 1 (.t 12)),
    qh 14 9 true (.iasl 20 (.t 13) (.c (.int .i64 (.ofNat 0)))),
    qh 15 9 true (.faddr 19 (.t 14)),
    qh 16 9 true (.load false 1 (.t 15)),
    qh 17 9 true (.bin .eql (.t 16) (.c (.int .i64 (.ofNat 1)))),
    qo 18 (.pick (.t 9) (.t 17) (.c (.bool false)))])
  (.cond (.t 18)
   .skip
   (.exit 0)))
  (.block 1 (.seq (.region [qm 19 0,
     qo 20 (.nilck (.t 19)),
     qo 21 (.faddr 1 (.t 20)),
     qo 22 (.load false 1 (.t 21)),
     qo 23 (.iasl 20 (.t 22) (.c (.int .i64 (.ofNat 0)))),
     qo 24 (.load true 20 (.t 23)),
     qn 2 (.new 0 [(.int .i64 (.ofNat 0)), (.int .i64 (.ofNat 0)), .nils, (.int .i64 (.ofNat 0)), (.int .i64 (.ofNat 0)), (.int .i64 (.ofNat 0)), (.int .i64 (.ofNat 0)), (.int .u64 (.ofNat 0)), (.bool false), (.str []), (.int .i64 (.ofNat 0)), .nils, (.bool false), (.int .u64 (.ofNat 0)), (.str []), (.int .i64 (.ofNat 0)), (.int .i64 (.ofNat 0)), (.int .i64 (.ofNat 0)), (.int .i64 (.ofNat 0)), (.int .i64 (.ofNat 0))]),
     qx (.store 20 (.t 2) (.t 24))])
   (.seq (.region [qm 25 0,
     qm 26 0,
     qo 27 (.nilck (.t 26)),
     qo 28 (.faddr 1 (.t 27)),
     qo 29 (.load false 1 (.t 28)),
     qo 30 (.slsl 20 (.t 29) (some (.c (.int .i64 (.ofNat 1)))) none none),
     qo 31 (.nilck (.t 25)),
     qo 32 (.faddr 1 (.t 31)),
     qx (.store 1 (.t 32) (.t 30))])
   (.seq (.region [qo 33 (.faddr 1 (.t 2)),
     qo 34 (.load true 9 (.t 33)),
     qo 35 (.faddr 10 (.t 2)),
     qo 36 (.load true 9 (.t 35)),
     qe 37 (.call 58 [(.t 34), (.t 36)]),
     qo 38 (.un .not (.t 37))])
   (.cond (.t 38)
    (.region [qm 39 0,
      qo 40 (.nilck (.t 39)),
      qo 41 (.faddr 2 (.t 40)),
      qo 42 (.load false 1 (.t 41)),
      qo 43 (.faddr 10 (.t 2)),
      qo 44 (.load true 9 (.t 43)),
      qe 45 (.call 59 [(.t 44)]),
      .again ⟨(some 42), none, (.r (.load false 1 (.t 41)))⟩,
      qo 46 (.bin .add (.t 42) (.t 45)),
      qo 47 (.nilck (.t 39)),
      qo 48 (.faddr 2 (.t 47)),
      qx (.store 1 (.t 48) (.t 46))])
    .skip))))))
/-- (*depot/cluster.conn).say -/
def pf_cluster_conn_say : PF := { ntmps := 49, results := [], body :=
  (.block 0 (.loop l0_cluster_conn_say)) }
theorem tr_cluster_conn_say : trF cx Tryz.f36 = pf_cluster_conn_say := by kernel_rfl
/-- (*depot/parse.Parser).Shut -/
def pf_parse_Parser_Shut : PF := { ntmps := 7, results := [.tmp 2], body :=
  (.seq (.region [qo 2 (.mv (.c (.bool false)))])
  (.seq (.region [qm 3 0,
    qo 4 (.nilck (.t 3)),
    qo 5 (.faddr 12 (.t 4)),
    qo 6 (.load false 1 (.t 5)),
    qm 2 6])
  .ret)) }
theorem tr_parse_Parser_Shut : trF cx Tryz.f37 = pf_parse_Parser_Shut := by kernel_rfl
def l0_parse_Parser_Feed : PC :=
  (.seq (.seq (.region [qm 19 0,
    qo 20 (.nilck (.t 19)),
    qo 21 (.faddr 12 (.t 20)),
    qo 22 (.load false 1 (.t 21)),
    qo 23 (.un .not (.t 22))])
  (.cond (.t 23)
   .skip
   (.exit 0)))
  (.block 1 (.seq (.region [qo 5 (.mv (.c (.bool false)))])
   (.seq (.seq (.region [qm 24 0,
     qo 25 (.nilck (.t 24)),
     qo 26 (.faddr 0 (.t 25)),
     qo 27 (.load false 1 (.t 26))])
   (.block 2 (.seq (.region [qo 29 (.bin .eql (.t 27) (.c (.int .i64 (.ofNat 0)))),
      qm 28 29])
    (.cond (.t 28)
     (.region [qm 30 0,
       qe 31 (.call 60 [(.t 30)]),
       qm 5 31])
     (.seq (.region [qo 33 (.bin .eql (.t 27) (.c (.int .i64 (.ofNat 1)))),
       qm 32 33])
     (.cond (.t 32)
      (.region [qm 34 0,
        qe 35 (.call 61 [(.t 34)]),
        qm 5 35])
      (.seq (.region [qo 37 (.bin .eql (.t 27) (.c (.int .i64 (.ofNat 2)))),
        qm 36 37])
      (.cond (.t 36)
       (.region [qm 38 0,
         qo 39 (.bad),
         qm 5 39])
       (.seq (.region [qo 41 (.bin .eql (.t 27) (.c (.int .i64 (.ofNat 3)))),
         qm 40 41])
       (.cond (.t 40)
        (.region [qm 42 0,
          qo 43 (.bad),
          qm 5 43])
        .skip))))))))))
   (.seq (.region [qm 44 5,
     qo 45 (.un .not (.t 44))])
   (.cond (.t 45)
    (.exit 0)
    .skip))))))
/-- (*depot/parse.Parser).Feed -/
def pf_parse_Parser_Feed : PF := { ntmps := 54, results := [.tmp 4], body :=
  (.seq (.region [qo 4 (.mv (.c .nils))])
  (.scope (.seq (.seq (.region [qm 7 0,
     qo 8 (.nilck (.t 7)),
     qo 9 (.faddr 12 (.t 8)),
     qo 10 (.load false 1 (.t 9))])
   (.cond (.t 10)
    (.seq (.region [qo 4 (.mv (.c .nils))])
    .ret)
    .skip))
   (.seq (.region [qm 11 0,
     qo 12 (.nilck (.t 11)),
     qo 13 (.faddr 1 (.t 12)),
     qo 14 (.load false 1 (.t 13)),
     qm 15 1,
     qo 16 (.bin .add (.t 14) (.t 15)),
     qo 17 (.nilck (.t 11)),
     qo 18 (.faddr 1 (.t 17)),
     qx (.store 1 (.t 18) (.t 16))])
   (.seq .skip
   (.seq (.block 0 (.loop l0_parse_Parser_Feed))
   (.seq (.region [qm 46 0,
     qo 47 (.nilck (.t 46)),
     qo 48 (.faddr 13 (.t 47)),
     qo 49 (.load false 1 (.t 48)),
     qm 6 49])
   (.seq (.region [qm 50 0,
     qo 51 (.nilck (.t 50)),
     qo 52 (.faddr 13 (.t 51)),
     qx (.store 1 (.t 52) (.c .nils))])
   (.seq (.region [qm 53 6,
     qm 4 53])
   .ret))))))))) }
theorem tr_parse_Parser_Feed : trF cx Tryz.f38 = pf_parse_Parser_Feed := by kernel_rfl
/-- (*depot/router.Router).Do -/
def pf_router_Router_Do : PF := { ntmps := 126, results := [.tmp 4], body :=
  (.seq (.region [qn 3 (.box (.t 1)),
    qo 4 (.mv (.c (.int .i64 (.ofNat 0))))])
  (.seq (.region [qm 7 0,
    qo 8 (.nilck (.t 7)),
    qo 9 (.faddr 27 (.t 8)),
    qo 10 (.load false 1 (.t 9)),
    qo 11 (.bin .add (.t 10) (.c (.int .i64 (.ofNat 1)))),
    qo 12 (.nilck (.t 7)),
    qo 13 (.faddr 27 (.t 12)),
    qx (.store 1 (.t 13) (.t 11))])
  (.seq (.region [qm 14 0,
    qo 15 (.nilck (.t 14)),
    qo 16 (.faddr 27 (.t 15)),
    qo 17 (.load false 1 (.t 16)),
    qm 5 17])
  (.seq (.region [qo 18 (.faddr 0 (.t 3)),
    qo 19 (.load false 1 (.t 18)),
    qo 20 (.bin .eql (.t 19) (.c (.int .i64 (.ofNat 1)))),
    qm 21 20,
    qh 22 21 false (.faddr 0 (.t 3)),
    qh 23 21 false (.load false 1 (.t 22)),
    qh 24 21 false (.bin .eql (.t 23) (.c (.int .i64 (.ofNat 2)))),
    qo 25 (.pick (.t 21) (.c (.bool true)) (.t 24)),
    qm 6 25])
  (.seq (.block 0 (.seq (.region [qo 60 (.faddr 0 (.t 3)),
     qo 61 (.load false 1 (.t 60)),
     qo 62 (.bin .eql (.t 61) (.c (.int .i64 (.ofNat 13)))),
     qm 59 62])
   (.cond (.t 59)
    (.seq (.region [qm 63 0,
      qm 64 0,
      qo 65 (.nilck (.t 64)),
      qo 66 (.faddr 10 (.t 65)),
      qo 67 (.load false 1 (.t 66)),
      qo 68 (.nilck (.t 63)),
      qo 69 (.faddr 9 (.t 68)),
      qx (.store 1 (.t 69) (.t 67))])
    (.region [qm 70 0,
      qm 71 5,
      qo 72 (.build [(.int .i64 (.ofNat 0)), .nils, (.bool false), (.int .u64 (.ofNat 0)), (.str []), (.int .i64 (.ofNat 0)), (.int .i64 (.ofNat 0)), (.int .i64 (.ofNat 0)), (.int .i64 (.ofNat 0))] [(0, 1, (.c (.int .i64 (.ofNat 9))))]),
      qe 73 (.call 64 [(.t 70), (.t 71), (.t 72)])]))
    (.seq (.region [qo 75 (.faddr 0 (.t 3)),
      qo 76 (.load false 1 (.t 75)),
      qo 77 (.bin .eql (.t 76) (.c (.int .i64 (.ofNat 14)))),
      qm 74 77])
    (.cond (.t 74)
     (.region [qm 78 0,
       qm 79 5,
       qo 80 (.build [(.int .i64 (.ofNat 0)), .nils, (.bool false), (.int .u64 (.ofNat 0)), (.str []), (.int .i64 (.ofNat 0)), (.int .i64 (.ofNat 0)), (.int .i64 (.ofNat 0)), (.int .i64 (.ofNat 0))] [(0, 1, (.c (.int .i64 (.ofNat 10))))]),
       qe 81 (.call 64 [(.t 78), (.t 79), (.t 80)])])
     (.seq (.region [qo 83 (.faddr 0 (.t 3)),
       qo 84 (.load false 1 (.t 83)),
       qo 85 (.bin .eql (.t 84) (.c (.int .i64 (.ofNat 15)))),
       qm 82 85])
     (.cond (.t 82)
      (.region [qm 86 0,
        qm 87 5,
        qo 88 (.build [(.int .i64 (.ofNat 0)), .nils, (.bool false), (.int .u64 (.ofNat 0)), (.str []), (.int .i64 (.ofNat 0)), (.int .i64 (.ofNat 0)), (.int .i64 (.ofNat 0)), (.int .i64 (.ofNat 0))] [(0, 1, (.c (.int .i64 (.ofNat 9))))]),
        qe 89 (.call 64 [(.t 86), (.t 87), (.t 88)])])
      (.seq (.region [qo 91 (.faddr 0 (.t 3)),
        qo 92 (.load false 1 (.t 91)),
        qo 93 (.bin .eql (.t 92) (.c (.int .i64 (.ofNat 16)))),
        qm 90 93])
      (.cond (.t 90)
       (.region [qm 94 0,
         qm 95 5,
         qm 96 0,
         qo 97 (.bad),
         qe 98 (.call 64 [(.t 94), (.t 95), (.t 97)])])
       (.seq (.region [qo 100 (.load true 9 (.t 3)),
         qe 101 (.call 66 [(.t 100)]),
         qo 102 (.un .not (.t 101)),
         qm 103 102,
         qg 104 103 false 6,
         qh 105 103 false (.un .not (.t 104)),
         qg 106 103 false 105,
         qh 107 106 true (.faddr 1 (.t 3)),
         qh 108 106 true (.load false 1 (.t 107)),
         qh 109 106 true (.lensl (.t 108)),
         qh 110 106 true (.bin .neq (.t 109) (.c (.int .i64 (.ofNat 1)))),
         qh 111 103 false (.pick (.t 106) (.t 110) (.c (.bool false))),
         qo 112 (.pick (.t 103) (.c (.bool true)) (.t 111)),
         qm 99 112])
       (.cond (.t 99)
        (.region [qm 113 0,
          qm 114 5,
          qo 115 (.build [(.int .i64 (.ofNat 0)), .nils, (.bool false), (.int .u64 (.ofNat 0)), (.str []), (.int .i64 (.ofNat 0)), (.int .i64 (.ofNat 0)), (.int .i64 (.ofNat 0)), (.int .i64 (.ofNat 0))] [(0, 1, (.c (.int .i64 (.ofNat 12))))]),
          qe 116 (.call 64 [(.t 113), (.t 114), (.t 115)])])
        (.seq (.region [qm 118 6,
          qm 117 118])
        (.cond (.t 117)
         (.region [qm 119 0,
           qm 120 5,
           qo 121 (.load true 9 (.t 3)),
           qe 122 (.call 67 [(.t 119), (.t 120), (.t 121)])])
         (.seq (.seq (.region [qo 26 (.faddr 0 (.t 3)),
           qo 27 (.load false 1 (.t 26)),
           qe 28 (.call 68 [(.t 27)])])
         (.cond (.t 28)
          (.region [qm 29 0,
            qo 30 (.nilck (.t 29)),
            qo 31 (.faddr 29 (.t 30)),
            qo 32 (.iaarr 3 1 (.t 31) (.c (.int .i64 (.ofNat 1)))),
            qo 33 (.load false 1 (.t 32)),
            qo 34 (.bin .add (.t 33) (.c (.int .i64 (.ofNat 1)))),
            qo 35 (.nilck (.t 29)),
            qo 36 (.faddr 29 (.t 35)),
            qo 37 (.iaarr 3 1 (.t 36) (.c (.int .i64 (.ofNat 1)))),
            qx (.store 1 (.t 37) (.t 34))])
          .skip))
         (.seq (.region [qm 38 0,
           qm 39 0,
           qo 40 (.nilck (.t 39)),
           qo 41 (.faddr 14 (.t 40)),
           qo 42 (.load false 1 (.t 41)),
           qm 43 5,
           qo 44 (.build [(.int .i64 (.ofNat 0)), (.int .i64 (.ofNat 0)), (.int .i64 (.ofNat 0)), .nils, (.bool false), (.int .u64 (.ofNat 0)), (.str []), (.int .i64 (.ofNat 0)), (.int .i64 (.ofNat 0)), (.int .i64 (.ofNat 0)), (.int .i64 (.ofNat 0)), .nils] [(0, 1, (.t 43)), (1, 1, (.c (.int .i64 (.ofNat 1))))]),
           qn 45 (.box (.t 44)),
           qn 46 (.bslice 0 1 1 [.nilp] [(0, 1, (.t 45))]),
           qe 47 (.app 0 1 8 (.t 42) (.t 46)),
           qo 48 (.nilck (.t 38)),
           qo 49 (.faddr 14 (.t 48)),
           qx (.store 1 (.t 49) (.t 47))])
         (.region [qm 50 0,
           qo 51 (.faddr 1 (.t 3)),
           qo 52 (.load false 1 (.t 51)),
           qo 53 (.iasl 1 (.t 52) (.c (.int .i64 (.ofNat 0)))),
           qo 54 (.load false 1 (.t 53)),
           qo 55 (.load true 9 (.t 3)),
           qm 56 5,
           qo 57 (.build [(.str []), (.int .i64 (.ofNat 0)), .nils, (.int .i64 (.ofNat 0)), (.int .i64 (.ofNat 0)), (.int .i64 (.ofNat 0)), (.int .i64 (.ofNat 0)), (.int .u64 (.ofNat 0)), (.bool false), (.str []), (.int .i64 (.ofNat 0)), (.int .i64 (.ofNat 0)), (.int .i64 (.ofNat 0)), (.int .i64 (.ofNat 0))] [(0, 1, (.t 54)), (1, 9, (.t 55)), (10, 1, (.t 56)), (12, 1, (.c (.int .i64 (.negSucc 0))))]),
           qe 58 (.call 69 [(.t 50), (.t 57)])]))))))))))))))))
  (.seq (.region [qm 123 0,
    qe 124 (.call 45 [(.t 123)])])
  (.seq (.region [qm 125 5,
    qm 4 125])
  .ret))))))) }
theorem tr_router_Router_Do : trF cx Tryz.f39 = pf_router_Router_Do := by kernel_rfl
/-- (*depot/net.Net).Copy -/
def pf_net_Net_Copy : PF := { ntmps := 25, results := [.cell 4 true 9, .tmp 5], body :=
  (.seq (.region [.op ⟨(some 4), none, (.n (.new 0 [(.int .i64 (.ofNat 0)), (.int .i64 (.ofNat 0)), (.int .i64 (.ofNat 0)), (.int .i64 (.ofNat 0)), (.int .i64 (.ofNat 0)), (.int .i64 (.ofNat 0)), (.str []), (.int .i64 (.ofNat 0)), (.str [])]))⟩,
    .op ⟨(some 5), none, (.r (.mv (.c (.bool false))))⟩])
  (.seq (.seq (.region [.op ⟨(some 6), none, (.r (.mv (.t 1)))⟩,
    .op ⟨(some 7), none, (.r (.bin .lss (.t 6) (.c (.int .i64 (.ofNat 0)))))⟩,
    .op ⟨(some 8), none, (.r (.mv (.t 7)))⟩,
    .op ⟨(some 9), (some (8, false)), (.r (.mv (.t 1)))⟩,
    .op ⟨(some 10), (some (8, false)), (.r (.mv (.t 0)))⟩,
    .op ⟨(some 11), (some (8, false)), (.r (.nilck (.t 10)))⟩,
    .op ⟨(some 12), (some (8, false)), (.r (.faddr 0 (.t 11)))⟩,
    .op ⟨(some 13), (some (8, false)), (.r (.load false 1 (.t 12)))⟩,
    .op ⟨(some 14), (some (8, false)), (.r (.lensl (.t 13)))⟩,
    .op ⟨(some 15), (some (8, false)), (.r (.bin .geq (.t 9) (.t 14)))⟩,
    .op ⟨(some 16), none, (.r (.pick (.t 8) (.c (.bool true)) (.t 15)))⟩])
  (.cond (.t 16)
   (.seq (.region [.op ⟨(some 17), none, (.r (.build [(.int .i64 (.ofNat 0)), (.int .i64 (.ofNat 0)), (.int .i64 (.ofNat 0)), (.int .i64 (.ofNat 0)), (.int .i64 (.ofNat 0)), (.int .i64 (.ofNat 0)), (.str []), (.int .i64 (.ofNat 0)), (.str [])] []))⟩,
     .op ⟨none, none, (.e (.store 9 (.t 4) (.t 17)))⟩,
     .op ⟨(some 5), none, (.r (.mv (.c (.bool false))))⟩])
   .ret)
   .skip))
  (.seq (.region [.op ⟨(some 18), none, (.r (.mv (.t 0)))⟩,
    .op ⟨(some 19), none, (.r (.nilck (.t 18)))⟩,
    .op ⟨(some 20), none, (.r (.faddr 0 (.t 19)))⟩,
    .op ⟨(some 21), none, (.r (.load false 1 (.t 20)))⟩,
    .op ⟨(some 22), none, (.r (.mv (.t 1)))⟩,
    .op ⟨(some 23), none, (.r (.iasl 9 (.t 21) (.t 22)))⟩,
    .op ⟨(some 24), none, (.r (.load true 9 (.t 23)))⟩,
    .op ⟨none, none, (.e (.store 9 (.t 4) (.t 24)))⟩,
    .op ⟨(some 5), none, (.r (.mv (.c (.bool true))))⟩])
  .ret))) }
theorem tr_net_Net_Copy : trF cx Tryz.f40 = pf_net_Net_Copy := by kernel_rfl
/-- (*depot/net.Net).Drop -/
def pf_net_Net_Drop : PF := { ntmps := 26, results := [.tmp 4], body :=
  (.seq (.region [qo 4 (.mv (.c (.bool false)))])
  (.seq (.region [qm 8 0,
    qm 9 1,
    qe 10 (.call 40 [(.t 8), (.t 9)]),
    qm 7 10,
    qo 11 (.ext 0 (.t 7)),
    qo 12 (.ext 1 (.t 7)),
    qn 5 (.new 0 [(.int .i64 (.ofNat 0)), (.int .i64 (.ofNat 0)), (.int .i64 (.ofNat 0)), (.int .i64 (.ofNat 0)), (.int .i64 (.ofNat 0)), (.int .i64 (.ofNat 0)), (.str []), (.int .i64 (.ofNat 0)), (.str [])]),
    qx (.store 9 (.t 5) (.t 11)),
    qm 6 12])
  (.seq (.seq (.region [qm 13 6])
  (.cond (.t 13)
   (.region [qm 14 0,
     qm 15 0,
     qo 16 (.nilck (.t 15)),
     qo 17 (.faddr 0 (.t 16)),
     qo 18 (.load false 1 (.t 17)),
     qm 19 1,
     qm 20 1,
     qo 21 (.bin .add (.t 20) (.c (.int .i64 (.ofNat 1)))),
     qe 22 (.call 70 [(.t 18), (.t 19), (.t 21)]),
     qo 23 (.nilck (.t 14)),
     qo 24 (.faddr 0 (.t 23)),
     qx (.store 1 (.t 24) (.t 22))])
   .skip))
  (.seq (.region [qm 25 6,
    qm 4 25])
  .ret)))) }
theorem tr_net_Net_Drop : trF cx Tryz.f41 = pf_net_Net_Drop := by kernel_rfl
/-- (*depot/router.Router).Take -/
def pf_router_Router_Take : PF := { ntmps := 24, results := [.tmp 4], body :=
  (.seq (.region [qn 3 (.box (.t 1)),
    qo 4 (.mv (.c (.bool false)))])
  (.seq (.region [qm 8 0,
    qo 9 (.nilck (.t 8)),
    qo 10 (.faddr 7 (.t 9)),
    qo 11 (.load false 1 (.t 10)),
    qo 12 (.load true 9 (.t 3)),
    qn 5 (.new 0 [(.int .i64 (.ofNat 0)), (.int .i64 (.ofNat 0)), (.int .i64 (.ofNat 0)), (.int .i64 (.ofNat 0)), (.int .i64 (.ofNat 0)), (.int .i64 (.ofNat 0)), (.str []), (.int .i64 (.ofNat 0)), (.str [])]),
    qe 13 (.call 71 [(.t 11), (.t 12)]),
    qm 7 13,
    qo 14 (.ext 0 (.t 7)),
    qo 15 (.ext 1 (.t 7)),
    qx (.store 9 (.t 5) (.t 14)),
    qm 6 15])
  (.seq (.seq (.region [qm 16 6,
    qo 17 (.un .not (.t 16))])
  (.cond (.t 17)
   (.seq (.region [qo 4 (.mv (.c (.bool false)))])
   .ret)
   .skip))
  (.seq (.region [qm 18 0,
    qo 19 (.load true 9 (.t 5)),
    qo 20 (.load true 9 (.t 3)),
    qe 21 (.call 54 [(.t 18), (.t 19), (.t 20), (.c (.bool true))])])
  (.seq (.region [qm 22 0,
    qe 23 (.call 45 [(.t 22)])])
  (.seq (.region [qo 4 (.mv (.c (.bool true)))])
  .ret)))))) }
theorem tr_router_Router_Take : trF cx Tryz.f42 = pf_router_Router_Take := by kernel_rfl
def l0_slot_Slot_Take : PC :=
  (.seq (.region [qo 94 (.bin .lss (.t 93) (.t 92))])
  (.seq (.cond (.t 94)
   .skip
   (.exit 0))
  (.seq (.block 1 (.seq (.region [qo 95 (.iasl 10 (.t 91) (.t 93)),
     qo 96 (.load true 10 (.t 95)),
     qn 7 (.new 0 [(.int .i64 (.ofNat 0)), (.int .i64 (.ofNat 0)), (.int .i64 (.ofNat 0)), (.int .i64 (.ofNat 0)), (.int .i64 (.ofNat 0)), (.int .i64 (.ofNat 0)), (.int .i64 (.ofNat 0)), (.str []), (.int .i64 (.ofNat 0)), (.str [])]),
     qx (.store 10 (.t 7) (.t 96))])
   (.seq (.seq (.region [qo 97 (.faddr 0 (.t 7)),
     qo 98 (.load false 1 (.t 97)),
     qo 99 (.faddr 3 (.t 3)),
     qo 100 (.load false 1 (.t 99)),
     qo 101 (.bin .neq (.t 98) (.t 100))])
   (.cond (.t 101)
    (.exit 1)
    .skip))
   (.seq (.region [qo 102 (.faddr 1 (.t 7)),
     qo 103 (.load true 9 (.t 102)),
     qx (.store 9 (.t 4) (.t 103)),
     qo 5 (.mv (.c (.bool true)))])
   .ret))))
  (.region [qo 104 (.bin .add (.t 93) (.c (.int .i64 (.ofNat 1)))),
    qm 93 104]))))
/-- (*depot/slot.Slot).Take -/
def pf_slot_Slot_Take : PF := { ntmps := 122, results := [.cell 4 true 9, .tmp 5], body :=
  (.seq (.region [qn 2 (.box (.t 0)),
    qn 3 (.box (.t 1)),
    qn 4 (.new 0 [(.int .i64 (.ofNat 0)), (.int .i64 (.ofNat 0)), (.int .i64 (.ofNat 0)), (.int .i64 (.ofNat 0)), (.int .i64 (.ofNat 0)), (.int .i64 (.ofNat 0)), (.str []), (.int .i64 (.ofNat 0)), (.str [])]),
    qo 5 (.mv (.c (.bool false)))])
  (.scope (.seq (.seq (.region [qo 9 (.load true 9 (.t 3)),
     qe 10 (.call 72 [(.t 9)]),
     qo 11 (.un .not (.t 10)),
     qm 12 11,
     qh 13 12 false (.faddr 0 (.t 3)),
     qh 14 12 false (.load false 1 (.t 13)),
     qh 15 12 false (.bin .geq (.t 14) (.c (.int .i64 (.ofNat 6)))),
     qo 16 (.pick (.t 12) (.c (.bool true)) (.t 15)),
     qm 17 16,
     qh 18 17 false (.faddr 1 (.t 3)),
     qh 19 17 false (.load false 1 (.t 18)),
     qh 20 17 false (.load false 1 (.t 2)),
     qh 21 17 false (.nilck (.t 20)),
     qh 22 17 false (.faddr 0 (.t 21)),
     qh 23 17 false (.load false 1 (.t 22)),
     qh 24 17 false (.bin .neq (.t 19) (.t 23)),
     qo 25 (.pick (.t 17) (.c (.bool true)) (.t 24))])
   (.cond (.t 25)
    (.seq (.region [qo 26 (.build [(.int .i64 (.ofNat 0)), (.int .i64 (.ofNat 0)), (.int .i64 (.ofNat 0)), (.int .i64 (.ofNat 0)), (.int .i64 (.ofNat 0)), (.int .i64 (.ofNat 0)), (.str []), (.int .i64 (.ofNat 0)), (.str [])] []),
      qx (.store 9 (.t 4) (.t 26)),
      qo 5 (.mv (.c (.bool false)))])
    .ret)
    .skip))
   (.seq (.seq (.region [qo 27 (.faddr 0 (.t 3)),
     qo 28 (.load false 1 (.t 27)),
     qo 29 (.bin .eql (.t 28) (.c (.int .i64 (.ofNat 5))))])
   (.cond (.t 29)
    (.seq (.region [qo 30 (.load false 1 (.t 2)),
      qo 31 (.load true 9 (.t 3)),
      qe 32 (.call 73 [(.t 30), (.t 31)]),
      qo 33 (.ext 0 (.t 32)),
      qo 34 (.ext 1 (.t 32)),
      qx (.store 9 (.t 4) (.t 33)),
      qm 5 34])
    .ret)
    .skip))
   (.seq (.seq (.region [qo 35 (.load false 1 (.t 2)),
     qo 36 (.nilck (.t 35)),
     qo 37 (.faddr 3 (.t 36)),
     qo 38 (.load false 1 (.t 37)),
     qo 39 (.un .not (.t 38)),
     qm 40 39,
     qh 41 40 false (.faddr 2 (.t 3)),
     qh 42 40 false (.load false 1 (.t 41)),
     qh 43 40 false (.load false 1 (.t 2)),
     qh 44 40 false (.nilck (.t 43)),
     qh 45 40 false (.faddr 4 (.t 44)),
     qh 46 40 false (.load false 1 (.t 45)),
     qh 47 40 false (.bin .neq (.t 42) (.t 46)),
     qo 48 (.pick (.t 40) (.c (.bool true)) (.t 47)),
     qm 49 48,
     qh 50 49 false (.faddr 3 (.t 3)),
     qh 51 49 false (.load false 1 (.t 50)),
     qh 52 49 false (.load false 1 (.t 2)),
     qh 53 49 false (.nilck (.t 52)),
     qh 54 49 false (.faddr 5 (.t 53)),
     qh 55 49 false (.load false 1 (.t 54)),
     qh 56 49 false (.bin .lss (.t 51) (.t 55)),
     qo 57 (.pick (.t 49) (.c (.bool true)) (.t 56))])
   (.cond (.t 57)
    (.seq (.region [qo 58 (.build [(.int .i64 (.ofNat 0)), (.int .i64 (.ofNat 0)), (.int .i64 (.ofNat 0)), (.int .i64 (.ofNat 0)), (.int .i64 (.ofNat 0)), (.int .i64 (.ofNat 0)), (.str []), (.int .i64 (.ofNat 0)), (.str [])] []),
      qx (.store 9 (.t 4) (.t 58)),
      qo 5 (.mv (.c (.bool false)))])
    .ret)
    .skip))
   (.seq (.seq (.region [qo 59 (.faddr 4 (.t 3)),
     qo 60 (.load false 1 (.t 59)),
     qo 61 (.load false 1 (.t 2)),
     qo 62 (.nilck (.t 61)),
     qo 63 (.faddr 5 (.t 62)),
     qo 64 (.load false 1 (.t 63)),
     qo 65 (.bin .gtr (.t 60) (.t 64))])
   (.cond (.t 65)
    (.seq (.region [qo 66 (.load false 1 (.t 2)),
      qo 67 (.faddr 4 (.t 3)),
      qo 68 (.load false 1 (.t 67)),
      qo 69 (.nilck (.t 66)),
      qo 70 (.faddr 5 (.t 69)),
      qx (.store 1 (.t 70) (.t 68))])
    (.region [qo 71 (.load false 1 (.t 2)),
      qo 72 (.load false 1 (.t 2)),
      qo 73 (.nilck (.t 72)),
      qo 74 (.faddr 7 (.t 73)),
      qo 75 (.load false 1 (.t 74)),
      qo 76 (.mkfn 75 [(.t 2)]),
      qe 77 (.call 74 [(.t 75), (.t 76)]),
      .again ⟨(some 71), none, (.r (.load false 1 (.t 2)))⟩,
      qo 78 (.nilck (.t 71)),
      qo 79 (.faddr 7 (.t 78)),
      qx (.store 1 (.t 79) (.t 77))]))
    .skip))
   (.seq (.seq (.region [qo 80 (.faddr 3 (.t 3)),
     qo 81 (.load false 1 (.t 80)),
     qo 82 (.load false 1 (.t 2)),
     qo 83 (.nilck (.t 82)),
     qo 84 (.faddr 5 (.t 83)),
     qo 85 (.load false 1 (.t 84)),
     qo 86 (.bin .lss (.t 81) (.t 85))])
   (.cond (.t 86)
    (.seq (.region [qo 87 (.build [(.int .i64 (.ofNat 0)), (.int .i64 (.ofNat 0)), (.int .i64 (.ofNat 0)), (.int .i64 (.ofNat 0)), (.int .i64 (.ofNat 0)), (.int .i64 (.ofNat 0)), (.str []), (.int .i64 (.ofNat 0)), (.str [])] []),
      qx (.store 9 (.t 4) (.t 87)),
      qo 5 (.mv (.c (.bool false)))])
    .ret)
    .skip))
   (.seq .skip
   (.seq (.seq (.region [qo 88 (.load false 1 (.t 2)),
     qo 89 (.nilck (.t 88)),
     qo 90 (.faddr 7 (.t 89)),
     qo 91 (.load false 1 (.t 90)),
     qo 92 (.lensl (.t 91)),
     qo 93 (.mv (.c (.int .i64 (.ofNat 0))))])
   (.block 0 (.loop l0_slot_Slot_Take)))
   (.seq (.region [qo 105 (.load false 1 (.t 2)),
     qo 106 (.load true 9 (.t 3)),
     qe 107 (.call 76 [(.t 105), (.t 106)]),
     qn 8 (.new 0 [(.int .i64 (.ofNat 0)), (.int .i64 (.ofNat 0)), (.int .i64 (.ofNat 0)), (.int .i64 (.ofNat 0)), (.int .i64 (.ofNat 0)), (.int .i64 (.ofNat 0)), (.str []), (.int .i64 (.ofNat 0)), (.str [])]),
     qx (.store 9 (.t 8) (.t 107))])
   (.seq (.region [qo 108 (.load false 1 (.t 2)),
     qo 109 (.load false 1 (.t 2)),
     qo 110 (.nilck (.t 109)),
     qo 111 (.faddr 7 (.t 110)),
     qo 112 (.load false 1 (.t 111)),
     qo 113 (.faddr 3 (.t 3)),
     qo 114 (.load false 1 (.t 113)),
     qo 115 (.load true 9 (.t 8)),
     qo 116 (.build [(.int .i64 (.ofNat 0)), (.int .i64 (.ofNat 0)), (.int .i64 (.ofNat 0)), (.int .i64 (.ofNat 0)), (.int .i64 (.ofNat 0)), (.int .i64 (.ofNat 0)), (.int .i64 (.ofNat 0)), (.str []), (.int .i64 (.ofNat 0)), (.str [])] [(0, 1, (.t 114)), (1, 9, (.t 115))]),
     qn 117 (.bslice 0 10 1 [(.int .i64 (.ofNat 0)), (.int .i64 (.ofNat 0)), (.int .i64 (.ofNat 0)), (.int .i64 (.ofNat 0)), (.int .i64 (.ofNat 0)), (.int .i64 (.ofNat 0)), (.int .i64 (.ofNat 0)), (.str []), (.int .i64 (.ofNat 0)), (.str [])] [(0, 10, (.t 116))]),
     qe 118 (.app 0 10 96 (.t 112) (.t 117)),
     .again ⟨(some 108), none, (.r (.load false 1 (.t 2)))⟩,
     qo 119 (.nilck (.t 108)),
     qo 120 (.faddr 7 (.t 119)),
     qx (.store 1 (.t 120) (.t 118))])
   (.seq (.region [qo 121 (.load true 9 (.t 8)),
     qx (.store 9 (.t 4) (.t 121)),
     qo 5 (.mv (.c (.bool true)))])
   .ret)))))))))))) }
theorem tr_slot_Slot_Take : trF cx Tryz.f43 = pf_slot_Slot_Take := by kernel_rfl
def l0_router_Router_pump : PC :=
  (.seq (.region [qo 14 (.bin .lss (.t 13) (.t 12))])
  (.seq (.cond (.t 14)
   .skip
   (.exit 2))
  (.seq (.block 3 (.seq (.region [qm 15 13,
     qm 3 15])
   (.seq (.region [qm 16 0,
     qm 17 3,
     qo 18 (.nilck (.t 16)),
     qo 19 (.faddr 15 (.t 18)),
     qo 20 (.iaarr 12 1 (.t 19) (.t 17)),
     qo 21 (.load false 1 (.t 20)),
     qm 4 21])
   (.seq (.seq (.region [qm 22 4,
     qo 23 (.eqc false (.t 22) (.c .nilp))])
   (.cond (.t 23)
    (.exit 3)
    .skip))
   (.seq (.region [qm 25 4,
     qm 26 0,
     qe 27 (.call 81 [(.t 26)]),
     qo 28 (.fld true 12 0 (.t 27)),
     qe 29 (.call 80 [(.t 25), (.t 28)]),
     qm 24 29,
     qo 30 (.ext 0 (.t 24)),
     qo 31 (.ext 1 (.t 24)),
     qo 32 (.ext 2 (.t 24)),
     qm 5 30,
     qm 6 31,
     qm 7 32])
   (.seq (.seq (.region [qm 33 5])
   (.block 4 (.seq (.region [qo 35 (.bin .eql (.t 33) (.c (.int .i64 (.ofNat 1)))),
      qm 34 35])
    (.cond (.t 34)
     (.region [qm 36 0,
       qm 37 6,
       qm 38 7,
       qo 39 (.build [(.int .i64 (.ofNat 0)), (.int .i64 (.ofNat 0)), (.int .i64 (.ofNat 0)), (.int .i64 (.ofNat 0)), (.int .i64 (.ofNat 0)), (.int .i64 (.ofNat 0)), (.str []), (.int .i64 (.ofNat 0)), (.str [])] [(0, 1, (.c (.int .i64 (.ofNat 4)))), (1, 1, (.t 37)), (6, 1, (.t 38))]),
       qm 40 3,
       qm 41 0,
       qo 42 (.nilck (.t 41)),
       qo 43 (.faddr 6 (.t 42)),
       qo 44 (.load false 1 (.t 43)),
       qm 45 3,
       qe 46 (.call 82 [(.t 44), (.t 45)]),
       qo 47 (.build [(.int .i64 (.ofNat 0)), (.int .i64 (.ofNat 0)), (.int .i64 (.ofNat 0)), (.bool false), (.int .i64 (.ofNat 0)), (.int .i64 (.ofNat 0))] [(3, 1, (.c (.bool true))), (4, 1, (.t 40)), (5, 1, (.t 46))]),
       qe 48 (.call 55 [(.t 36), (.t 39), (.t 47)])])
     (.seq (.region [qo 50 (.bin .eql (.t 33) (.c (.int .i64 (.ofNat 2)))),
       qm 49 50])
     (.cond (.t 49)
      (.region [qm 51 0,
        qm 52 7,
        qm 53 3,
        qm 54 0,
        qo 55 (.nilck (.t 54)),
        qo 56 (.faddr 6 (.t 55)),
        qo 57 (.load false 1 (.t 56)),
        qm 58 3,
        qe 59 (.call 82 [(.t 57), (.t 58)]),
        qo 60 (.build [(.str []), (.int .i64 (.ofNat 0)), .nils, (.int .i64 (.ofNat 0)), (.int .i64 (.ofNat 0)), (.int .i64 (.ofNat 0)), (.int .i64 (.ofNat 0)), (.int .u64 (.ofNat 0)), (.bool false), (.str []), (.int .i64 (.ofNat 0)), (.int .i64 (.ofNat 0)), (.int .i64 (.ofNat 0)), (.int .i64 (.ofNat 0))] [(0, 1, (.t 52)), (12, 1, (.t 53)), (13, 1, (.t 59))]),
        qe 61 (.call 69 [(.t 51), (.t 60)])])
      (.seq (.region [qo 63 (.bin .eql (.t 33) (.c (.int .i64 (.ofNat 3)))),
        qm 62 63])
      (.cond (.t 62)
       (.seq (.region [qm 64 0,
         qo 65 (.nilck (.t 64)),
         qo 66 (.faddr 6 (.t 65)),
         qo 67 (.load false 1 (.t 66)),
         qm 68 3,
         qe 69 (.call 52 [(.t 67), (.t 68), (.c (.int .i64 (.ofNat 3)))])])
       (.region [qm 70 0,
         qm 71 3,
         qo 72 (.nilck (.t 70)),
         qo 73 (.faddr 15 (.t 72)),
         qo 74 (.iaarr 12 1 (.t 73) (.t 71)),
         qx (.store 1 (.t 74) (.c .nilp))]))
       (.exit 3)))))))))
   (.region [qo 2 (.mv (.c (.bool true)))])))))))
  (.region [qo 75 (.bin .add (.t 13) (.c (.int .i64 (.ofNat 1)))),
    qm 13 75]))))
def l1_router_Router_pump : PC :=
  (.block 1 (.scope (.seq (.region [qo 2 (.mv (.c (.bool false)))])
    (.seq .skip
    (.seq (.seq (.region [qm 8 0,
      qo 9 (.nilck (.t 8)),
      qo 10 (.faddr 0 (.t 9)),
      qo 11 (.faddr 3 (.t 10)),
      qo 12 (.load false 1 (.t 11)),
      qo 13 (.mv (.c (.int .i64 (.ofNat 0))))])
    (.block 2 (.loop l0_router_Router_pump)))
    (.seq (.region [qm 76 2,
      qo 77 (.un .not (.t 76))])
    (.cond (.t 77)
     (.exit 0)
     .skip)))))))
/-- (*depot/router.Router).pump -/
def pf_router_Router_pump : PF := { ntmps := 78, results := [], body :=
  (.scope (.seq .skip
   (.block 0 (.loop l1_router_Router_pump)))) }
theorem tr_router_Router_pump : trF cx Tryz.f45 = pf_router_Router_pump := by kernel_rfl
/-- (*depot/slot.Slot).clear -/
def pf_slot_Slot_clear : PF := { ntmps := 23, results := [], body :=
  (.seq (.region [qm 3 0,
    qm 4 0,
    qo 5 (.nilck (.t 4)),
    qo 6 (.faddr 1 (.t 5)),
    qo 7 (.load false 1 (.t 6)),
    qm 8 0,
    qo 9 (.nilck (.t 8)),
    qo 10 (.faddr 2 (.t 9)),
    qo 11 (.load false 1 (.t 10)),
    qe 12 (.call 33 [(.t 7), (.t 11)]),
    qm 2 12,
    qo 13 (.ext 0 (.t 2)),
    qo 14 (.ext 1 (.t 2)),
    qo 15 (.nilck (.t 3)),
    qo 16 (.faddr 6 (.t 15)),
    qx (.store 1 (.t 16) (.t 13))])
  (.region [qm 17 0,
    qm 18 0,
    qo 19 (.nilck (.t 17)),
    qo 20 (.faddr 7 (.t 19)),
    qx (.store 1 (.t 20) (.c .nils)),
    qo 21 (.nilck (.t 18)),
    qo 22 (.faddr 5 (.t 21)),
    qx (.store 1 (.t 22) (.c (.int .i64 (.ofNat 0))))])) }
theorem tr_slot_Slot_clear : trF cx Tryz.f46 = pf_slot_Slot_clear := by kernel_rfl
/-- slices.Clone[[]string,string] -/
def pf_slices_Clone_string_string : PF := { ntmps := 8, results := [.tmp 2], body :=
  (.seq (.region [qo 2 (.mv (.c .nils))])
  (.seq (.seq (.region [qm 3 0,
    qo 4 (.eqv false .s (.t 3) (.c .nils))])
  (.cond (.t 4)
   (.seq (.region [qo 2 (.mv (.c .nils))])
   .ret)
   .skip))
  (.seq (.region [qn 5 (.bslice 0 1 0 [] []),
    qm 6 0,
    qe 7 (.app 0 1 16 (.t 5) (.t 6)),
    qm 2 7])
  .ret))) }
theorem tr_slices_Clone_string_string : trF cx Tryz.f47 = pf_slices_Clone_string_string := by kernel_rfl
/-- slices.Clone[[]depot/api.Found,depot/api.Found] -/
def pf_slices_Clone_api_Found_api_Found : PF := { ntmps := 8, results := [.tmp 2], body :=
  (.seq (.region [qo 2 (.mv (.c .nils))])
  (.seq (.seq (.region [qm 3 0,
    qo 4 (.eqv false .s (.t 3) (.c .nils))])
  (.cond (.t 4)
   (.seq (.region [qo 2 (.mv (.c .nils))])
   .ret)
   .skip))
  (.seq (.region [qn 5 (.bslice 0 4 0 [] []),
    qm 6 0,
    qe 7 (.app 0 4 48 (.t 5) (.t 6)),
    qm 2 7])
  .ret))) }
theorem tr_slices_Clone_api_Found_api_Found : trF cx Tryz.f48 = pf_slices_Clone_api_Found_api_Found := by kernel_rfl
/-- slices.Clone[[]depot/api.Frame,depot/api.Frame] -/
def pf_slices_Clone_api_Frame_api_Frame : PF := { ntmps := 8, results := [.tmp 2], body :=
  (.seq (.region [.op ⟨(some 2), none, (.r (.mv (.c .nils)))⟩])
  (.seq (.seq (.region [.op ⟨(some 3), none, (.r (.mv (.t 0)))⟩,
    .op ⟨(some 4), none, (.r (.eqv false .s (.t 3) (.c .nils)))⟩])
  (.cond (.t 4)
   (.seq (.region [.op ⟨(some 2), none, (.r (.mv (.c .nils)))⟩])
   .ret)
   .skip))
  (.seq (.region [.op ⟨(some 5), none, (.n (.bslice 0 9 0 [] []))⟩,
    .op ⟨(some 6), none, (.r (.mv (.t 0)))⟩,
    .op ⟨(some 7), none, (.e (.app 0 9 88 (.t 5) (.t 6)))⟩,
    .op ⟨(some 2), none, (.r (.mv (.t 7)))⟩])
  .ret))) }
theorem tr_slices_Clone_api_Frame_api_Frame : trF cx Tryz.f49 = pf_slices_Clone_api_Frame_api_Frame := by kernel_rfl
/-- depot/rs.New -/
def pf_rs_New : PF := { ntmps := 40, results := [.tmp 4, .tmp 5], body :=
  (.seq (.region [qo 4 (.mv (.c .nilp)),
    qo 5 (.mv (.c (.int .i64 (.ofNat 0))))])
  (.seq (.seq (.region [qm 7 0,
    qo 8 (.bin .lss (.t 7) (.c (.int .i64 (.ofNat 1)))),
    qm 9 8,
    qg 10 9 false 0,
    qh 11 9 false (.bin .gtr (.t 10) (.c (.int .i64 (.ofNat 8)))),
    qo 12 (.pick (.t 9) (.c (.bool true)) (.t 11)),
    qm 13 12,
    qg 14 13 false 1,
    qh 15 13 false (.bin .lss (.t 14) (.c (.int .i64 (.ofNat 0)))),
    qo 16 (.pick (.t 13) (.c (.bool true)) (.t 15)),
    qm 17 16,
    qg 18 17 false 1,
    qg 19 17 false 0,
    qh 20 17 false (.bin .sub (.c (.int .i64 (.ofNat 12))) (.t 19)),
    qh 21 17 false (.bin .gtr (.t 18) (.t 20)),
    qo 22 (.pick (.t 17) (.c (.bool true)) (.t 21))])
  (.cond (.t 22)
   (.seq (.region [qo 4 (.mv (.c .nilp)),
     qo 5 (.mv (.c (.int .i64 (.ofNat 1))))])
   .ret)
   .skip))
  (.seq (.region [qm 23 0,
    qm 24 0,
    qm 25 1,
    qo 26 (.bin .add (.t 24) (.t 25)),
    qe 27 (.call 83 []),
    qo 28 (.build ([(.int .i64 (.ofNat 0)), (.int .i64 (.ofNat 0))] ++ (rep 766 [(.int .u8 (.ofNat 0))] ++ ([.nils]))) [(0, 1, (.t 23)), (1, 1, (.t 26)), (2, 766, (.t 27))]),
    qn 29 (.box (.t 28)),
    qm 6 29])
  (.seq (.region [qm 30 6,
    qm 31 6,
    qo 32 (.nilck (.t 31)),
    qo 33 (.faddr 2 (.t 32)),
    qm 34 0,
    qm 35 1,
    qe 36 (.call 84 [(.t 33), (.t 34), (.t 35)]),
    qo 37 (.nilck (.t 30)),
    qo 38 (.faddr 768 (.t 37)),
    qx (.store 1 (.t 38) (.t 36))])
  (.seq (.region [qm 39 6,
    qm 4 39,
    qo 5 (.mv (.c (.int .i64 (.ofNat 0))))])
  .ret))))) }
theorem tr_rs_New : trF cx Tryz.f50 = pf_rs_New := by kernel_rfl
/-- depot/task.within -/
def pf_task_within : PF := { ntmps := 15, results := [.tmp 6], body :=
  (.seq (.region [.op ⟨(some 6), none, (.r (.mv (.c (.bool false))))⟩])
  (.seq (.region [.op ⟨(some 7), none, (.r (.mv (.t 0)))⟩,
    .op ⟨(some 8), none, (.r (.mv (.t 1)))⟩,
    .op ⟨(some 9), none, (.r (.bin .geq (.t 7) (.t 8)))⟩,
    .op ⟨(some 10), none, (.r (.mv (.t 9)))⟩,
    .op ⟨(some 11), (some (10, true)), (.r (.mv (.t 0)))⟩,
    .op ⟨(some 12), (some (10, true)), (.r (.mv (.t 2)))⟩,
    .op ⟨(some 13), (some (10, true)), (.r (.bin .leq (.t 11) (.t 12)))⟩,
    .op ⟨(some 14), none, (.r (.pick (.t 10) (.t 13) (.c (.bool false))))⟩,
    .op ⟨(some 6), none, (.r (.mv (.t 14)))⟩])
  .ret)) }
theorem tr_task_within : trF cx Tryz.f51 = pf_task_within := by kernel_rfl
/-- (*depot/view.View).Next -/
def pf_view_View_Next : PF := { ntmps := 71, results := [.tmp 6], body :=
  (.seq (.region [qo 6 (.mv (.c (.bool false)))])
  (.seq (.seq (.region [qm 8 1,
    qo 9 (.bin .lss (.t 8) (.c (.int .i64 (.ofNat 0)))),
    qm 10 9,
    qg 11 10 false 1,
    qg 12 10 false 0,
    qh 13 10 false (.nilck (.t 12)),
    qh 14 10 false (.faddr 0 (.t 13)),
    qh 15 10 false (.load false 1 (.t 14)),
    qh 16 10 false (.lensl (.t 15)),
    qh 17 10 false (.bin .geq (.t 11) (.t 16)),
    qo 18 (.pick (.t 10) (.c (.bool true)) (.t 17))])
  (.cond (.t 18)
   (.seq (.region [qo 6 (.mv (.c (.bool false)))])
   .ret)
   .skip))
  (.seq (.region [qm 19 0,
    qo 20 (.nilck (.t 19)),
    qo 21 (.faddr 0 (.t 20)),
    qo 22 (.load false 1 (.t 21)),
    qm 23 1,
    qo 24 (.iasl 2 (.t 22) (.t 23)),
    qm 7 24])
  (.seq (.block 0 (.seq (.region [qm 26 2,
     qo 27 (.bin .eql (.t 26) (.c (.int .i64 (.ofNat 1)))),
     qm 25 27])
   (.cond (.t 25)
    (.seq (.region [qm 28 7,
      qo 29 (.nilck (.t 28)),
      qo 30 (.faddr 0 (.t 29)),
      qx (.store 1 (.t 30) (.c (.int .i64 (.ofNat 0))))])
    (.region [qm 31 7,
      qo 32 (.nilck (.t 31)),
      qo 33 (.faddr 1 (.t 32)),
      qo 34 (.load false 1 (.t 33)),
      qo 35 (.bin .add (.t 34) (.c (.int .i64 (.ofNat 1)))),
      qo 36 (.nilck (.t 31)),
      qo 37 (.faddr 1 (.t 36)),
      qx (.store 1 (.t 37) (.t 35))]))
    (.seq (.region [qm 39 2,
      qo 40 (.bin .eql (.t 39) (.c (.int .i64 (.ofNat 2)))),
      qm 41 40,
      qg 42 41 true 7,
      qh 43 41 true (.nilck (.t 42)),
      qh 44 41 true (.faddr 0 (.t 43)),
      qh 45 41 true (.load false 1 (.t 44)),
      qh 46 41 true (.bin .eql (.t 45) (.c (.int .i64 (.ofNat 0)))),
      qo 47 (.pick (.t 41) (.t 46) (.c (.bool false))),
      qm 48 47,
      qg 49 48 true 7,
      qh 50 48 true (.nilck (.t 49)),
      qh 51 48 true (.faddr 1 (.t 50)),
      qh 52 48 true (.load false 1 (.t 51)),
      qh 53 48 true (.bin .gtr (.t 52) (.c (.int .i64 (.ofNat 0)))),
      qo 54 (.pick (.t 48) (.t 53) (.c (.bool false))),
      qm 38 54])
    (.cond (.t 38)
     (.region [qm 55 7,
       qo 56 (.nilck (.t 55)),
       qo 57 (.faddr 0 (.t 56)),
       qx (.store 1 (.t 57) (.c (.int .i64 (.ofNat 1))))])
     (.seq (.region [qm 59 2,
       qo 60 (.bin .eql (.t 59) (.c (.int .i64 (.ofNat 3)))),
       qm 61 60,
       qg 62 61 true 7,
       qh 63 61 true (.nilck (.t 62)),
       qh 64 61 true (.faddr 0 (.t 63)),
       qh 65 61 true (.load false 1 (.t 64)),
       qh 66 61 true (.bin .eql (.t 65) (.c (.int .i64 (.ofNat 1)))),
       qo 67 (.pick (.t 61) (.t 66) (.c (.bool false))),
       qm 58 67])
     (.cond (.t 58)
      (.region [qm 68 7,
        qo 69 (.nilck (.t 68)),
        qo 70 (.faddr 0 (.t 69)),
        qx (.store 1 (.t 70) (.c (.int .i64 (.ofNat 2))))])
      (.seq (.region [qo 6 (.mv (.c (.bool false)))])
      .ret))))))))
  (.seq (.region [qo 6 (.mv (.c (.bool true)))])
  .ret))))) }
theorem tr_view_View_Next : trF cx Tryz.f52 = pf_view_View_Next := by kernel_rfl
def l0_ask_Asks_Cancel : PC :=
  (.seq (.region [qo 15 (.bin .lss (.t 14) (.t 13))])
  (.seq (.cond (.t 15)
   .skip
   (.exit 0))
  (.seq (.block 1 (.seq (.region [qo 16 (.iasl 10 (.t 12) (.t 14)),
     qo 17 (.load true 10 (.t 16)),
     qn 8 (.new 0 [(.int .i64 (.ofNat 0)), (.int .i64 (.ofNat 0)), (.int .i64 (.ofNat 0)), (.int .i64 (.ofNat 0)), (.int .i64 (.ofNat 0)), (.int .i64 (.ofNat 0)), (.str []), (.int .i64 (.ofNat 0)), (.str []), (.int .i64 (.ofNat 0))]),
     qx (.store 10 (.t 8) (.t 17))])
   (.seq (.region [qo 18 (.faddr 0 (.t 8)),
     qo 19 (.faddr 1 (.t 18)),
     qo 20 (.load false 1 (.t 19)),
     qm 21 1,
     qo 22 (.bin .eql (.t 20) (.t 21))])
   (.cond (.t 22)
    (.region [qm 23 5,
      qo 24 (.faddr 0 (.t 8)),
      qo 25 (.load true 9 (.t 24)),
      qn 26 (.bslice 0 9 1 [(.int .i64 (.ofNat 0)), (.int .i64 (.ofNat 0)), (.int .i64 (.ofNat 0)), (.int .i64 (.ofNat 0)), (.int .i64 (.ofNat 0)), (.int .i64 (.ofNat 0)), (.str []), (.int .i64 (.ofNat 0)), (.str [])] [(0, 9, (.t 25))]),
      qe 27 (.app 0 9 88 (.t 23) (.t 26)),
      qm 5 27])
    (.region [qm 28 6,
      qo 29 (.load true 10 (.t 8)),
      qn 30 (.bslice 0 10 1 [(.int .i64 (.ofNat 0)), (.int .i64 (.ofNat 0)), (.int .i64 (.ofNat 0)), (.int .i64 (.ofNat 0)), (.int .i64 (.ofNat 0)), (.int .i64 (.ofNat 0)), (.str []), (.int .i64 (.ofNat 0)), (.str []), (.int .i64 (.ofNat 0))] [(0, 10, (.t 29))]),
      qe 31 (.app 0 10 96 (.t 28) (.t 30)),
      qm 6 31])))))
  (.region [qo 32 (.bin .add (.t 14) (.c (.int .i64 (.ofNat 1)))),
    qm 14 32]))))
/-- (*depot/ask.Asks).Cancel -/
def pf_ask_Asks_Cancel : PF := { ntmps := 38, results := [.tmp 4], body :=
  (.seq (.region [qo 4 (.mv (.c .nils))])
  (.seq (.region [qo 5 (.mv (.c .nils))])
  (.seq (.region [qo 6 (.mv (.c .nils))])
  (.seq (.seq (.region [qm 9 0,
    qo 10 (.nilck (.t 9)),
    qo 11 (.faddr 0 (.t 10)),
    qo 12 (.load false 1 (.t 11)),
    qo 13 (.lensl (.t 12)),
    qo 14 (.mv (.c (.int .i64 (.ofNat 0))))])
  (.block 0 (.loop l0_ask_Asks_Cancel)))
  (.seq (.region [qm 33 0,
    qm 34 6,
    qo 35 (.nilck (.t 33)),
    qo 36 (.faddr 0 (.t 35)),
    qx (.store 1 (.t 36) (.t 34))])
  (.seq (.region [qm 37 5,
    qm 4 37])
  .ret)))))) }
theorem tr_ask_Asks_Cancel : trF cx Tryz.f53 = pf_ask_Asks_Cancel := by kernel_rfl
def l0_router_Router_heard : PC :=
  (.seq (.region [qo 38 (.bin .lss (.t 37) (.t 36))])
  (.seq (.cond (.t 38)
   .skip
   (.exit 1))
  (.seq (.block 2 (.seq (.region [qo 39 (.iasl 1 (.t 35) (.t 37)),
     qo 40 (.load false 1 (.t 39)),
     qm 11 40])
   (.region [qm 41 9,
     qm 42 11,
     qo 43 (.nilck (.t 42)),
     qo 44 (.faddr 0 (.t 43)),
     qo 45 (.load false 1 (.t 44)),
     qn 46 (.bslice 0 1 1 [(.int .i64 (.ofNat 0))] [(0, 1, (.t 45))]),
     qe 47 (.app 0 1 8 (.t 41) (.t 46)),
     qm 9 47])))
  (.region [qo 48 (.bin .add (.t 37) (.c (.int .i64 (.ofNat 1)))),
    qm 37 48]))))
/-- (*depot/router.Router).heard -/
def pf_router_Router_heard : PF := { ntmps := 126, results := [], body :=
  (.seq (.region [qn 5 (.box (.t 1)),
    qn 6 (.box (.t 2))])
  (.seq (.region [qm 14 0,
    qo 15 (.faddr 3 (.t 5)),
    qo 16 (.load false 1 (.t 15)),
    qe 17 (.call 85 [(.t 14), (.t 16)]),
    qn 8 (.new 0 [(.int .i64 (.ofNat 0)), (.int .i64 (.ofNat 0)), (.int .i64 (.ofNat 0)), (.bool false), (.int .i64 (.ofNat 0)), (.int .i64 (.ofNat 0))]),
    qx (.store 6 (.t 8) (.t 17))])
  (.block 0 (.seq (.region [qo 19 (.faddr 0 (.t 5)),
     qo 20 (.load false 1 (.t 19)),
     qo 21 (.bin .eql (.t 20) (.c (.int .i64 (.ofNat 5)))),
     qm 18 21])
   (.cond (.t 18)
    (.seq (.region [qm 22 3,
      qm 23 22,
      qg 24 23 true 0,
      qh 25 23 true (.nilck (.t 24)),
      qh 26 23 true (.faddr 6 (.t 25)),
      qh 27 23 true (.load false 1 (.t 26)),
      qh 28 23 true (.faddr 1 (.t 5)),
      qh 29 23 true (.load false 1 (.t 28)),
      .op ⟨(some 30), (some (23, true)), (.e (.call 52 [(.t 27), (.t 29), (.c (.int .i64 (.ofNat 2)))]))⟩,
      qo 31 (.pick (.t 23) (.t 30) (.c (.bool false)))])
    (.cond (.t 31)
     (.seq (.region [qo 9 (.mv (.c .nils))])
     (.seq (.seq (.region [qm 32 0,
       qo 33 (.nilck (.t 32)),
       qo 34 (.faddr 11 (.t 33)),
       qo 35 (.load false 1 (.t 34)),
       qo 36 (.lensl (.t 35)),
       qo 37 (.mv (.c (.int .i64 (.ofNat 0))))])
     (.block 1 (.loop l0_router_Router_heard)))
     (.region [qm 50 0,
       qo 51 (.faddr 1 (.t 5)),
       qo 52 (.load false 1 (.t 51)),
       qm 53 0,
       qo 54 (.nilck (.t 53)),
       qo 55 (.faddr 0 (.t 54)),
       qo 56 (.load true 6 (.t 55)),
       qo 57 (.faddr 1 (.t 5)),
       qo 58 (.load false 1 (.t 57)),
       qm 59 9,
       qo 63 (.nilck (.t 50)),
       qo 64 (.faddr 15 (.t 63)),
       qe 60 (.call 86 [(.t 56), (.t 58), (.t 59)]),
       .again ⟨(some 52), none, (.r (.load false 1 (.t 51)))⟩,
       qm 49 60,
       qo 61 (.ext 0 (.t 49)),
       qo 62 (.ext 1 (.t 49)),
       qo 65 (.iaarr 12 1 (.t 64) (.t 52)),
       qx (.store 1 (.t 65) (.t 61))])))
     .skip))
    (.seq (.region [qo 67 (.faddr 1 (.t 8)),
      qo 68 (.load false 1 (.t 67)),
      qo 69 (.bin .gtr (.t 68) (.c (.int .i64 (.ofNat 0)))),
      qm 66 69])
    (.cond (.t 66)
     (.seq (.region [qm 70 0,
       qo 71 (.faddr 1 (.t 8)),
       qo 72 (.load false 1 (.t 71)),
       qe 73 (.call 87 [(.t 70), (.t 72)]),
       qm 12 73])
     (.seq (.region [qm 74 12,
       qo 75 (.eqc true (.t 74) (.c .nilp))])
     (.cond (.t 75)
      (.seq (.region [qm 76 12,
        qo 77 (.nilck (.t 76)),
        qo 78 (.faddr 15 (.t 77)),
        qo 79 (.load false 1 (.t 78)),
        qm 80 0,
        qo 82 (.faddr 2 (.t 8)),
        qo 83 (.load false 1 (.t 82)),
        qo 84 (.load true 9 (.t 5)),
        qo 85 (.load true 9 (.t 6)),
        qm 86 3,
        qe 81 (.call 81 [(.t 80)]),
        .again ⟨(some 85), none, (.r (.load true 9 (.t 6)))⟩,
        .again ⟨(some 84), none, (.r (.load true 9 (.t 5)))⟩,
        .again ⟨(some 83), none, (.r (.load false 1 (.t 82)))⟩,
        .again ⟨(some 79), none, (.r (.load false 1 (.t 78)))⟩,
        qe 87 (.call 88 [(.t 79), (.t 81), (.t 83), (.t 84), (.t 85), (.t 86)])])
      (.region [qm 88 0,
        qm 89 12,
        qe 90 (.call 89 [(.t 88), (.t 89)])]))
      .skip)))
     (.seq (.region [qo 92 (.faddr 3 (.t 8)),
       qo 93 (.load false 1 (.t 92)),
       qm 91 93])
     (.cond (.t 91)
      (.seq (.region [qm 94 0,
        qo 95 (.faddr 4 (.t 8)),
        qo 96 (.load false 1 (.t 95)),
        qo 97 (.nilck (.t 94)),
        qo 98 (.faddr 15 (.t 97)),
        qo 99 (.iaarr 12 1 (.t 98) (.t 96)),
        qo 100 (.load false 1 (.t 99)),
        qm 13 100])
      (.seq (.region [qm 101 13,
        qo 102 (.eqc true (.t 101) (.c .nilp)),
        qm 103 102,
        qg 104 103 true 0,
        qh 105 103 true (.nilck (.t 104)),
        qh 106 103 true (.faddr 6 (.t 105)),
        qh 107 103 true (.load false 1 (.t 106)),
        qh 108 103 true (.faddr 4 (.t 8)),
        qh 109 103 true (.load false 1 (.t 108)),
        qh 111 103 true (.faddr 5 (.t 8)),
        qh 112 103 true (.load false 1 (.t 111)),
        .op ⟨(some 110), (some (103, true)), (.e (.call 82 [(.t 107), (.t 109)]))⟩,
        .again ⟨(some 112), (some (103, true)), (.r (.load false 1 (.t 111)))⟩,
        qh 113 103 true (.bin .eql (.t 110) (.t 112)),
        qo 114 (.pick (.t 103) (.t 113) (.c (.bool false)))])
      (.cond (.t 114)
       (.region [qm 115 13,
         qo 116 (.faddr 8 (.t 6)),
         qo 117 (.load false 1 (.t 116)),
         qo 118 (.bad),
         qm 119 3,
         qm 120 119,
         qh 121 120 true (.faddr 0 (.t 6)),
         qh 122 120 true (.load false 1 (.t 121)),
         qh 123 120 true (.bin .eql (.t 122) (.c (.int .i64 (.ofNat 6)))),
         qo 124 (.pick (.t 120) (.t 123) (.c (.bool false))),
         qo 125 (.bad)])
       .skip)))
      .skip))))))))) }
theorem tr_router_Router_heard : trF cx Tryz.f54 = pf_router_Router_heard := by kernel_rfl
/-- (*depot/router.Router).send -/
def pf_router_Router_send : PF := { ntmps := 49, results := [], body :=
  (.seq (.region [qn 4 (.box (.t 1)),
    qn 5 (.box (.t 2))])
  (.seq (.region [qm 8 0,
    qo 9 (.nilck (.t 8)),
    qo 10 (.faddr 6 (.t 9)),
    qo 11 (.load false 1 (.t 10)),
    qo 12 (.faddr 1 (.t 4)),
    qo 13 (.load false 1 (.t 12)),
    qe 14 (.call 82 [(.t 11), (.t 13)]),
    qo 15 (.faddr 2 (.t 4)),
    qx (.store 1 (.t 15) (.t 14))])
  (.seq (.region [qm 17 0,
    qo 18 (.nilck (.t 17)),
    qo 19 (.faddr 7 (.t 18)),
    qo 20 (.load false 1 (.t 19)),
    qo 21 (.load true 9 (.t 4)),
    qn 6 (.new 0 [(.int .i64 (.ofNat 0)), (.int .i64 (.ofNat 0)), (.int .i64 (.ofNat 0)), (.int .i64 (.ofNat 0)), (.int .i64 (.ofNat 0)), (.int .i64 (.ofNat 0)), (.str []), (.int .i64 (.ofNat 0)), (.str [])]),
    qe 22 (.call 92 [(.t 20), (.t 21)]),
    qm 16 22,
    qo 23 (.ext 0 (.t 16)),
    qo 24 (.ext 1 (.t 16)),
    qx (.store 9 (.t 6) (.t 23)),
    qm 7 24])
  (.seq (.region [qm 25 7])
  (.cond (.t 25)
   (.seq (.region [qo 26 (.faddr 3 (.t 6)),
     qo 27 (.load false 1 (.t 26)),
     qo 28 (.faddr 0 (.t 5)),
     qx (.store 1 (.t 28) (.t 27))])
   (.seq (.region [qm 29 0,
     qm 30 0,
     qo 31 (.nilck (.t 30)),
     qo 32 (.faddr 13 (.t 31)),
     qo 33 (.load false 1 (.t 32)),
     qo 34 (.load true 6 (.t 5)),
     qn 35 (.bslice 0 6 1 [(.int .i64 (.ofNat 0)), (.int .i64 (.ofNat 0)), (.int .i64 (.ofNat 0)), (.bool false), (.int .i64 (.ofNat 0)), (.int .i64 (.ofNat 0))] [(0, 6, (.t 34))]),
     qe 36 (.app 0 6 48 (.t 33) (.t 35)),
     qo 37 (.nilck (.t 29)),
     qo 38 (.faddr 13 (.t 37)),
     qx (.store 1 (.t 38) (.t 36))])
   (.region [qm 39 0,
     qm 40 0,
     qo 41 (.nilck (.t 40)),
     qo 42 (.faddr 32 (.t 41)),
     qo 43 (.load false 1 (.t 42)),
     qo 44 (.load true 9 (.t 6)),
     qn 45 (.bslice 0 9 1 [(.int .i64 (.ofNat 0)), (.int .i64 (.ofNat 0)), (.int .i64 (.ofNat 0)), (.int .i64 (.ofNat 0)), (.int .i64 (.ofNat 0)), (.int .i64 (.ofNat 0)), (.str []), (.int .i64 (.ofNat 0)), (.str [])] [(0, 9, (.t 44))]),
     qe 46 (.app 0 9 88 (.t 43) (.t 45)),
     qo 47 (.nilck (.t 39)),
     qo 48 (.faddr 32 (.t 47)),
     qx (.store 1 (.t 48) (.t 46))])))
   .skip))))) }
theorem tr_router_Router_send : trF cx Tryz.f55 = pf_router_Router_send := by kernel_rfl
def l0_slab_New : PC :=
  (.seq (.seq (.region [.op ⟨(some 26), none, (.r (.mv (.t 7)))⟩,
    .op ⟨(some 27), none, (.r (.mv (.t 1)))⟩,
    .op ⟨(some 28), none, (.r (.bin .leq (.t 26) (.t 27)))⟩])
  (.cond (.t 28)
   .skip
   (.exit 0)))
  (.seq (.block 1 (.region [.op ⟨(some 31), none, (.r (.mv (.t 6)))⟩,
     .op ⟨(some 32), none, (.r (.mv (.t 6)))⟩,
     .op ⟨(some 33), none, (.r (.nilck (.t 32)))⟩,
     .op ⟨(some 34), none, (.r (.faddr 3 (.t 33)))⟩,
     .op ⟨(some 35), none, (.r (.load false 1 (.t 34)))⟩,
     .op ⟨(some 36), none, (.r (.mv (.t 7)))⟩,
     .op ⟨(some 37), none, (.n (.mkmap))⟩,
     .op ⟨(some 38), none, (.r (.build [(.int .i64 (.ofNat 0)), .nils, .nilm, (.int .i64 (.ofNat 0))] [(0, 1, (.t 36)), (2, 1, (.t 37))]))⟩,
     .op ⟨(some 39), none, (.n (.bslice 0 4 1 [(.int .i64 (.ofNat 0)), .nils, .nilm, (.int .i64 (.ofNat 0))] [(0, 4, (.t 38))]))⟩,
     .op ⟨(some 40), none, (.e (.app 0 4 48 (.t 35) (.t 39)))⟩,
     .op ⟨(some 41), none, (.r (.nilck (.t 31)))⟩,
     .op ⟨(some 42), none, (.r (.faddr 3 (.t 41)))⟩,
     .op ⟨none, none, (.e (.store 1 (.t 42) (.t 40)))⟩]))
  (.region [.op ⟨(some 29), none, (.r (.mv (.t 7)))⟩,
    .op ⟨(some 30), none, (.r (.bin .mul (.t 29) (.c (.int .i64 (.ofNat 2)))))⟩,
    .op ⟨(some 7), none, (.r (.mv (.t 30)))⟩])))
/-- depot/slab.New -/
def pf_slab_New : PF := { ntmps := 44, results := [.tmp 4, .tmp 5], body :=
  (.seq (.region [.op ⟨(some 4), none, (.r (.mv (.c .nilp)))⟩,
    .op ⟨(some 5), none, (.r (.mv (.c (.int .i64 (.ofNat 0)))))⟩])
  (.seq (.seq (.region [.op ⟨(some 8), none, (.r (.mv (.t 0)))⟩,
    .op ⟨(some 9), none, (.r (.bin .lss (.t 8) (.c (.int .i64 (.ofNat 1)))))⟩,
    .op ⟨(some 10), none, (.r (.mv (.t 9)))⟩,
    .op ⟨(some 11), (some (10, false)), (.r (.mv (.t 0)))⟩,
    .op ⟨(some 12), (some (10, false)), (.r (.bin .gtr (.t 11) (.c (.int .i64 (.ofNat 64)))))⟩,
    .op ⟨(some 13), none, (.r (.pick (.t 10) (.c (.bool true)) (.t 12)))⟩,
    .op ⟨(some 14), none, (.r (.mv (.t 13)))⟩,
    .op ⟨(some 15), (some (14, false)), (.r (.mv (.t 1)))⟩,
    .op ⟨(some 16), (some (14, false)), (.r (.bin .lss (.t 15) (.c (.int .i64 (.ofNat 64)))))⟩,
    .op ⟨(some 17), none, (.r (.pick (.t 14) (.c (.bool true)) (.t 16)))⟩,
    .op ⟨(some 18), none, (.r (.mv (.t 17)))⟩,
    .op ⟨(some 19), (some (18, false)), (.r (.mv (.t 1)))⟩,
    .op ⟨(some 20), (some (18, false)), (.r (.bin .gtr (.t 19) (.c (.int .i64 (.ofNat 65536)))))⟩,
    .op ⟨(some 21), none, (.r (.pick (.t 18) (.c (.bool true)) (.t 20)))⟩])
  (.cond (.t 21)
   (.seq (.region [.op ⟨(some 4), none, (.r (.mv (.c .nilp)))⟩,
     .op ⟨(some 5), none, (.r (.mv (.c (.int .i64 (.ofNat 1)))))⟩])
   .ret)
   .skip))
  (.seq (.region [.op ⟨(some 22), none, (.r (.mv (.t 1)))⟩,
    .op ⟨(some 23), none, (.r (.mv (.t 0)))⟩,
    .op ⟨(some 24), none, (.r (.build [(.int .i64 (.ofNat 0)), (.int .i64 (.ofNat 0)), (.int .i64 (.ofNat 0)), .nils] [(0, 1, (.t 22)), (1, 1, (.t 23))]))⟩,
    .op ⟨(some 25), none, (.n (.box (.t 24)))⟩,
    .op ⟨(some 6), none, (.r (.mv (.t 25)))⟩])
  (.seq (.seq (.region [.op ⟨(some 7), none, (.r (.mv (.c (.int .i64 (.ofNat 64)))))⟩])
  (.block 0 (.loop l0_slab_New)))
  (.seq (.region [.op ⟨(some 43), none, (.r (.mv (.t 6)))⟩,
    .op ⟨(some 4), none, (.r (.mv (.t 43)))⟩,
    .op ⟨(some 5), none, (.r (.mv (.c (.int .i64 (.ofNat 0)))))⟩])
  .ret))))) }
theorem tr_slab_New : trF cx Tryz.f56 = pf_slab_New := by kernel_rfl
/-- depot/chain.New -/
def pf_chain_New : PF := { ntmps := 4, results := [.tmp 0], body :=
  (.seq (.region [qo 0 (.mv (.c .nilp))])
  (.seq (.region [qn 1 (.mksl 0 1 24 [.nils] (.c (.int .i64 (.ofNat 4))) (.c (.int .i64 (.ofNat 4)))),
    qo 2 (.build [.nils, .nils, (.int .i64 (.ofNat 0)), (.int .i64 (.ofNat 0))] [(0, 1, (.t 1))]),
    qn 3 (.box (.t 2)),
    qm 0 3])
  .ret)) }
theorem tr_chain_New : trF cx Tryz.f57 = pf_chain_New := by kernel_rfl
/-- depot/answer.Quiet -/
def pf_answer_Quiet : PF := { ntmps := 12, results := [.tmp 4], body :=
  (.seq (.region [qn 2 (.box (.t 0)),
    qn 3 (.box (.t 1)),
    qo 4 (.mv (.c (.bool false)))])
  (.seq (.region [qo 5 (.faddr 7 (.t 2)),
    qo 6 (.load false 1 (.t 5)),
    qm 7 6,
    qh 8 7 true (.faddr 0 (.t 3)),
    qh 9 7 true (.load false 1 (.t 8)),
    qh 10 7 true (.bin .neq (.t 9) (.c (.int .i64 (.ofNat 13)))),
    qo 11 (.pick (.t 7) (.t 10) (.c (.bool false))),
    qm 4 11])
  .ret)) }
theorem tr_answer_Quiet : trF cx Tryz.f58 = pf_answer_Quiet := by kernel_rfl
/-- depot/answer.Text -/
def pf_answer_Text : PF := { ntmps := 43, results := [.tmp 2], body :=
  (.seq (.region [qn 1 (.box (.t 0)),
    qo 2 (.mv (.c (.str [])))])
  (.seq (.seq (.region [qo 4 (.faddr 0 (.t 1)),
    qo 5 (.load false 1 (.t 4))])
  (.block 0 (.seq (.region [qo 7 (.bin .eql (.t 5) (.c (.int .i64 (.ofNat 1)))),
     qm 6 7])
   (.cond (.t 6)
    (.seq (.region [qo 8 (.faddr 1 (.t 1)),
      qo 9 (.load false 1 (.t 8)),
      qo 10 (.faddr 2 (.t 1)),
      qo 11 (.load false 1 (.t 10)),
      qe 12 (.call 93 [(.t 9), (.t 11)]),
      qm 2 12])
    .ret)
    (.seq (.region [qo 14 (.bin .eql (.t 5) (.c (.int .i64 (.ofNat 8)))),
      qm 13 14])
    (.cond (.t 13)
     (.seq (.region [qo 15 (.faddr 3 (.t 1)),
       qo 16 (.load false 1 (.t 15)),
       qo 17 (.bad),
       qo 18 (.bin .add (.t 17) (.c (.str [13, 10]))),
       qm 2 18])
     .ret)
     (.seq (.region [qo 20 (.bin .eql (.t 5) (.c (.int .i64 (.ofNat 11)))),
       qm 19 20])
     (.cond (.t 19)
      (.seq (.region [qo 21 (.faddr 5 (.t 1)),
        qo 22 (.load true 4 (.t 21)),
        qo 23 (.bad),
        qm 2 23])
      .ret)
      (.seq (.region [qo 25 (.bin .eql (.t 5) (.c (.int .i64 (.ofNat 13)))),
        qm 24 25])
      (.cond (.t 24)
       (.seq (.region [qo 26 (.faddr 4 (.t 1)),
         qo 27 (.load false 1 (.t 26)),
         qo 28 (.bin .add (.c (.str [67, 76, 73, 69, 78, 84, 95, 69, 82, 82, 79, 82, 32])) (.t 27)),
         qo 29 (.bin .add (.t 28) (.c (.str [13, 10]))),
         qm 2 29])
       .ret)
       (.seq (.region [qo 31 (.bin .eql (.t 5) (.c (.int .i64 (.ofNat 14)))),
         qm 30 31])
       (.cond (.t 30)
        (.seq (.region [qo 32 (.faddr 4 (.t 1)),
          qo 33 (.load false 1 (.t 32)),
          qo 34 (.bin .add (.c (.str [83, 69, 82, 86, 69, 82, 95, 69, 82, 82, 79, 82, 32])) (.t 33)),
          qo 35 (.bin .add (.t 34) (.c (.str [13, 10]))),
          qm 2 35])
        .ret)
        .skip))))))))))))
  (.seq (.seq (.region [qo 36 (.faddr 0 (.t 1)),
    qo 37 (.load false 1 (.t 36)),
    qe 38 (.call 96 [(.t 37)]),
    qm 3 38])
  (.seq (.region [qm 39 3,
    qo 40 (.bin .neq (.t 39) (.c (.str [])))])
  (.cond (.t 40)
   (.seq (.region [qm 41 3,
     qo 42 (.bin .add (.t 41) (.c (.str [13, 10]))),
     qm 2 42])
   .ret)
   .skip)))
  (.seq (.region [qo 2 (.mv (.c (.str [])))])
  .ret)))) }
theorem tr_answer_Text : trF cx Tryz.f59 = pf_answer_Text := by kernel_rfl
/-- (*depot/parse.Parser).line -/
def pf_parse_Parser_line : PF := { ntmps := 113, results := [.tmp 2], body :=
  (.seq (.region [qo 2 (.mv (.c (.bool false)))])
  (.seq (.region [qm 7 0,
    qo 8 (.nilck (.t 7)),
    qo 9 (.faddr 1 (.t 8)),
    qo 10 (.load false 1 (.t 9)),
    qe 11 (.call 97 [(.t 10), (.c (.int .u8 (.ofNat 10)))]),
    qm 3 11])
  (.seq (.seq (.region [qm 12 3,
    qo 13 (.bin .gtr (.t 12) (.c (.int .i64 (.ofNat 2048)))),
    qm 14 13,
    qg 15 14 false 3,
    qh 16 14 false (.bin .lss (.t 15) (.c (.int .i64 (.ofNat 0)))),
    qg 17 14 false 16,
    qg 18 17 true 0,
    qh 19 17 true (.nilck (.t 18)),
    qh 20 17 true (.faddr 1 (.t 19)),
    qh 21 17 true (.load false 1 (.t 20)),
    qh 22 17 true (.lens (.t 21)),
    qh 23 17 true (.bin .gtr (.t 22) (.c (.int .i64 (.ofNat 2048)))),
    qh 24 14 false (.pick (.t 17) (.t 23) (.c (.bool false))),
    qo 25 (.pick (.t 14) (.c (.bool true)) (.t 24))])
  (.cond (.t 25)
   (.seq (.region [qm 26 0,
     qo 27 (.bad)])
   (.seq (.region [qo 2 (.mv (.c (.bool true)))])
   .ret))
   .skip))
  (.seq (.seq (.region [qm 28 3,
    qo 29 (.bin .lss (.t 28) (.c (.int .i64 (.ofNat 0))))])
  (.cond (.t 29)
   (.seq (.region [qo 2 (.mv (.c (.bool false)))])
   .ret)
   .skip))
  (.seq (.region [qm 30 0,
    qo 31 (.nilck (.t 30)),
    qo 32 (.faddr 1 (.t 31)),
    qo 33 (.load false 1 (.t 32)),
    qm 34 3,
    qo 35 (.slstr (.t 33) none (some (.t 34))),
    qe 36 (.call 99 [(.t 35), (.c (.str [13]))]),
    qm 4 36])
  (.seq (.region [qm 37 0,
    qm 38 0,
    qo 39 (.nilck (.t 38)),
    qo 40 (.faddr 1 (.t 39)),
    qo 41 (.load false 1 (.t 40)),
    qm 42 3,
    qo 43 (.bin .add (.t 42) (.c (.int .i64 (.ofNat 1)))),
    qo 44 (.slstr (.t 41) (some (.t 43)) none),
    qo 45 (.nilck (.t 37)),
    qo 46 (.faddr 1 (.t 45)),
    qx (.store 1 (.t 46) (.t 44))])
  (.seq (.region [qm 48 4,
    qe 49 (.call 100 [(.t 48)]),
    qm 47 49,
    qo 50 (.ext 0 (.t 47)),
    qo 51 (.ext 1 (.t 47)),
    qn 5 (.new 0 [(.int .i64 (.ofNat 0)), .nils, (.int .i64 (.ofNat 0)), (.int .i64 (.ofNat 0)), (.int .i64 (.ofNat 0)), (.int .i64 (.ofNat 0)), (.int .u64 (.ofNat 0)), (.bool false), (.str [])]),
    qx (.store 9 (.t 5) (.t 50)),
    qm 6 51])
  (.seq (.block 0 (.seq (.region [qm 64 6,
     qo 65 (.bin .eql (.t 64) (.c (.int .i64 (.ofNat 4)))),
     qm 63 65])
   (.cond (.t 63)
    (.region [qm 66 0,
      qe 67 (.call 101 [(.t 66), (.c (.int .i64 (.ofNat 12))), (.c (.str []))])])
    (.seq (.region [qm 69 6,
      qo 70 (.bin .neq (.t 69) (.c (.int .i64 (.ofNat 0)))),
      qm 68 70])
    (.cond (.t 68)
     (.region [qm 71 0,
       qe 72 (.call 101 [(.t 71), (.c (.int .i64 (.ofNat 13))), (.c (.str [98, 97, 100, 32, 99, 111, 109, 109, 97, 110, 100, 32, 108, 105, 110, 101, 32, 102, 111, 114, 109, 97, 116]))])])
     (.seq (.region [qo 74 (.faddr 0 (.t 5)),
       qo 75 (.load false 1 (.t 74)),
       qo 76 (.bin .eql (.t 75) (.c (.int .i64 (.ofNat 17)))),
       qm 73 76])
     (.cond (.t 73)
      (.region [qm 77 0,
        qo 78 (.bad)])
      (.seq (.region [qo 80 (.faddr 0 (.t 5)),
        qo 81 (.load false 1 (.t 80)),
        qe 82 (.call 68 [(.t 81)]),
        qm 83 82,
        qh 84 83 true (.faddr 4 (.t 5)),
        qh 85 83 true (.load false 1 (.t 84)),
        qh 86 83 true (.bin .gtr (.t 85) (.c (.int .i64 (.ofNat 1048576)))),
        qo 87 (.pick (.t 83) (.t 86) (.c (.bool false))),
        qm 79 87])
      (.cond (.t 79)
       (.seq (.seq (.region [qo 88 (.faddr 7 (.t 5)),
         qo 89 (.load false 1 (.t 88)),
         qo 90 (.un .not (.t 89))])
       (.cond (.t 90)
        (.region [qm 91 0,
          qe 92 (.call 101 [(.t 91), (.c (.int .i64 (.ofNat 14))), (.c (.str [111, 98, 106, 101, 99, 116, 32, 116, 111, 111, 32, 108, 97, 114, 103, 101, 32, 102, 111, 114, 32, 99, 97, 99, 104, 101]))])])
        .skip))
       (.region [qm 93 0,
         qm 94 0,
         qo 95 (.faddr 4 (.t 5)),
         qo 96 (.load false 1 (.t 95)),
         qo 97 (.bin .add (.t 96) (.c (.int .i64 (.ofNat 2)))),
         qo 98 (.nilck (.t 93)),
         qo 99 (.faddr 0 (.t 98)),
         qx (.store 1 (.t 99) (.c (.int .i64 (.ofNat 2)))),
         .again ⟨(some 96), none, (.r (.load false 1 (.t 95)))⟩,
         qo 100 (.nilck (.t 94)),
         qo 101 (.faddr 2 (.t 100)),
         qx (.store 1 (.t 101) (.t 97))]))
       (.seq (.region [qo 103 (.faddr 0 (.t 5)),
         qo 104 (.load false 1 (.t 103)),
         qe 105 (.call 68 [(.t 104)]),
         qm 102 105])
       (.cond (.t 102)
        (.region [qm 106 0,
          qm 107 0,
          qo 108 (.load true 9 (.t 5)),
          qo 109 (.nilck (.t 106)),
          qo 110 (.faddr 0 (.t 109)),
          qx (.store 1 (.t 110) (.c (.int .i64 (.ofNat 1)))),
          .again ⟨(some 108), none, (.r (.load true 9 (.t 5)))⟩,
          qo 111 (.nilck (.t 107)),
          qo 112 (.faddr 3 (.t 111)),
          qx (.store 9 (.t 112) (.t 108))])
        (.region [qm 52 0,
          qm 53 0,
          qo 54 (.nilck (.t 53)),
          qo 55 (.faddr 13 (.t 54)),
          qo 56 (.load false 1 (.t 55)),
          qo 57 (.load true 9 (.t 5)),
          qo 58 (.build [(.int .i64 (.ofNat 0)), .nils, (.int .i64 (.ofNat 0)), (.int .i64 (.ofNat 0)), (.int .i64 (.ofNat 0)), (.int .i64 (.ofNat 0)), (.int .u64 (.ofNat 0)), (.bool false), (.str []), (.int .i64 (.ofNat 0)), .nils, (.bool false), (.int .u64 (.ofNat 0)), (.str []), (.int .i64 (.ofNat 0)), (.int .i64 (.ofNat 0)), (.int .i64 (.ofNat 0)), (.int .i64 (.ofNat 0))] [(0, 9, (.t 57))]),
          qn 59 (.bslice 0 18 1 [(.int .i64 (.ofNat 0)), .nils, (.int .i64 (.ofNat 0)), (.int .i64 (.ofNat 0)), (.int .i64 (.ofNat 0)), (.int .i64 (.ofNat 0)), (.int .u64 (.ofNat 0)), (.bool false), (.str []), (.int .i64 (.ofNat 0)), .nils, (.bool false), (.int .u64 (.ofNat 0)), (.str []), (.int .i64 (.ofNat 0)), (.int .i64 (.ofNat 0)), (.int .i64 (.ofNat 0)), (.int .i64 (.ofNat 0))] [(0, 18, (.t 58))]),
          qe 60 (.app 0 18 192 (.t 56) (.t 59)),
          qo 61 (.nilck (.t 52)),
          qo 62 (.faddr 13 (.t 61)),
          qx (.store 1 (.t 62) (.t 60))]))))))))))))
  (.seq (.region [qo 2 (.mv (.c (.bool true)))])
  .ret))))))))) }
theorem tr_parse_Parser_line : trF cx Tryz.f60 = pf_parse_Parser_line := by kernel_rfl
/-- (*depot/parse.Parser).data -/
def pf_parse_Parser_data : PF := { ntmps := 75, results := [.tmp 2], body :=
  (.seq (.region [qo 2 (.mv (.c (.bool false)))])
  (.seq (.region [qm 6 0,
    qo 7 (.nilck (.t 6)),
    qo 8 (.faddr 3 (.t 7)),
    qo 9 (.faddr 4 (.t 8)),
    qo 10 (.load false 1 (.t 9)),
    qm 3 10])
  (.seq (.seq (.region [qm 11 0,
    qo 12 (.nilck (.t 11)),
    qo 13 (.faddr 1 (.t 12)),
    qo 14 (.load false 1 (.t 13)),
    qo 15 (.lens (.t 14)),
    qm 16 3,
    qo 17 (.bin .leq (.t 15) (.t 16))])
  (.cond (.t 17)
   (.seq (.region [qo 2 (.mv (.c (.bool false)))])
   .ret)
   .skip))
  (.seq (.region [qm 18 0,
    qo 19 (.nilck (.t 18)),
    qo 20 (.faddr 1 (.t 19)),
    qo 21 (.load false 1 (.t 20)),
    qm 22 3,
    qo 23 (.slstr (.t 21) (some (.t 22)) none),
    qm 4 23])
  (.seq (.seq (.region [qm 24 4,
    qo 25 (.bin .eql (.t 24) (.c (.str [13])))])
  (.cond (.t 25)
   (.seq (.region [qo 2 (.mv (.c (.bool false)))])
   .ret)
   .skip))
  (.seq (.seq (.region [qm 26 4,
    qe 27 (.call 102 [(.t 26), (.c (.str [13, 10]))])])
  (.cond (.t 27)
   (.seq (.region [qm 28 0,
     qo 29 (.nilck (.t 28)),
     qo 30 (.faddr 3 (.t 29)),
     qo 31 (.load true 9 (.t 30)),
     qn 5 (.new 0 [(.int .i64 (.ofNat 0)), .nils, (.int .i64 (.ofNat 0)), (.int .i64 (.ofNat 0)), (.int .i64 (.ofNat 0)), (.int .i64 (.ofNat 0)), (.int .u64 (.ofNat 0)), (.bool false), (.str [])]),
     qx (.store 9 (.t 5) (.t 31))])
   (.seq (.region [qm 32 0,
     qo 33 (.nilck (.t 32)),
     qo 34 (.faddr 1 (.t 33)),
     qo 35 (.load false 1 (.t 34)),
     qm 36 3,
     qo 37 (.slstr (.t 35) none (some (.t 36))),
     qo 38 (.faddr 8 (.t 5)),
     qx (.store 1 (.t 38) (.t 37))])
   (.seq (.region [qm 39 0,
     qm 40 0,
     qo 41 (.nilck (.t 40)),
     qo 42 (.faddr 13 (.t 41)),
     qo 43 (.load false 1 (.t 42)),
     qo 44 (.load true 9 (.t 5)),
     qo 45 (.build [(.int .i64 (.ofNat 0)), .nils, (.int .i64 (.ofNat 0)), (.int .i64 (.ofNat 0)), (.int .i64 (.ofNat 0)), (.int .i64 (.ofNat 0)), (.int .u64 (.ofNat 0)), (.bool false), (.str []), (.int .i64 (.ofNat 0)), .nils, (.bool false), (.int .u64 (.ofNat 0)), (.str []), (.int .i64 (.ofNat 0)), (.int .i64 (.ofNat 0)), (.int .i64 (.ofNat 0)), (.int .i64 (.ofNat 0))] [(0, 9, (.t 44))]),
     qn 46 (.bslice 0 18 1 [(.int .i64 (.ofNat 0)), .nils, (.int .i64 (.ofNat 0)), (.int .i64 (.ofNat 0)), (.int .i64 (.ofNat 0)), (.int .i64 (.ofNat 0)), (.int .u64 (.ofNat 0)), (.bool false), (.str []), (.int .i64 (.ofNat 0)), .nils, (.bool false), (.int .u64 (.ofNat 0)), (.str []), (.int .i64 (.ofNat 0)), (.int .i64 (.ofNat 0)), (.int .i64 (.ofNat 0)), (.int .i64 (.ofNat 0))] [(0, 18, (.t 45))]),
     qe 47 (.app 0 18 192 (.t 43) (.t 46)),
     qo 48 (.nilck (.t 39)),
     qo 49 (.faddr 13 (.t 48)),
     qx (.store 1 (.t 49) (.t 47))])
   (.seq (.region [qm 50 0,
     qm 51 0,
     qm 52 0,
     qm 53 4,
     qo 54 (.slstr (.t 53) (some (.c (.int .i64 (.ofNat 2)))) none),
     qo 55 (.build [(.int .i64 (.ofNat 0)), .nils, (.int .i64 (.ofNat 0)), (.int .i64 (.ofNat 0)), (.int .i64 (.ofNat 0)), (.int .i64 (.ofNat 0)), (.int .u64 (.ofNat 0)), (.bool false), (.str [])] []),
     qo 56 (.nilck (.t 50)),
     qo 57 (.faddr 0 (.t 56)),
     qx (.store 1 (.t 57) (.c (.int .i64 (.ofNat 0)))),
     qo 58 (.nilck (.t 51)),
     qo 59 (.faddr 1 (.t 58)),
     qx (.store 1 (.t 59) (.t 54)),
     qo 60 (.nilck (.t 52)),
     qo 61 (.faddr 3 (.t 60)),
     qx (.store 9 (.t 61) (.t 55))])
   (.seq (.region [qo 2 (.mv (.c (.bool true)))])
   .ret)))))
   .skip))
  (.seq (.region [qm 62 0,
    qe 63 (.call 101 [(.t 62), (.c (.int .i64 (.ofNat 13))), (.c (.str [98, 97, 100, 32, 100, 97, 116, 97, 32, 99, 104, 117, 110, 107]))])])
  (.seq (.region [qm 64 0,
    qm 65 0,
    qm 66 0,
    qm 67 4,
    qo 68 (.build [(.int .i64 (.ofNat 0)), .nils, (.int .i64 (.ofNat 0)), (.int .i64 (.ofNat 0)), (.int .i64 (.ofNat 0)), (.int .i64 (.ofNat 0)), (.int .u64 (.ofNat 0)), (.bool false), (.str [])] []),
    qo 69 (.nilck (.t 64)),
    qo 70 (.faddr 0 (.t 69)),
    qx (.store 1 (.t 70) (.c (.int .i64 (.ofNat 3)))),
    qo 71 (.nilck (.t 65)),
    qo 72 (.faddr 1 (.t 71)),
    qx (.store 1 (.t 72) (.t 67)),
    qo 73 (.nilck (.t 66)),
    qo 74 (.faddr 3 (.t 73)),
    qx (.store 9 (.t 74) (.t 68))])
  (.seq (.region [qo 2 (.mv (.c (.bool true)))])
  .ret))))))))) }
theorem tr_parse_Parser_data : trF cx Tryz.f61 = pf_parse_Parser_data := by kernel_rfl
/-- (*depot/router.Router).reply -/
def pf_router_Router_reply : PF := { ntmps := 18, results := [], body :=
  (.seq (.region [qn 5 (.box (.t 2))])
  (.region [qm 6 0,
    qm 7 0,
    qo 8 (.nilck (.t 7)),
    qo 9 (.faddr 33 (.t 8)),
    qo 10 (.load false 1 (.t 9)),
    qm 11 1,
    qo 12 (.load true 9 (.t 5)),
    qo 13 (.build [(.int .i64 (.ofNat 0)), (.int .i64 (.ofNat 0)), .nils, (.bool false), (.int .u64 (.ofNat 0)), (.str []), (.int .i64 (.ofNat 0)), (.int .i64 (.ofNat 0)), (.int .i64 (.ofNat 0)), (.int .i64 (.ofNat 0))] [(0, 1, (.t 11)), (1, 9, (.t 12))]),
    qn 14 (.bslice 0 10 1 [(.int .i64 (.ofNat 0)), (.int .i64 (.ofNat 0)), .nils, (.bool false), (.int .u64 (.ofNat 0)), (.str []), (.int .i64 (.ofNat 0)), (.int .i64 (.ofNat 0)), (.int .i64 (.ofNat 0)), (.int .i64 (.ofNat 0))] [(0, 10, (.t 13))]),
    qe 15 (.app 0 10 104 (.t 10) (.t 14)),
    qo 16 (.nilck (.t 6)),
    qo 17 (.faddr 33 (.t 16)),
    qx (.store 1 (.t 17) (.t 15))])) }
theorem tr_router_Router_reply : trF cx Tryz.f64 = pf_router_Router_reply := by kernel_rfl
def l0_router_May : PC :=
  (.seq (.region [qo 26 (.bin .lss (.t 25) (.t 24))])
  (.seq (.cond (.t 26)
   .skip
   (.exit 0))
  (.seq (.block 1 (.seq (.region [qo 27 (.iasl 1 (.t 23) (.t 25)),
     qo 28 (.load false 1 (.t 27)),
     qm 4 28])
   (.seq (.region [qm 29 4,
     qe 30 (.call 105 [(.t 29)]),
     qo 31 (.un .not (.t 30))])
   (.cond (.t 31)
    (.seq (.region [qo 2 (.mv (.c (.bool false)))])
    .ret)
    .skip))))
  (.region [qo 32 (.bin .add (.t 25) (.c (.int .i64 (.ofNat 1)))),
    qm 25 32]))))
/-- depot/router.May -/
def pf_router_May : PF := { ntmps := 46, results := [.tmp 2], body :=
  (.seq (.region [qn 1 (.box (.t 0)),
    qo 2 (.mv (.c (.bool false)))])
  (.seq (.seq (.region [qo 5 (.faddr 0 (.t 1)),
    qo 6 (.load false 1 (.t 5)),
    qe 7 (.call 104 [(.t 6), (.c (.int .i64 (.ofNat 1))), (.c (.int .i64 (.ofNat 12)))]),
    qo 8 (.un .not (.t 7)),
    qm 9 8,
    qh 10 9 false (.faddr 1 (.t 1)),
    qh 11 9 false (.load false 1 (.t 10)),
    qh 12 9 false (.lensl (.t 11)),
    .op ⟨(some 13), (some (9, false)), (.e (.call 104 [(.t 12), (.c (.int .i64 (.ofNat 1))), (.c (.int .i64 (.ofNat 64)))]))⟩,
    qh 14 9 false (.un .not (.t 13)),
    qo 15 (.pick (.t 9) (.c (.bool true)) (.t 14)),
    qm 16 15,
    qh 17 16 false (.faddr 8 (.t 1)),
    qh 18 16 false (.load false 1 (.t 17)),
    qh 19 16 false (.lens (.t 18)),
    qh 20 16 false (.bin .gtr (.t 19) (.c (.int .i64 (.ofNat 1048576)))),
    qo 21 (.pick (.t 16) (.c (.bool true)) (.t 20))])
  (.cond (.t 21)
   (.seq (.region [qo 2 (.mv (.c (.bool false)))])
   .ret)
   .skip))
  (.seq (.seq (.region [qo 22 (.faddr 1 (.t 1)),
    qo 23 (.load false 1 (.t 22)),
    qo 24 (.lensl (.t 23)),
    qo 25 (.mv (.c (.int .i64 (.ofNat 0))))])
  (.block 0 (.loop l0_router_May)))
  (.seq (.region [qo 33 (.faddr 2 (.t 1)),
    qo 34 (.load false 1 (.t 33)),
    qe 35 (.call 104 [(.t 34), (.c (.int .i64 (.ofNat 0))), (.c (.int .i64 (.ofNat 4294967295)))]),
    qm 36 35,
    qh 37 36 true (.faddr 3 (.t 1)),
    qh 38 36 true (.load false 1 (.t 37)),
    .op ⟨(some 39), (some (36, true)), (.e (.call 104 [(.t 38), (.c (.int .i64 (.negSucc 1099511627775))), (.c (.int .i64 (.ofNat 1099511627776)))]))⟩,
    qo 40 (.pick (.t 36) (.t 39) (.c (.bool false))),
    qm 41 40,
    qh 42 41 true (.faddr 5 (.t 1)),
    qh 43 41 true (.load false 1 (.t 42)),
    .op ⟨(some 44), (some (41, true)), (.e (.call 104 [(.t 43), (.c (.int .i64 (.ofNat 0))), (.c (.int .i64 (.ofNat 1099511627776)))]))⟩,
    qo 45 (.pick (.t 41) (.t 44) (.c (.bool false))),
    qm 2 45])
  .ret)))) }
theorem tr_router_May : trF cx Tryz.f66 = pf_router_May := by kernel_rfl
def l0_router_Router_gets : PC :=
  (.seq (.region [qo 49 (.bin .lss (.t 48) (.t 47))])
  (.seq (.cond (.t 49)
   .skip
   (.exit 0))
  (.seq (.block 1 (.seq (.region [qm 50 48,
     qo 51 (.iasl 1 (.t 46) (.t 48)),
     qo 52 (.load false 1 (.t 51)),
     qm 7 50,
     qm 8 52])
   (.region [qm 53 0,
     qm 54 8,
     qo 55 (.faddr 0 (.t 5)),
     qo 56 (.load false 1 (.t 55)),
     qm 57 8,
     qn 58 (.bslice 0 1 1 [(.str [])] [(0, 1, (.t 57))]),
     qo 59 (.build [(.int .i64 (.ofNat 0)), .nils, (.int .i64 (.ofNat 0)), (.int .i64 (.ofNat 0)), (.int .i64 (.ofNat 0)), (.int .i64 (.ofNat 0)), (.int .u64 (.ofNat 0)), (.bool false), (.str [])] [(0, 1, (.t 56)), (1, 1, (.t 58))]),
     qm 60 1,
     qm 61 7,
     qo 62 (.build [(.str []), (.int .i64 (.ofNat 0)), .nils, (.int .i64 (.ofNat 0)), (.int .i64 (.ofNat 0)), (.int .i64 (.ofNat 0)), (.int .i64 (.ofNat 0)), (.int .u64 (.ofNat 0)), (.bool false), (.str []), (.int .i64 (.ofNat 0)), (.int .i64 (.ofNat 0)), (.int .i64 (.ofNat 0)), (.int .i64 (.ofNat 0))] [(0, 1, (.t 54)), (1, 9, (.t 59)), (10, 1, (.t 60)), (11, 1, (.t 61)), (12, 1, (.c (.int .i64 (.negSucc 0))))]),
     qe 63 (.call 69 [(.t 53), (.t 62)])])))
  (.region [qo 64 (.bin .add (.t 48) (.c (.int .i64 (.ofNat 1)))),
    qm 48 64]))))
/-- (*depot/router.Router).gets -/
def pf_router_Router_gets : PF := { ntmps := 65, results := [], body :=
  (.seq (.region [qn 5 (.box (.t 2))])
  (.seq (.region [qo 9 (.faddr 0 (.t 5)),
    qo 10 (.load false 1 (.t 9)),
    qo 11 (.bin .eql (.t 10) (.c (.int .i64 (.ofNat 2)))),
    qo 12 (.build [(.int .i64 (.ofNat 0)), .nils, (.bool false), (.int .u64 (.ofNat 0)), (.str []), (.int .i64 (.ofNat 0)), (.int .i64 (.ofNat 0)), (.int .i64 (.ofNat 0)), (.int .i64 (.ofNat 0))] [(0, 1, (.c (.int .i64 (.ofNat 1)))), (2, 1, (.t 11))]),
    qn 6 (.new 0 [(.int .i64 (.ofNat 0)), .nils, (.bool false), (.int .u64 (.ofNat 0)), (.str []), (.int .i64 (.ofNat 0)), (.int .i64 (.ofNat 0)), (.int .i64 (.ofNat 0)), (.int .i64 (.ofNat 0))]),
    qx (.store 9 (.t 6) (.t 12))])
  (.seq (.region [qm 13 0,
    qm 14 0,
    qo 15 (.nilck (.t 14)),
    qo 16 (.faddr 14 (.t 15)),
    qo 17 (.load false 1 (.t 16)),
    qm 18 1,
    qo 19 (.faddr 1 (.t 5)),
    qo 20 (.load false 1 (.t 19)),
    qo 21 (.lensl (.t 20)),
    qo 22 (.load true 9 (.t 6)),
    qo 23 (.faddr 1 (.t 5)),
    qo 24 (.load false 1 (.t 23)),
    qo 25 (.lensl (.t 24)),
    qn 26 (.mksl 0 1 24 [.nils] (.t 25) (.t 25)),
    qo 27 (.build [(.int .i64 (.ofNat 0)), (.int .i64 (.ofNat 0)), (.int .i64 (.ofNat 0)), .nils, (.bool false), (.int .u64 (.ofNat 0)), (.str []), (.int .i64 (.ofNat 0)), (.int .i64 (.ofNat 0)), (.int .i64 (.ofNat 0)), (.int .i64 (.ofNat 0)), .nils] [(0, 1, (.t 18)), (1, 1, (.t 21)), (2, 9, (.t 22)), (11, 1, (.t 26))]),
    qn 28 (.box (.t 27)),
    qn 29 (.bslice 0 1 1 [.nilp] [(0, 1, (.t 28))]),
    qe 30 (.app 0 1 8 (.t 17) (.t 29)),
    qo 31 (.nilck (.t 13)),
    qo 32 (.faddr 14 (.t 31)),
    qx (.store 1 (.t 32) (.t 30))])
  (.seq (.region [qm 33 0,
    qo 34 (.nilck (.t 33)),
    qo 35 (.faddr 29 (.t 34)),
    qo 36 (.iaarr 3 1 (.t 35) (.c (.int .i64 (.ofNat 0)))),
    qo 37 (.load false 1 (.t 36)),
    qo 38 (.faddr 1 (.t 5)),
    qo 39 (.load false 1 (.t 38)),
    qo 40 (.lensl (.t 39)),
    qo 41 (.bin .add (.t 37) (.t 40)),
    qo 42 (.nilck (.t 33)),
    qo 43 (.faddr 29 (.t 42)),
    qo 44 (.iaarr 3 1 (.t 43) (.c (.int .i64 (.ofNat 0)))),
    qx (.store 1 (.t 44) (.t 41))])
  (.seq (.region [qo 45 (.faddr 1 (.t 5)),
    qo 46 (.load false 1 (.t 45)),
    qo 47 (.lensl (.t 46)),
    qo 48 (.mv (.c (.int .i64 (.ofNat 0))))])
  (.block 0 (.loop l0_router_Router_gets))))))) }
theorem tr_router_Router_gets : trF cx Tryz.f67 = pf_router_Router_gets := by kernel_rfl
/-- depot/words.Storing -/
def pf_words_Storing : PF := { ntmps := 9, results := [.tmp 2], body :=
  (.seq (.region [qo 2 (.mv (.c (.bool false)))])
  (.seq (.region [qm 3 0,
    qo 4 (.bin .geq (.t 3) (.c (.int .i64 (.ofNat 3)))),
    qm 5 4,
    qg 6 5 true 0,
    qh 7 5 true (.bin .leq (.t 6) (.c (.int .i64 (.ofNat 8)))),
    qo 8 (.pick (.t 5) (.t 7) (.c (.bool false))),
    qm 2 8])
  .ret)) }
theorem tr_words_Storing : trF cx Tryz.f68 = pf_words_Storing := by kernel_rfl
def l0_router_Router_want : PC :=
  (.seq (.region [qo 12 (.bin .lss (.t 11) (.t 10))])
  (.seq (.cond (.t 12)
   .skip
   (.exit 0))
  (.seq (.block 1 (.seq (.region [qo 13 (.iasl 1 (.t 9) (.t 11)),
     qo 14 (.load false 1 (.t 13)),
     qm 5 14])
   (.seq (.region [qm 15 5,
     qo 16 (.nilck (.t 15)),
     qo 17 (.faddr 1 (.t 16)),
     qo 18 (.faddr 0 (.t 17)),
     qo 19 (.load false 1 (.t 18)),
     qo 20 (.faddr 0 (.t 3)),
     qo 21 (.load false 1 (.t 20)),
     qo 22 (.bin .eql (.t 19) (.t 21))])
   (.cond (.t 22)
    (.seq (.region [qm 23 0,
      qm 24 0,
      qo 25 (.nilck (.t 24)),
      qo 26 (.faddr 12 (.t 25)),
      qo 27 (.load false 1 (.t 26)),
      qo 28 (.load true 14 (.t 3)),
      qn 29 (.bslice 0 14 1 [(.str []), (.int .i64 (.ofNat 0)), .nils, (.int .i64 (.ofNat 0)), (.int .i64 (.ofNat 0)), (.int .i64 (.ofNat 0)), (.int .i64 (.ofNat 0)), (.int .u64 (.ofNat 0)), (.bool false), (.str []), (.int .i64 (.ofNat 0)), (.int .i64 (.ofNat 0)), (.int .i64 (.ofNat 0)), (.int .i64 (.ofNat 0))] [(0, 14, (.t 28))]),
      qe 30 (.app 0 14 144 (.t 27) (.t 29)),
      qo 31 (.nilck (.t 23)),
      qo 32 (.faddr 12 (.t 31)),
      qx (.store 1 (.t 32) (.t 30))])
    .ret)
    .skip))))
  (.region [qo 33 (.bin .add (.t 11) (.c (.int .i64 (.ofNat 1)))),
    qm 11 33]))))
/-- (*depot/router.Router).want -/
def pf_router_Router_want : PF := { ntmps := 37, results := [], body :=
  (.seq (.region [qn 3 (.box (.t 1))])
  (.seq (.seq (.region [qm 6 0,
    qo 7 (.nilck (.t 6)),
    qo 8 (.faddr 11 (.t 7)),
    qo 9 (.load false 1 (.t 8)),
    qo 10 (.lensl (.t 9)),
    qo 11 (.mv (.c (.int .i64 (.ofNat 0))))])
  (.block 0 (.loop l0_router_Router_want)))
  (.region [qm 34 0,
    qo 35 (.load true 14 (.t 3)),
    qe 36 (.call 106 [(.t 34), (.t 35)])]))) }
theorem tr_router_Router_want : trF cx Tryz.f69 = pf_router_Router_want := by kernel_rfl
/-- slices.Delete[[]depot/api.Frame,depot/api.Frame] -/
def pf_slices_Delete_api_Frame_api_Frame : PF := { ntmps := 33, results := [.tmp 6], body :=
  (.seq (.region [qo 6 (.mv (.c .nils))])
  (.seq (.region [qm 8 0,
    qm 9 1,
    qm 10 2,
    qm 11 0,
    qo 12 (.lensl (.t 11)),
    qo 13 (.slsl 9 (.t 8) (some (.t 9)) (some (.t 10)) (some (.t 12)))])
  (.seq (.seq (.region [qm 14 1,
    qm 15 2,
    qo 16 (.bin .eql (.t 14) (.t 15))])
  (.cond (.t 16)
   (.seq (.region [qm 17 0,
     qm 6 17])
   .ret)
   .skip))
  (.seq (.region [qm 18 0,
    qo 19 (.lensl (.t 18)),
    qm 7 19])
  (.seq (.region [qm 20 0,
    qm 21 1,
    qo 22 (.slsl 9 (.t 20) none (some (.t 21)) none),
    qm 23 0,
    qm 24 2,
    qo 25 (.slsl 9 (.t 23) (some (.t 24)) none none),
    qe 26 (.app 0 9 88 (.t 22) (.t 25)),
    qm 0 26])
  (.seq (.region [qm 27 0,
    qm 28 0,
    qo 29 (.lensl (.t 28)),
    qm 30 7,
    qo 31 (.slsl 9 (.t 27) (some (.t 29)) (some (.t 30)) none),
    qx (.clear [(.int .i64 (.ofNat 0)), (.int .i64 (.ofNat 0)), (.int .i64 (.ofNat 0)), (.int .i64 (.ofNat 0)), (.int .i64 (.ofNat 0)), (.int .i64 (.ofNat 0)), (.str []), (.int .i64 (.ofNat 0)), (.str [])] (.t 31))])
  (.seq (.region [qm 32 0,
    qm 6 32])
  .ret))))))) }
theorem tr_slices_Delete_api_Frame_api_Frame : trF cx Tryz.f70 = pf_slices_Delete_api_Frame_api_Frame := by kernel_rfl
def l0_ask_Asks_Answer : PC :=
  (.seq (.region [qo 23 (.bin .lss (.t 22) (.t 21))])
  (.seq (.cond (.t 23)
   .skip
   (.exit 0))
  (.seq (.block 1 (.seq (.region [qm 24 22,
     qo 25 (.iasl 10 (.t 20) (.t 22)),
     qo 26 (.load true 10 (.t 25)),
     qn 7 (.new 0 [(.int .i64 (.ofNat 0)), (.int .i64 (.ofNat 0)), (.int .i64 (.ofNat 0)), (.int .i64 (.ofNat 0)), (.int .i64 (.ofNat 0)), (.int .i64 (.ofNat 0)), (.str []), (.int .i64 (.ofNat 0)), (.str []), (.int .i64 (.ofNat 0))]),
     qm 6 24,
     qx (.store 10 (.t 7) (.t 26))])
   (.seq (.region [qo 27 (.faddr 0 (.t 7)),
     qo 28 (.faddr 3 (.t 27)),
     qo 29 (.load false 1 (.t 28)),
     qo 30 (.faddr 3 (.t 3)),
     qo 31 (.load false 1 (.t 30)),
     qo 32 (.bin .eql (.t 29) (.t 31)),
     qm 33 32,
     qh 34 33 true (.faddr 0 (.t 7)),
     qh 35 33 true (.faddr 1 (.t 34)),
     qh 36 33 true (.load false 1 (.t 35)),
     qh 37 33 true (.faddr 1 (.t 3)),
     qh 38 33 true (.load false 1 (.t 37)),
     qh 39 33 true (.bin .eql (.t 36) (.t 38)),
     qo 40 (.pick (.t 33) (.t 39) (.c (.bool false))),
     qm 41 40,
     qh 42 41 true (.faddr 0 (.t 7)),
     qh 43 41 true (.faddr 2 (.t 42)),
     qh 44 41 true (.load false 1 (.t 43)),
     qh 45 41 true (.faddr 2 (.t 3)),
     qh 46 41 true (.load false 1 (.t 45)),
     qh 47 41 true (.bin .eql (.t 44) (.t 46)),
     qo 48 (.pick (.t 41) (.t 47) (.c (.bool false)))])
   (.cond (.t 48)
    (.seq (.region [qm 49 0,
      qm 50 0,
      qo 51 (.nilck (.t 50)),
      qo 52 (.faddr 0 (.t 51)),
      qo 53 (.load false 1 (.t 52)),
      qm 54 6,
      qm 55 6,
      qo 56 (.bin .add (.t 55) (.c (.int .i64 (.ofNat 1)))),
      qe 57 (.call 107 [(.t 53), (.t 54), (.t 56)]),
      qo 58 (.nilck (.t 49)),
      qo 59 (.faddr 0 (.t 58)),
      qx (.store 1 (.t 59) (.t 57))])
    (.seq (.region [qo 60 (.faddr 0 (.t 7)),
      qo 61 (.load true 9 (.t 60)),
      qx (.store 9 (.t 4) (.t 61)),
      qo 5 (.mv (.c (.bool true)))])
    .ret))
    .skip))))
  (.region [qo 62 (.bin .add (.t 22) (.c (.int .i64 (.ofNat 1)))),
    qm 22 62]))))
/-- (*depot/ask.Asks).Answer -/
def pf_ask_Asks_Answer : PF := { ntmps := 64, results := [.cell 4 true 9, .tmp 5], body :=
  (.seq (.region [qn 3 (.box (.t 1)),
    qn 4 (.new 0 [(.int .i64 (.ofNat 0)), (.int .i64 (.ofNat 0)), (.int .i64 (.ofNat 0)), (.int .i64 (.ofNat 0)), (.int .i64 (.ofNat 0)), (.int .i64 (.ofNat 0)), (.str []), (.int .i64 (.ofNat 0)), (.str [])]),
    qo 5 (.mv (.c (.bool false)))])
  (.seq (.seq (.region [qo 8 (.load true 9 (.t 3)),
    qe 9 (.call 72 [(.t 8)]),
    qo 10 (.un .not (.t 9)),
    qm 11 10,
    qh 12 11 false (.faddr 0 (.t 3)),
    qh 13 11 false (.load false 1 (.t 12)),
    qh 14 11 false (.bin .lss (.t 13) (.c (.int .i64 (.ofNat 6)))),
    qo 15 (.pick (.t 11) (.c (.bool true)) (.t 14))])
  (.cond (.t 15)
   (.seq (.region [qo 16 (.build [(.int .i64 (.ofNat 0)), (.int .i64 (.ofNat 0)), (.int .i64 (.ofNat 0)), (.int .i64 (.ofNat 0)), (.int .i64 (.ofNat 0)), (.int .i64 (.ofNat 0)), (.str []), (.int .i64 (.ofNat 0)), (.str [])] []),
     qx (.store 9 (.t 4) (.t 16)),
     qo 5 (.mv (.c (.bool false)))])
   .ret)
   .skip))
  (.seq (.seq (.region [qm 17 0,
    qo 18 (.nilck (.t 17)),
    qo 19 (.faddr 0 (.t 18)),
    qo 20 (.load false 1 (.t 19)),
    qo 21 (.lensl (.t 20)),
    qo 22 (.mv (.c (.int .i64 (.ofNat 0))))])
  (.block 0 (.loop l0_ask_Asks_Answer)))
  (.seq (.region [qo 63 (.build [(.int .i64 (.ofNat 0)), (.int .i64 (.ofNat 0)), (.int .i64 (.ofNat 0)), (.int .i64 (.ofNat 0)), (.int .i64 (.ofNat 0)), (.int .i64 (.ofNat 0)), (.str []), (.int .i64 (.ofNat 0)), (.str [])] []),
    qx (.store 9 (.t 4) (.t 63)),
    qo 5 (.mv (.c (.bool false)))])
  .ret)))) }
theorem tr_ask_Asks_Answer : trF cx Tryz.f71 = pf_ask_Asks_Answer := by kernel_rfl
/-- depot/wire.Right -/
def pf_wire_Right : PF := { ntmps := 57, results := [.tmp 2], body :=
  (.seq (.region [qn 1 (.box (.t 0)),
    qo 2 (.mv (.c (.bool false)))])
  (.seq (.seq (.region [qo 4 (.faddr 0 (.t 1)),
    qo 5 (.load false 1 (.t 4)),
    qo 6 (.bin .lss (.t 5) (.c (.int .i64 (.ofNat 1)))),
    qm 7 6,
    qh 8 7 false (.faddr 0 (.t 1)),
    qh 9 7 false (.load false 1 (.t 8)),
    qh 10 7 false (.bin .gtr (.t 9) (.c (.int .i64 (.ofNat 7)))),
    qo 11 (.pick (.t 7) (.c (.bool true)) (.t 10)),
    qm 12 11,
    qh 13 12 false (.faddr 1 (.t 1)),
    qh 14 12 false (.load false 1 (.t 13)),
    .op ⟨(some 15), (some (12, false)), (.e (.call 108 [(.t 14), (.c (.int .i64 (.ofNat 11)))]))⟩,
    qh 16 12 false (.un .not (.t 15)),
    qo 17 (.pick (.t 12) (.c (.bool true)) (.t 16)),
    qm 18 17,
    qh 19 18 false (.faddr 0 (.t 1)),
    qh 20 18 false (.load false 1 (.t 19)),
    qh 21 18 false (.faddr 5 (.t 1)),
    qh 22 18 false (.load false 1 (.t 21)),
    .op ⟨(some 23), (some (18, false)), (.e (.call 109 [(.t 20), (.t 22)]))⟩,
    qh 24 18 false (.un .not (.t 23)),
    qo 25 (.pick (.t 18) (.c (.bool true)) (.t 24))])
  (.cond (.t 25)
   (.seq (.region [qo 2 (.mv (.c (.bool false)))])
   .ret)
   .skip))
  (.seq (.region [qo 26 (.faddr 2 (.t 1)),
    qo 27 (.load false 1 (.t 26)),
    qe 28 (.call 108 [(.t 27), (.c (.int .i64 (.ofNat 1099511627776)))]),
    qm 29 28,
    qh 30 29 true (.faddr 3 (.t 1)),
    qh 31 29 true (.load false 1 (.t 30)),
    .op ⟨(some 32), (some (29, true)), (.e (.call 108 [(.t 31), (.c (.int .i64 (.ofNat 1099511627776)))]))⟩,
    qo 33 (.pick (.t 29) (.t 32) (.c (.bool false))),
    qm 34 33,
    qh 35 34 true (.faddr 4 (.t 1)),
    qh 36 34 true (.load false 1 (.t 35)),
    .op ⟨(some 37), (some (34, true)), (.e (.call 108 [(.t 36), (.c (.int .i64 (.ofNat 1099511627776)))]))⟩,
    qo 38 (.pick (.t 34) (.t 37) (.c (.bool false))),
    qm 39 38,
    qh 40 39 true (.faddr 7 (.t 1)),
    qh 41 39 true (.load false 1 (.t 40)),
    .op ⟨(some 42), (some (39, true)), (.e (.call 108 [(.t 41), (.c (.int .i64 (.ofNat 1099511627776)))]))⟩,
    qo 43 (.pick (.t 39) (.t 42) (.c (.bool false))),
    qm 3 43])
  (.seq (.region [qm 44 3,
    qm 45 44,
    qh 46 45 true (.faddr 6 (.t 1)),
    qh 47 45 true (.load false 1 (.t 46)),
    qh 48 45 true (.lens (.t 47)),
    qh 49 45 true (.bin .leq (.t 48) (.c (.int .i64 (.ofNat 250)))),
    qo 50 (.pick (.t 45) (.t 49) (.c (.bool false))),
    qm 51 50,
    qh 52 51 true (.faddr 8 (.t 1)),
    qh 53 51 true (.load false 1 (.t 52)),
    qh 54 51 true (.lens (.t 53)),
    qh 55 51 true (.bin .leq (.t 54) (.c (.int .i64 (.ofNat 1049600)))),
    qo 56 (.pick (.t 51) (.t 55) (.c (.bool false))),
    qm 2 56])
  .ret)))) }
theorem tr_wire_Right : trF cx Tryz.f72 = pf_wire_Right := by kernel_rfl
/-- (*depot/slot.Slot).reset -/
def pf_slot_Slot_reset : PF := { ntmps := 49, results := [.cell 4 true 9, .tmp 5], body :=
  (.seq (.region [qn 3 (.box (.t 1)),
    qn 4 (.new 0 [(.int .i64 (.ofNat 0)), (.int .i64 (.ofNat 0)), (.int .i64 (.ofNat 0)), (.int .i64 (.ofNat 0)), (.int .i64 (.ofNat 0)), (.int .i64 (.ofNat 0)), (.str []), (.int .i64 (.ofNat 0)), (.str [])]),
    qo 5 (.mv (.c (.bool false)))])
  (.seq (.seq (.region [qo 6 (.faddr 2 (.t 3)),
    qo 7 (.load false 1 (.t 6)),
    qm 8 0,
    qo 9 (.nilck (.t 8)),
    qo 10 (.faddr 4 (.t 9)),
    qo 11 (.load false 1 (.t 10)),
    qo 12 (.bin .gtr (.t 7) (.t 11))])
  (.cond (.t 12)
   (.seq (.region [qm 13 0,
     qe 14 (.call 46 [(.t 13)])])
   (.region [qm 15 0,
     qm 16 0,
     qo 17 (.faddr 2 (.t 3)),
     qo 18 (.load false 1 (.t 17)),
     qo 19 (.nilck (.t 15)),
     qo 20 (.faddr 3 (.t 19)),
     qx (.store 1 (.t 20) (.c (.bool true))),
     .again ⟨(some 18), none, (.r (.load false 1 (.t 17)))⟩,
     qo 21 (.nilck (.t 16)),
     qo 22 (.faddr 4 (.t 21)),
     qx (.store 1 (.t 22) (.t 18))]))
   .skip))
  (.seq (.seq (.region [qm 23 0,
    qo 24 (.nilck (.t 23)),
    qo 25 (.faddr 3 (.t 24)),
    qo 26 (.load false 1 (.t 25)),
    qo 27 (.un .not (.t 26)),
    qm 28 27,
    qh 29 28 false (.faddr 2 (.t 3)),
    qh 30 28 false (.load false 1 (.t 29)),
    qg 31 28 false 0,
    qh 32 28 false (.nilck (.t 31)),
    qh 33 28 false (.faddr 4 (.t 32)),
    qh 34 28 false (.load false 1 (.t 33)),
    qh 35 28 false (.bin .neq (.t 30) (.t 34)),
    qo 36 (.pick (.t 28) (.c (.bool true)) (.t 35))])
  (.cond (.t 36)
   (.seq (.region [qo 37 (.build [(.int .i64 (.ofNat 0)), (.int .i64 (.ofNat 0)), (.int .i64 (.ofNat 0)), (.int .i64 (.ofNat 0)), (.int .i64 (.ofNat 0)), (.int .i64 (.ofNat 0)), (.str []), (.int .i64 (.ofNat 0)), (.str [])] []),
     qx (.store 9 (.t 4) (.t 37)),
     qo 5 (.mv (.c (.bool false)))])
   .ret)
   .skip))
  (.seq (.region [qm 38 0,
    qo 39 (.nilck (.t 38)),
    qo 40 (.faddr 0 (.t 39)),
    qo 41 (.load false 1 (.t 40)),
    qm 42 0,
    qo 43 (.nilck (.t 42)),
    qo 44 (.faddr 4 (.t 43)),
    qo 45 (.load false 1 (.t 44)),
    qo 46 (.faddr 3 (.t 3)),
    qo 47 (.load false 1 (.t 46)),
    qo 48 (.build [(.int .i64 (.ofNat 0)), (.int .i64 (.ofNat 0)), (.int .i64 (.ofNat 0)), (.int .i64 (.ofNat 0)), (.int .i64 (.ofNat 0)), (.int .i64 (.ofNat 0)), (.str []), (.int .i64 (.ofNat 0)), (.str [])] [(0, 1, (.c (.int .i64 (.ofNat 6)))), (1, 1, (.t 41)), (2, 1, (.t 45)), (3, 1, (.t 47))]),
    qx (.store 9 (.t 4) (.t 48)),
    qo 5 (.mv (.c (.bool true)))])
  .ret)))) }
theorem tr_slot_Slot_reset : trF cx Tryz.f73 = pf_slot_Slot_reset := by kernel_rfl
def l0_slices_DeleteFunc_slot_did_slot_did : PC :=
  (.seq (.seq (.region [qm 16 6,
    qm 17 0,
    qo 18 (.lensl (.t 17)),
    qo 19 (.bin .lss (.t 16) (.t 18))])
  (.cond (.t 19)
   .skip
   (.exit 0)))
  (.seq (.block 1 (.seq (.region [qm 22 0,
     qm 23 6,
     qo 24 (.iasl 10 (.t 22) (.t 23)),
     qo 25 (.load true 10 (.t 24)),
     qn 7 (.new 0 [(.int .i64 (.ofNat 0)), (.int .i64 (.ofNat 0)), (.int .i64 (.ofNat 0)), (.int .i64 (.ofNat 0)), (.int .i64 (.ofNat 0)), (.int .i64 (.ofNat 0)), (.int .i64 (.ofNat 0)), (.str []), (.int .i64 (.ofNat 0)), (.str [])]),
     qx (.store 10 (.t 7) (.t 25))])
   (.seq (.region [qm 26 1,
     qo 27 (.load true 10 (.t 7)),
     qe 28 (.callv (.t 26) [(.t 27)]),
     qo 29 (.un .not (.t 28))])
   (.cond (.t 29)
    (.seq (.region [qm 30 0,
      qm 31 5,
      qo 32 (.load true 10 (.t 7)),
      qo 33 (.iasl 10 (.t 30) (.t 31)),
      qx (.store 10 (.t 33) (.t 32))])
    (.region [qm 34 5,
      qo 35 (.bin .add (.t 34) (.c (.int .i64 (.ofNat 1)))),
      qm 5 35]))
    .skip))))
  (.region [qm 20 6,
    qo 21 (.bin .add (.t 20) (.c (.int .i64 (.ofNat 1)))),
    qm 6 21])))
/-- slices.DeleteFunc[[]depot/slot.did,depot/slot.did] -/
def pf_slices_DeleteFunc_slot_did_slot_did : PF := { ntmps := 42, results := [.tmp 4], body :=
  (.seq (.region [qo 4 (.mv (.c .nils))])
  (.seq (.region [qm 8 0,
    qm 9 1,
    qe 10 (.call 110 [(.t 8), (.t 9)]),
    qm 5 10])
  (.seq (.seq (.region [qm 11 5,
    qo 12 (.bin .eql (.t 11) (.c (.int .i64 (.negSucc 0))))])
  (.cond (.t 12)
   (.seq (.region [qm 13 0,
     qm 4 13])
   .ret)
   .skip))
  (.seq (.seq (.region [qm 14 5,
    qo 15 (.bin .add (.t 14) (.c (.int .i64 (.ofNat 1)))),
    qm 6 15])
  (.block 0 (.loop l0_slices_DeleteFunc_slot_did_slot_did)))
  (.seq (.region [qm 36 0,
    qm 37 5,
    qo 38 (.slsl 10 (.t 36) (some (.t 37)) none none),
    qx (.clear [(.int .i64 (.ofNat 0)), (.int .i64 (.ofNat 0)), (.int .i64 (.ofNat 0)), (.int .i64 (.ofNat 0)), (.int .i64 (.ofNat 0)), (.int .i64 (.ofNat 0)), (.int .i64 (.ofNat 0)), (.str []), (.int .i64 (.ofNat 0)), (.str [])] (.t 38))])
  (.seq (.region [qm 39 0,
    qm 40 5,
    qo 41 (.slsl 10 (.t 39) none (some (.t 40)) none),
    qm 4 41])
  .ret)))))) }
theorem tr_slices_DeleteFunc_slot_did_slot_did : trF cx Tryz.f74 = pf_slices_DeleteFunc_slot_did_slot_did := by kernel_rfl
/-- (*depot/slot.Slot).Take$1 -/
def pf_slot_Slot_Take_1 : PF := { ntmps := 11, results := [.tmp 3], body :=
  (.seq (.region [qn 2 (.box (.t 0)),
    qo 3 (.mv (.c (.bool false)))])
  (.seq (.region [qo 4 (.faddr 0 (.t 2)),
    qo 5 (.load false 1 (.t 4)),
    qo 6 (.load false 1 (.t 1)),
    qo 7 (.nilck (.t 6)),
    qo 8 (.faddr 5 (.t 7)),
    qo 9 (.load false 1 (.t 8)),
    qo 10 (.bin .lss (.t 5) (.t 9)),
    qm 3 10])
  .ret)) }
theorem tr_slot_Slot_Take_1 : trF cx Tryz.f75 = pf_slot_Slot_Take_1 := by kernel_rfl
/-- (*depot/slot.Slot).do -/
def pf_slot_Slot_do : PF := { ntmps := 115, results := [.cell 4 true 9], body :=
  (.seq (.region [qn 3 (.box (.t 1)),
    qn 4 (.new 0 [(.int .i64 (.ofNat 0)), (.int .i64 (.ofNat 0)), (.int .i64 (.ofNat 0)), (.int .i64 (.ofNat 0)), (.int .i64 (.ofNat 0)), (.int .i64 (.ofNat 0)), (.str []), (.int .i64 (.ofNat 0)), (.str [])])])
  (.seq (.region [qm 11 0,
    qo 12 (.nilck (.t 11)),
    qo 13 (.faddr 0 (.t 12)),
    qo 14 (.load false 1 (.t 13)),
    qm 15 0,
    qo 16 (.nilck (.t 15)),
    qo 17 (.faddr 4 (.t 16)),
    qo 18 (.load false 1 (.t 17)),
    qo 19 (.faddr 3 (.t 3)),
    qo 20 (.load false 1 (.t 19)),
    qo 21 (.faddr 5 (.t 3)),
    qo 22 (.load false 1 (.t 21)),
    qo 23 (.faddr 6 (.t 3)),
    qo 24 (.load false 1 (.t 23)),
    qo 25 (.build [(.int .i64 (.ofNat 0)), (.int .i64 (.ofNat 0)), (.int .i64 (.ofNat 0)), (.int .i64 (.ofNat 0)), (.int .i64 (.ofNat 0)), (.int .i64 (.ofNat 0)), (.str []), (.int .i64 (.ofNat 0)), (.str [])] [(0, 1, (.c (.int .i64 (.ofNat 6)))), (1, 1, (.t 14)), (2, 1, (.t 18)), (3, 1, (.t 20)), (5, 1, (.t 22)), (6, 1, (.t 24))]),
    qn 5 (.new 0 [(.int .i64 (.ofNat 0)), (.int .i64 (.ofNat 0)), (.int .i64 (.ofNat 0)), (.int .i64 (.ofNat 0)), (.int .i64 (.ofNat 0)), (.int .i64 (.ofNat 0)), (.str []), (.int .i64 (.ofNat 0)), (.str [])]),
    qx (.store 9 (.t 5) (.t 25))])
  (.seq (.seq (.region [qo 26 (.faddr 0 (.t 3)),
    qo 27 (.load false 1 (.t 26)),
    qo 28 (.bin .eql (.t 27) (.c (.int .i64 (.ofNat 4))))])
  (.cond (.t 28)
   (.seq (.region [qm 29 0,
     qo 30 (.faddr 6 (.t 3)),
     qo 31 (.load false 1 (.t 30)),
     qo 32 (.bad),
     qo 33 (.faddr 8 (.t 5)),
     qx (.store 1 (.t 33) (.t 32))])
   (.seq (.region [qo 34 (.load true 9 (.t 5)),
     qx (.store 9 (.t 4) (.t 34))])
   .ret))
   .skip))
  (.seq (.region [qm 36 0,
    qo 37 (.load true 9 (.t 3)),
    qe 38 (.call 112 [(.t 36), (.t 37)]),
    qm 35 38,
    qo 39 (.ext 0 (.t 35)),
    qo 40 (.ext 1 (.t 35)),
    qo 41 (.ext 2 (.t 35)),
    qm 6 39,
    qm 7 40,
    qm 8 41])
  (.seq (.seq (.region [qo 42 (.faddr 0 (.t 3)),
    qo 43 (.load false 1 (.t 42))])
  (.block 0 (.seq (.region [qo 45 (.bin .eql (.t 43) (.c (.int .i64 (.ofNat 1)))),
     qm 44 45])
   (.cond (.t 44)
    (.seq (.seq (.region [qm 46 8,
      qm 47 46,
      qg 48 47 true 6,
      qh 49 47 true (.faddr 7 (.t 3)),
      qh 50 47 true (.load false 1 (.t 49)),
      qh 51 47 true (.bin .gtr (.t 48) (.t 50)),
      qo 52 (.pick (.t 47) (.t 51) (.c (.bool false)))])
    (.cond (.t 52)
     (.seq (.region [qm 53 6,
       qo 54 (.faddr 7 (.t 5)),
       qx (.store 1 (.t 54) (.t 53))])
     (.seq (.region [qo 55 (.load true 9 (.t 5)),
       qx (.store 9 (.t 4) (.t 55))])
     .ret))
     .skip))
    (.seq (.region [qo 56 (.faddr 7 (.t 3)),
      qo 57 (.load false 1 (.t 56)),
      qo 58 (.faddr 7 (.t 5)),
      qx (.store 1 (.t 58) (.t 57))])
    (.seq (.region [qm 60 0,
      qo 61 (.nilck (.t 60)),
      qo 62 (.faddr 6 (.t 61)),
      qo 63 (.load false 1 (.t 62)),
      qo 64 (.load true 9 (.t 3)),
      qo 66 (.faddr 7 (.t 3)),
      qo 67 (.load false 1 (.t 66)),
      qo 70 (.faddr 8 (.t 3)),
      qo 71 (.load false 1 (.t 70)),
      qe 65 (.call 114 [(.t 64)]),
      .again ⟨(some 71), none, (.r (.load false 1 (.t 70)))⟩,
      .again ⟨(some 67), none, (.r (.load false 1 (.t 66)))⟩,
      .again ⟨(some 63), none, (.r (.load false 1 (.t 62)))⟩,
      qe 68 (.call 115 [(.c .nils), (.t 67)]),
      .again ⟨(some 71), none, (.r (.load false 1 (.t 70)))⟩,
      .again ⟨(some 63), none, (.r (.load false 1 (.t 62)))⟩,
      qo 69 (.b2s (.t 68)),
      qo 72 (.bin .add (.t 69) (.t 71)),
      qe 73 (.call 113 [(.t 63), (.t 65), (.t 72), (.c (.bool false))]),
      qm 59 73,
      qo 74 (.ext 0 (.t 59)),
      qo 75 (.ext 1 (.t 59)),
      qm 9 74,
      qm 10 75])
    (.seq (.region [qm 76 10,
      qo 77 (.bin .neq (.t 76) (.c (.int .i64 (.ofNat 0))))])
    (.cond (.t 77)
     (.seq (.region [qm 78 0,
       qo 79 (.nilck (.t 78)),
       qo 80 (.faddr 0 (.t 79)),
       qo 81 (.load false 1 (.t 80)),
       qm 82 0,
       qo 83 (.nilck (.t 82)),
       qo 84 (.faddr 4 (.t 83)),
       qo 85 (.load false 1 (.t 84)),
       qo 86 (.faddr 3 (.t 3)),
       qo 87 (.load false 1 (.t 86)),
       qo 88 (.build [(.int .i64 (.ofNat 0)), (.int .i64 (.ofNat 0)), (.int .i64 (.ofNat 0)), (.int .i64 (.ofNat 0)), (.int .i64 (.ofNat 0)), (.int .i64 (.ofNat 0)), (.str []), (.int .i64 (.ofNat 0)), (.str [])] [(0, 1, (.c (.int .i64 (.ofNat 7)))), (1, 1, (.t 81)), (2, 1, (.t 85)), (3, 1, (.t 87))]),
       qx (.store 9 (.t 4) (.t 88))])
     .ret)
     .skip)))))
    (.seq (.region [qo 90 (.bin .eql (.t 43) (.c (.int .i64 (.ofNat 2)))),
      qm 89 90])
    (.cond (.t 89)
     (.region [qm 91 6,
       qm 92 7,
       qo 93 (.faddr 7 (.t 5)),
       qx (.store 1 (.t 93) (.t 91)),
       qo 94 (.faddr 8 (.t 5)),
       qx (.store 1 (.t 94) (.t 92))])
     (.seq (.region [qo 96 (.bin .eql (.t 43) (.c (.int .i64 (.ofNat 3)))),
       qm 95 96])
     (.cond (.t 95)
      (.seq (.region [qo 97 (.faddr 7 (.t 3)),
        qo 98 (.load false 1 (.t 97)),
        qo 99 (.faddr 7 (.t 5)),
        qx (.store 1 (.t 99) (.t 98))])
      (.seq (.region [qm 100 8,
        qm 101 100,
        qg 102 101 true 6,
        qh 103 101 true (.faddr 7 (.t 3)),
        qh 104 101 true (.load false 1 (.t 103)),
        qh 105 101 true (.bin .leq (.t 102) (.t 104)),
        qo 106 (.pick (.t 101) (.t 105) (.c (.bool false)))])
      (.cond (.t 106)
       (.region [qm 107 0,
         qo 108 (.nilck (.t 107)),
         qo 109 (.faddr 6 (.t 108)),
         qo 110 (.load false 1 (.t 109)),
         qo 111 (.load true 9 (.t 3)),
         qe 112 (.call 114 [(.t 111)]),
         .again ⟨(some 110), none, (.r (.load false 1 (.t 109)))⟩,
         qe 113 (.call 116 [(.t 110), (.t 112)])])
       .skip)))
      .skip))))))))
  (.seq (.region [qo 114 (.load true 9 (.t 5)),
    qx (.store 9 (.t 4) (.t 114))])
  .ret)))))) }
theorem tr_slot_Slot_do : trF cx Tryz.f76 = pf_slot_Slot_do := by kernel_rfl
def l0_ask_Asks_floor : PC :=
  (.seq (.region [qo 17 (.bin .lss (.t 16) (.t 15))])
  (.seq (.cond (.t 17)
   .skip
   (.exit 0))
  (.seq (.block 1 (.seq (.region [qo 18 (.iasl 10 (.t 14) (.t 16)),
     qo 19 (.load true 10 (.t 18)),
     qn 9 (.new 0 [(.int .i64 (.ofNat 0)), (.int .i64 (.ofNat 0)), (.int .i64 (.ofNat 0)), (.int .i64 (.ofNat 0)), (.int .i64 (.ofNat 0)), (.int .i64 (.ofNat 0)), (.str []), (.int .i64 (.ofNat 0)), (.str []), (.int .i64 (.ofNat 0))]),
     qx (.store 10 (.t 9) (.t 19))])
   (.seq (.seq (.region [qo 20 (.faddr 0 (.t 9)),
     qo 21 (.faddr 1 (.t 20)),
     qo 22 (.load false 1 (.t 21)),
     qm 23 1,
     qo 24 (.bin .neq (.t 22) (.t 23))])
   (.cond (.t 24)
    (.exit 1)
    .skip))
   (.seq (.region [qm 25 7,
     qo 26 (.faddr 0 (.t 9)),
     qo 27 (.faddr 3 (.t 26)),
     qo 28 (.load false 1 (.t 27)),
     qo 29 (.minmax false [(.t 25), (.t 28)]),
     qm 7 29])
   (.exit 0)))))
  (.region [qo 30 (.bin .add (.t 16) (.c (.int .i64 (.ofNat 1)))),
    qm 16 30]))))
/-- (*depot/ask.Asks).floor -/
def pf_ask_Asks_floor : PF := { ntmps := 32, results := [.tmp 6], body :=
  (.seq (.region [qo 6 (.mv (.c (.int .i64 (.ofNat 0))))])
  (.scope (.seq (.region [qm 10 2,
     qm 7 10])
   (.seq .skip
   (.seq (.seq (.region [qm 11 0,
     qo 12 (.nilck (.t 11)),
     qo 13 (.faddr 0 (.t 12)),
     qo 14 (.load false 1 (.t 13)),
     qo 15 (.lensl (.t 14)),
     qo 16 (.mv (.c (.int .i64 (.ofNat 0))))])
   (.block 0 (.loop l0_ask_Asks_floor)))
   (.seq (.region [qm 31 7,
     qm 6 31])
   .ret)))))) }
theorem tr_ask_Asks_floor : trF cx Tryz.f77 = pf_ask_Asks_floor := by kernel_rfl
/-- slices.Contains[[]int,int] -/
def pf_slices_Contains_int_int : PF := { ntmps := 9, results := [.tmp 4], body :=
  (.seq (.region [qo 4 (.mv (.c (.bool false)))])
  (.seq (.region [qm 5 0,
    qm 6 1,
    qe 7 (.call 117 [(.t 5), (.t 6)]),
    qo 8 (.bin .geq (.t 7) (.c (.int .i64 (.ofNat 0)))),
    qm 4 8])
  .ret)) }
theorem tr_slices_Contains_int_int : trF cx Tryz.f78 = pf_slices_Contains_int_int := by kernel_rfl
def l0_fill_Fill_Next : PC :=
  (.seq (.region [qo 37 (.bin .lss (.t 36) (.t 35))])
  (.seq (.cond (.t 37)
   .skip
   (.exit 0))
  (.seq (.block 1 (.seq (.region [qm 38 36,
     qm 7 38])
   (.seq (.region [qm 39 7,
     qo 40 (.iaarr 12 1 (.t 3) (.t 39)),
     qo 41 (.load false 1 (.t 40)),
     qo 42 (.bin .eql (.t 41) (.c (.int .i64 (.ofNat 2)))),
     qm 43 42,
     qg 44 43 true 7,
     qg 45 43 true 0,
     qh 46 43 true (.nilck (.t 45)),
     qh 47 43 true (.faddr 6 (.t 46)),
     qh 48 43 true (.load false 1 (.t 47)),
     qh 49 43 true (.bin .neq (.t 44) (.t 48)),
     qo 50 (.pick (.t 43) (.t 49) (.c (.bool false)))])
   (.cond (.t 50)
    (.region [qm 51 0,
      qm 52 0,
      qo 53 (.nilck (.t 52)),
      qo 54 (.faddr 10 (.t 53)),
      qo 55 (.load false 1 (.t 54)),
      qm 56 7,
      qn 57 (.bslice 0 1 1 [(.int .i64 (.ofNat 0))] [(0, 1, (.t 56))]),
      qe 58 (.app 0 1 8 (.t 55) (.t 57)),
      qo 59 (.nilck (.t 51)),
      qo 60 (.faddr 10 (.t 59)),
      qx (.store 1 (.t 60) (.t 58))])
    .skip))))
  (.region [qo 61 (.bin .add (.t 36) (.c (.int .i64 (.ofNat 1)))),
    qm 36 61]))))
def l1_fill_Fill_Next : PC :=
  (.seq (.seq (.region [qm 72 0,
    qo 73 (.nilck (.t 72)),
    qo 74 (.faddr 10 (.t 73)),
    qo 75 (.load false 1 (.t 74)),
    qo 76 (.lensl (.t 75)),
    qo 77 (.bin .gtr (.t 76) (.c (.int .i64 (.ofNat 0))))])
  (.cond (.t 77)
   .skip
   (.exit 2)))
  (.block 3 (.seq (.region [qm 78 0,
     qo 79 (.nilck (.t 78)),
     qo 80 (.faddr 10 (.t 79)),
     qo 81 (.load false 1 (.t 80)),
     qo 82 (.iasl 1 (.t 81) (.c (.int .i64 (.ofNat 0)))),
     qo 83 (.load false 1 (.t 82)),
     qm 10 83])
   (.seq (.seq (.region [qm 84 10,
     qo 85 (.iaarr 12 1 (.t 3) (.t 84)),
     qo 86 (.load false 1 (.t 85)),
     qo 87 (.bin .neq (.t 86) (.c (.int .i64 (.ofNat 2))))])
   (.cond (.t 87)
    (.seq (.region [qm 88 0,
      qm 89 0,
      qm 90 0,
      qo 91 (.nilck (.t 90)),
      qo 92 (.faddr 10 (.t 91)),
      qo 93 (.load false 1 (.t 92)),
      qo 94 (.slsl 1 (.t 93) (some (.c (.int .i64 (.ofNat 1)))) none none),
      qo 95 (.nilck (.t 88)),
      qo 96 (.faddr 10 (.t 95)),
      qx (.store 1 (.t 96) (.t 94)),
      qo 97 (.nilck (.t 89)),
      qo 98 (.faddr 11 (.t 97)),
      qx (.store 1 (.t 98) (.c (.str [])))])
    (.exit 3))
    .skip))
   (.seq (.region [qm 99 0,
     qo 100 (.nilck (.t 99)),
     qo 101 (.faddr 9 (.t 100)),
     qx (.store 1 (.t 101) (.c (.bool true)))])
   (.seq (.region [qm 102 10,
     qm 103 0,
     qo 104 (.nilck (.t 103)),
     qo 105 (.faddr 11 (.t 104)),
     qo 106 (.load false 1 (.t 105)),
     qo 4 (.mv (.c (.int .i64 (.ofNat 1)))),
     qm 5 102,
     qm 6 106])
   .ret))))))
/-- (*depot/fill.Fill).Next -/
def pf_fill_Fill_Next : PF := { ntmps := 107, results := [.tmp 4, .tmp 5, .tmp 6], body :=
  (.seq (.region [qn 3 (.box (.t 1)),
    qo 4 (.mv (.c (.int .i64 (.ofNat 0)))),
    qo 5 (.mv (.c (.int .i64 (.ofNat 0)))),
    qo 6 (.mv (.c (.str [])))])
  (.scope (.seq (.seq (.region [qm 11 0,
     qo 12 (.nilck (.t 11)),
     qo 13 (.faddr 9 (.t 12)),
     qo 14 (.load false 1 (.t 13)),
     qm 15 14,
     qg 16 15 false 0,
     qh 17 15 false (.nilck (.t 16)),
     qh 18 15 false (.faddr 7 (.t 17)),
     qh 19 15 false (.load false 1 (.t 18)),
     qh 20 15 false (.lensl (.t 19)),
     qh 21 15 false (.bin .gtr (.t 20) (.c (.int .i64 (.ofNat 0)))),
     qo 22 (.pick (.t 15) (.c (.bool true)) (.t 21))])
   (.cond (.t 22)
    (.seq (.region [qo 4 (.mv (.c (.int .i64 (.ofNat 0)))),
      qo 5 (.mv (.c (.int .i64 (.ofNat 0)))),
      qo 6 (.mv (.c (.str [])))])
    .ret)
    .skip))
   (.seq (.seq (.region [qm 23 0,
     qo 24 (.nilck (.t 23)),
     qo 25 (.faddr 8 (.t 24)),
     qo 26 (.load false 1 (.t 25)),
     qo 27 (.un .not (.t 26))])
   (.cond (.t 27)
    (.seq (.region [qm 28 0,
      qo 29 (.nilck (.t 28)),
      qo 30 (.faddr 8 (.t 29)),
      qx (.store 1 (.t 30) (.c (.bool true)))])
    (.seq (.region [qm 31 0,
      qo 32 (.nilck (.t 31)),
      qo 33 (.faddr 0 (.t 32)),
      qo 34 (.faddr 3 (.t 33)),
      qo 35 (.load false 1 (.t 34)),
      qo 36 (.mv (.c (.int .i64 (.ofNat 0))))])
    (.block 0 (.loop l0_fill_Fill_Next))))
    .skip))
   (.seq (.seq (.region [qm 63 0,
     qe 64 (.call 120 [(.t 63)]),
     qm 62 64,
     qo 65 (.ext 0 (.t 62)),
     qo 66 (.ext 1 (.t 62)),
     qm 8 65,
     qm 9 66])
   (.seq (.region [qm 67 9])
   (.cond (.t 67)
    (.seq (.region [qm 68 0,
      qo 69 (.nilck (.t 68)),
      qo 70 (.faddr 9 (.t 69)),
      qx (.store 1 (.t 70) (.c (.bool true)))])
    (.seq (.region [qm 71 8,
      qo 4 (.mv (.c (.int .i64 (.ofNat 2)))),
      qo 5 (.mv (.c (.int .i64 (.ofNat 0)))),
      qm 6 71])
    .ret))
    .skip)))
   (.seq .skip
   (.seq (.block 2 (.loop l1_fill_Fill_Next))
   (.seq (.region [qo 4 (.mv (.c (.int .i64 (.ofNat 3)))),
     qo 5 (.mv (.c (.int .i64 (.ofNat 0)))),
     qo 6 (.mv (.c (.str [])))])
   .ret)))))))) }
theorem tr_fill_Fill_Next : trF cx Tryz.f80 = pf_fill_Fill_Next := by kernel_rfl
def l0_router_Router_env : PC :=
  (.seq (.region [qo 20 (.bin .lss (.t 19) (.t 18))])
  (.seq (.cond (.t 20)
   .skip
   (.exit 0))
  (.seq (.block 1 (.seq (.region [qm 21 19,
     qm 4 21])
   (.region [qm 22 4,
     qm 23 0,
     qo 24 (.nilck (.t 23)),
     qo 25 (.faddr 6 (.t 24)),
     qo 26 (.load false 1 (.t 25)),
     qm 27 4,
     qe 28 (.call 121 [(.t 26), (.t 27)]),
     qo 29 (.faddr 0 (.t 3)),
     qo 30 (.iaarr 12 1 (.t 29) (.t 22)),
     qx (.store 1 (.t 30) (.t 28))])))
  (.region [qo 31 (.bin .add (.t 19) (.c (.int .i64 (.ofNat 1)))),
    qm 19 31]))))
/-- (*depot/router.Router).env -/
def pf_router_Router_env : PF := { ntmps := 33, results := [.cell 2 true 14], body :=
  (.seq (.region [qn 2 (.new 0 (rep 14 [(.int .i64 (.ofNat 0))]))])
  (.seq (.region [qm 5 0,
    qo 6 (.nilck (.t 5)),
    qo 7 (.faddr 8 (.t 6)),
    qo 8 (.load false 1 (.t 7)),
    qm 9 0,
    qo 10 (.nilck (.t 9)),
    qo 11 (.faddr 9 (.t 10)),
    qo 12 (.load false 1 (.t 11)),
    qo 13 (.build (rep 14 [(.int .i64 (.ofNat 0))]) [(12, 1, (.t 8)), (13, 1, (.t 12))]),
    qn 3 (.new 0 (rep 14 [(.int .i64 (.ofNat 0))])),
    qx (.store 14 (.t 3) (.t 13))])
  (.seq (.seq (.region [qm 14 0,
    qo 15 (.nilck (.t 14)),
    qo 16 (.faddr 0 (.t 15)),
    qo 17 (.faddr 3 (.t 16)),
    qo 18 (.load false 1 (.t 17)),
    qo 19 (.mv (.c (.int .i64 (.ofNat 0))))])
  (.block 0 (.loop l0_router_Router_env)))
  (.seq (.region [qo 32 (.load true 14 (.t 3)),
    qx (.store 14 (.t 2) (.t 32))])
  .ret)))) }
theorem tr_router_Router_env : trF cx Tryz.f81 = pf_router_Router_env := by kernel_rfl
/-- (*depot/view.View).Inc -/
def pf_view_View_Inc : PF := { ntmps := 9, results := [.tmp 4], body :=
  (.seq (.region [qo 4 (.mv (.c (.int .i64 (.ofNat 0))))])
  (.seq (.region [qm 5 0,
    qm 6 1,
    qe 7 (.call 122 [(.t 5), (.t 6)]),
    qo 8 (.fld false 1 1 (.t 7)),
    qm 4 8])
  .ret)) }
theorem tr_view_View_Inc : trF cx Tryz.f82 = pf_view_View_Inc := by kernel_rfl
theorem tr_gf_Make : trF cx Tryz.f83 = Mk.pf := by kernel_rfl
def l0_matrix_Cauchy : PC :=
  (.seq (.region [qo 38 (.bin .lss (.t 37) (.t 36))])
  (.seq (.cond (.t 38)
   .skip
   (.exit 2))
  (.seq (.block 3 (.seq (.region [qm 39 37,
     qm 10 39])
   (.region [qm 40 9,
     qm 41 10,
     qm 42 0,
     qm 43 1,
     qm 44 8,
     qo 45 (.bin .add (.t 43) (.t 44)),
     qm 46 10,
     qo 47 (.bin .xor (.t 45) (.t 46)),
     qo 48 (.cint .u8 (.t 47)),
     qe 49 (.call 124 [(.t 42), (.t 48)]),
     qo 50 (.iasl 1 (.t 40) (.t 41)),
     qx (.store 1 (.t 50) (.t 49))])))
  (.region [qo 51 (.bin .add (.t 37) (.c (.int .i64 (.ofNat 1)))),
    qm 37 51]))))
def l1_matrix_Cauchy : PC :=
  (.seq (.region [qo 31 (.bin .lss (.t 30) (.t 29))])
  (.seq (.cond (.t 31)
   .skip
   (.exit 0))
  (.seq (.block 1 (.seq (.region [qm 32 30,
     qm 8 32])
   (.seq (.region [qm 33 1,
     qn 34 (.mksl 2 1 1 [(.int .u8 (.ofNat 0))] (.t 33) (.t 33)),
     qm 9 34])
   (.seq (.seq (.region [qm 35 9,
     qo 36 (.lensl (.t 35)),
     qo 37 (.mv (.c (.int .i64 (.ofNat 0))))])
   (.block 2 (.loop l0_matrix_Cauchy)))
   (.region [qm 52 7,
     qm 53 9,
     qn 54 (.bslice 0 1 1 [.nils] [(0, 1, (.t 53))]),
     qe 55 (.app 0 1 24 (.t 52) (.t 54)),
     qm 7 55])))))
  (.region [qo 56 (.bin .add (.t 30) (.c (.int .i64 (.ofNat 1)))),
    qm 30 56]))))
/-- depot/matrix.Cauchy -/
def pf_matrix_Cauchy : PF := { ntmps := 58, results := [.tmp 6], body :=
  (.seq (.region [qo 6 (.mv (.c .nils))])
  (.seq (.seq (.region [qm 11 1,
    qo 12 (.bin .lss (.t 11) (.c (.int .i64 (.ofNat 1)))),
    qm 13 12,
    qg 14 13 false 1,
    qh 15 13 false (.bin .gtr (.t 14) (.c (.int .i64 (.ofNat 8)))),
    qo 16 (.pick (.t 13) (.c (.bool true)) (.t 15)),
    qm 17 16,
    qg 18 17 false 2,
    qh 19 17 false (.bin .lss (.t 18) (.c (.int .i64 (.ofNat 0)))),
    qo 20 (.pick (.t 17) (.c (.bool true)) (.t 19)),
    qm 21 20,
    qg 22 21 false 2,
    qg 23 21 false 1,
    qh 24 21 false (.bin .sub (.c (.int .i64 (.ofNat 12))) (.t 23)),
    qh 25 21 false (.bin .gtr (.t 22) (.t 24)),
    qo 26 (.pick (.t 21) (.c (.bool true)) (.t 25))])
  (.cond (.t 26)
   (.seq (.region [qo 6 (.mv (.c .nils))])
   .ret)
   .skip))
  (.seq (.region [qm 27 1,
    qe 28 (.call 123 [(.t 27)]),
    qm 7 28])
  (.seq (.seq (.region [qm 29 2,
    qo 30 (.mv (.c (.int .i64 (.ofNat 0))))])
  (.block 0 (.loop l1_matrix_Cauchy)))
  (.seq (.region [qm 57 7,
    qm 6 57])
  .ret))))) }
theorem tr_matrix_Cauchy : trF cx Tryz.f84 = pf_matrix_Cauchy := by kernel_rfl
/-- (*depot/router.Router).owned -/
def pf_router_Router_owned : PF := { ntmps := 35, results := [.cell 4 true 6], body :=
  (.seq (.region [qn 3 (.box (.t 1)),
    qn 4 (.new 0 [(.int .i64 (.ofNat 0)), (.int .i64 (.ofNat 0)), (.int .i64 (.ofNat 0)), (.bool false), (.int .i64 (.ofNat 0)), (.int .i64 (.ofNat 0))])])
  (.seq (.region [qm 7 0,
    qo 8 (.nilck (.t 7)),
    qo 9 (.faddr 13 (.t 8)),
    qo 10 (.load false 1 (.t 9)),
    qo 11 (.mkfn 126 [(.t 3)]),
    qe 12 (.call 125 [(.t 10), (.t 11)]),
    qm 5 12])
  (.seq (.seq (.region [qm 13 5,
    qo 14 (.bin .lss (.t 13) (.c (.int .i64 (.ofNat 0))))])
  (.cond (.t 14)
   (.seq (.region [qo 15 (.build [(.int .i64 (.ofNat 0)), (.int .i64 (.ofNat 0)), (.int .i64 (.ofNat 0)), (.bool false), (.int .i64 (.ofNat 0)), (.int .i64 (.ofNat 0))] []),
     qx (.store 6 (.t 4) (.t 15))])
   .ret)
   .skip))
  (.seq (.region [qm 16 0,
    qo 17 (.nilck (.t 16)),
    qo 18 (.faddr 13 (.t 17)),
    qo 19 (.load false 1 (.t 18)),
    qm 20 5,
    qo 21 (.iasl 6 (.t 19) (.t 20)),
    qo 22 (.load true 6 (.t 21)),
    qn 6 (.new 0 [(.int .i64 (.ofNat 0)), (.int .i64 (.ofNat 0)), (.int .i64 (.ofNat 0)), (.bool false), (.int .i64 (.ofNat 0)), (.int .i64 (.ofNat 0))]),
    qx (.store 6 (.t 6) (.t 22))])
  (.seq (.region [qm 23 0,
    qm 24 0,
    qo 25 (.nilck (.t 24)),
    qo 26 (.faddr 13 (.t 25)),
    qo 27 (.load false 1 (.t 26)),
    qm 28 5,
    qm 29 5,
    qo 30 (.bin .add (.t 29) (.c (.int .i64 (.ofNat 1)))),
    qe 31 (.call 127 [(.t 27), (.t 28), (.t 30)]),
    qo 32 (.nilck (.t 23)),
    qo 33 (.faddr 13 (.t 32)),
    qx (.store 1 (.t 33) (.t 31))])
  (.seq (.region [qo 34 (.load true 6 (.t 6)),
    qx (.store 6 (.t 4) (.t 34))])
  .ret)))))) }
theorem tr_router_Router_owned : trF cx Tryz.f85 = pf_router_Router_owned := by kernel_rfl
/-- depot/fill.New -/
def pf_fill_New : PF := { ntmps := 27, results := [.tmp 6, .tmp 7], body :=
  (.seq (.region [qn 3 (.box (.t 0)),
    qo 6 (.mv (.c .nilp)),
    qo 7 (.mv (.c (.int .i64 (.ofNat 0))))])
  (.seq (.seq (.region [qo 8 (.load true 6 (.t 3)),
    qe 9 (.call 29 [(.t 8)]),
    qo 10 (.un .not (.t 9)),
    qm 11 10,
    qg 12 11 false 1,
    qh 13 11 false (.bin .lss (.t 12) (.c (.int .i64 (.ofNat 0)))),
    qo 14 (.pick (.t 11) (.c (.bool true)) (.t 13)),
    qm 15 14,
    qg 16 15 false 1,
    qh 17 15 false (.faddr 3 (.t 3)),
    qh 18 15 false (.load false 1 (.t 17)),
    qh 19 15 false (.bin .geq (.t 16) (.t 18)),
    qo 20 (.pick (.t 15) (.c (.bool true)) (.t 19))])
  (.cond (.t 20)
   (.seq (.region [qo 6 (.mv (.c .nilp)),
     qo 7 (.mv (.c (.int .i64 (.ofNat 1))))])
   .ret)
   .skip))
  (.seq (.region [qo 21 (.load true 6 (.t 3)),
    qm 22 1,
    qm 23 2,
    qe 24 (.call 128 [(.t 23)]),
    .again ⟨(some 21), none, (.r (.load true 6 (.t 3)))⟩,
    qo 25 (.build [(.int .i64 (.ofNat 0)), (.int .i64 (.ofNat 0)), (.int .i64 (.ofNat 0)), (.int .i64 (.ofNat 0)), (.int .i64 (.ofNat 0)), (.int .i64 (.ofNat 0)), (.int .i64 (.ofNat 0)), .nils, (.bool false), (.bool false), .nils, (.str []), .nils] [(0, 6, (.t 21)), (6, 1, (.t 22)), (7, 1, (.t 24))]),
    qn 26 (.box (.t 25)),
    qm 6 26,
    qo 7 (.mv (.c (.int .i64 (.ofNat 0))))])
  .ret))) }
theorem tr_fill_New : trF cx Tryz.f86 = pf_fill_New := by kernel_rfl
def l0_router_Router_job : PC :=
  (.seq (.region [qo 13 (.bin .lss (.t 12) (.t 11))])
  (.seq (.cond (.t 13)
   .skip
   (.exit 0))
  (.seq (.block 1 (.seq (.region [qo 14 (.iasl 1 (.t 10) (.t 12)),
     qo 15 (.load false 1 (.t 14)),
     qm 6 15])
   (.seq (.region [qm 16 6,
     qo 17 (.nilck (.t 16)),
     qo 18 (.faddr 0 (.t 17)),
     qo 19 (.load false 1 (.t 18)),
     qm 20 1,
     qo 21 (.bin .eql (.t 19) (.t 20))])
   (.cond (.t 21)
    (.seq (.region [qm 22 6,
      qm 4 22])
    .ret)
    .skip))))
  (.region [qo 23 (.bin .add (.t 12) (.c (.int .i64 (.ofNat 1)))),
    qm 12 23]))))
/-- (*depot/router.Router).job -/
def pf_router_Router_job : PF := { ntmps := 24, results := [.tmp 4], body :=
  (.seq (.region [qo 4 (.mv (.c .nilp))])
  (.seq (.seq (.region [qm 7 0,
    qo 8 (.nilck (.t 7)),
    qo 9 (.faddr 11 (.t 8)),
    qo 10 (.load false 1 (.t 9)),
    qo 11 (.lensl (.t 10)),
    qo 12 (.mv (.c (.int .i64 (.ofNat 0))))])
  (.block 0 (.loop l0_router_Router_job)))
  (.seq (.region [qo 4 (.mv (.c .nilp))])
  .ret))) }
theorem tr_router_Router_job : trF cx Tryz.f87 = pf_router_Router_job := by kernel_rfl
/-- (*depot/task.Task).Got -/
def pf_task_Task_Got : PF := { ntmps := 154, results := [], body :=
  (.seq (.region [qn 7 (.box (.t 1)),
    qn 9 (.box (.t 3)),
    qn 10 (.box (.t 4))])
  (.seq (.seq (.region [qm 15 2,
    qm 16 0,
    qo 17 (.nilck (.t 16)),
    qo 18 (.faddr 21 (.t 17)),
    qo 19 (.load false 1 (.t 18)),
    qo 20 (.bin .neq (.t 15) (.t 19)),
    qm 21 20,
    qg 22 21 false 0,
    qh 23 21 false (.nilck (.t 22)),
    qh 24 21 false (.faddr 22 (.t 23)),
    qh 25 21 false (.load false 1 (.t 24)),
    qh 26 21 false (.bin .eql (.t 25) (.c (.int .i64 (.ofNat 0)))),
    qo 27 (.pick (.t 21) (.c (.bool true)) (.t 26))])
  (.cond (.t 27)
   .ret
   .skip))
  (.seq (.region [qm 28 0,
    qo 29 (.nilck (.t 28)),
    qo 30 (.faddr 22 (.t 29)),
    qo 31 (.load false 1 (.t 30)),
    qo 32 (.bin .sub (.t 31) (.c (.int .i64 (.ofNat 1)))),
    qo 33 (.nilck (.t 28)),
    qo 34 (.faddr 22 (.t 33)),
    qx (.store 1 (.t 34) (.t 32))])
  (.seq (.region [qm 35 5,
    qm 36 35,
    qh 37 36 true (.faddr 0 (.t 10)),
    qh 38 36 true (.load false 1 (.t 37)),
    qh 39 36 true (.bin .eql (.t 38) (.c (.int .i64 (.ofNat 6)))),
    qo 40 (.pick (.t 36) (.t 39) (.c (.bool false))),
    qm 5 40])
  (.seq (.seq (.region [qm 41 0,
    qo 42 (.nilck (.t 41)),
    qo 43 (.faddr 21 (.t 42)),
    qo 44 (.load false 1 (.t 43))])
  (.block 0 (.seq (.region [qo 46 (.bin .eql (.t 44) (.c (.int .i64 (.ofNat 1)))),
     qm 45 46])
   (.cond (.t 45)
    (.seq (.region [qo 48 (.faddr 8 (.t 10)),
      qo 49 (.load false 1 (.t 48)),
      qe 50 (.call 129 [(.t 49)]),
      qm 47 50,
      qo 51 (.ext 0 (.t 47)),
      qo 52 (.ext 1 (.t 47)),
      qn 12 (.new 0 [(.int .i64 (.ofNat 0)), (.int .i64 (.ofNat 0)), (.int .i64 (.ofNat 0)), (.int .i64 (.ofNat 0)), (.int .i64 (.ofNat 0))]),
      qx (.store 5 (.t 12) (.t 51)),
      qm 13 52])
    (.seq (.region [qm 53 5,
      qm 54 53,
      qg 55 54 true 13,
      qo 56 (.pick (.t 54) (.t 55) (.c (.bool false))),
      qm 57 56,
      qh 58 57 true (.faddr 7 (.t 10)),
      qh 59 57 true (.load false 1 (.t 58)),
      qg 60 57 true 0,
      qh 61 57 true (.nilck (.t 60)),
      qh 62 57 true (.faddr 42 (.t 61)),
      qh 63 57 true (.load false 1 (.t 62)),
      qh 64 57 true (.bin .gtr (.t 59) (.t 63)),
      qo 65 (.pick (.t 57) (.t 64) (.c (.bool false)))])
    (.cond (.t 65)
     (.region [qm 66 0,
       qm 67 0,
       qo 68 (.load true 5 (.t 12)),
       qo 69 (.faddr 7 (.t 10)),
       qo 70 (.load false 1 (.t 69)),
       qo 71 (.nilck (.t 66)),
       qo 72 (.faddr 37 (.t 71)),
       qx (.store 5 (.t 72) (.t 68)),
       .again ⟨(some 70), none, (.r (.load false 1 (.t 69)))⟩,
       qo 73 (.nilck (.t 67)),
       qo 74 (.faddr 42 (.t 73)),
       qx (.store 1 (.t 74) (.t 70))])
     .skip)))
    (.seq (.region [qo 76 (.bin .eql (.t 44) (.c (.int .i64 (.ofNat 2)))),
      qm 75 76])
    (.cond (.t 75)
     (.seq (.region [qm 77 0,
       qo 78 (.nilck (.t 77)),
       qo 79 (.faddr 7 (.t 78)),
       qo 80 (.load false 1 (.t 79)),
       qm 81 0,
       qo 82 (.nilck (.t 81)),
       qo 83 (.faddr 19 (.t 82)),
       qo 84 (.load false 1 (.t 83)),
       qo 85 (.lensl (.t 84)),
       qm 86 0,
       qo 87 (.nilck (.t 86)),
       qo 88 (.faddr 0 (.t 87)),
       qo 89 (.faddr 3 (.t 88)),
       qo 90 (.load false 1 (.t 89)),
       qo 91 (.faddr 1 (.t 9)),
       qo 92 (.load false 1 (.t 91)),
       qe 93 (.call 130 [(.t 80), (.t 85), (.t 90), (.t 92)]),
       qm 14 93])
     (.seq (.region [qm 94 0,
       qo 95 (.nilck (.t 94)),
       qo 96 (.faddr 44 (.t 95)),
       qo 97 (.load false 1 (.t 96)),
       qm 98 14,
       qm 99 5,
       qm 100 99,
       qh 101 100 true (.faddr 7 (.t 10)),
       qh 102 100 true (.load false 1 (.t 101)),
       qg 103 100 true 0,
       qh 104 100 true (.nilck (.t 103)),
       qh 105 100 true (.faddr 37 (.t 104)),
       qh 106 100 true (.faddr 0 (.t 105)),
       qh 107 100 true (.load false 1 (.t 106)),
       qh 108 100 true (.bin .eql (.t 102) (.t 107)),
       qo 109 (.pick (.t 100) (.t 108) (.c (.bool false))),
       qm 110 109,
       qh 111 110 true (.faddr 8 (.t 10)),
       qh 112 110 true (.load false 1 (.t 111)),
       qh 113 110 true (.lens (.t 112)),
       qg 114 110 true 0,
       qh 115 110 true (.nilck (.t 114)),
       qh 116 110 true (.faddr 6 (.t 115)),
       qh 117 110 true (.load false 1 (.t 116)),
       qg 118 110 true 0,
       qh 119 110 true (.nilck (.t 118)),
       qh 120 110 true (.faddr 37 (.t 119)),
       qh 121 110 true (.faddr 4 (.t 120)),
       qh 122 110 true (.load false 1 (.t 121)),
       qo 126 (.faddr 8 (.t 10)),
       qo 127 (.load false 1 (.t 126)),
       .op ⟨(some 123), (some (110, true)), (.e (.call 132 [(.t 117), (.t 122)]))⟩,
       .again ⟨(some 127), none, (.r (.load false 1 (.t 126)))⟩,
       .again ⟨(some 112), (some (110, true)), (.r (.load false 1 (.t 111)))⟩,
       .again ⟨(some 97), none, (.r (.load false 1 (.t 96)))⟩,
       qh 124 110 true (.bin .eql (.t 113) (.t 123)),
       qo 125 (.pick (.t 110) (.t 124) (.c (.bool false))),
       qe 128 (.call 131 [(.t 97), (.t 98), (.t 125), (.t 127)])])
     (.region [qm 129 0,
       qe 130 (.call 133 [(.t 129)])])))
     (.seq (.seq (.region [qo 132 (.bin .eql (.t 44) (.c (.int .i64 (.ofNat 3)))),
       qm 131 132])
     (.cond (.t 131)
      .skip
      (.region [qo 133 (.bin .eql (.t 44) (.c (.int .i64 (.ofNat 4)))),
        qm 131 133])))
     (.cond (.t 131)
      (.seq (.region [qm 134 5,
        qm 135 134,
        qh 136 135 true (.faddr 7 (.t 10)),
        qh 137 135 true (.load false 1 (.t 136)),
        qg 138 135 true 0,
        qh 139 135 true (.nilck (.t 138)),
        qh 140 135 true (.faddr 18 (.t 139)),
        qh 141 135 true (.load false 1 (.t 140)),
        qh 142 135 true (.bin .eql (.t 137) (.t 141)),
        qo 143 (.pick (.t 135) (.t 142) (.c (.bool false)))])
      (.cond (.t 143)
       (.region [qm 144 0,
         qo 145 (.nilck (.t 144)),
         qo 146 (.faddr 23 (.t 145)),
         qo 147 (.load false 1 (.t 146)),
         qo 148 (.bin .add (.t 147) (.c (.int .i64 (.ofNat 1)))),
         qo 149 (.nilck (.t 144)),
         qo 150 (.faddr 23 (.t 149)),
         qx (.store 1 (.t 150) (.t 148))])
       .skip))
      .skip))))))))
  (.region [qm 151 0,
    qo 152 (.load true 14 (.t 7)),
    qe 153 (.call 134 [(.t 151), (.t 152)])])))))) }
theorem tr_task_Task_Got : trF cx Tryz.f88 = pf_task_Task_Got := by kernel_rfl
def l0_router_Router_look : PC :=
  (.seq (.region [qo 21 (.bin .lss (.t 20) (.t 19))])
  (.seq (.cond (.t 21)
   .skip
   (.exit 0))
  (.seq (.block 1 (.seq (.region [qo 22 (.iasl 9 (.t 18) (.t 20)),
     qo 23 (.load true 9 (.t 22)),
     qn 6 (.new 0 [(.int .i64 (.ofNat 0)), (.int .i64 (.ofNat 0)), (.int .i64 (.ofNat 0)), (.int .i64 (.ofNat 0)), (.int .i64 (.ofNat 0)), (.int .i64 (.ofNat 0)), (.str []), (.int .i64 (.ofNat 0)), (.str [])]),
     qx (.store 9 (.t 6) (.t 23))])
   (.region [qm 24 0,
     qo 25 (.load true 9 (.t 6)),
     qm 26 1,
     qo 27 (.nilck (.t 26)),
     qo 28 (.faddr 0 (.t 27)),
     qo 29 (.load false 1 (.t 28)),
     qm 30 4,
     qo 31 (.build [(.int .i64 (.ofNat 0)), (.int .i64 (.ofNat 0)), (.int .i64 (.ofNat 0)), (.bool false), (.int .i64 (.ofNat 0)), (.int .i64 (.ofNat 0))] [(1, 1, (.t 29)), (2, 1, (.t 30))]),
     qe 32 (.call 55 [(.t 24), (.t 25), (.t 31)])])))
  (.region [qo 33 (.bin .add (.t 20) (.c (.int .i64 (.ofNat 1)))),
    qm 20 33]))))
/-- (*depot/router.Router).look -/
def pf_router_Router_look : PF := { ntmps := 73, results := [], body :=
  (.seq (.region [qm 9 1,
    qo 10 (.nilck (.t 9)),
    qo 11 (.faddr 15 (.t 10)),
    qo 12 (.load false 1 (.t 11)),
    qe 13 (.call 135 [(.t 12)]),
    qm 4 13])
  (.seq (.seq (.region [qm 14 1,
    qo 15 (.nilck (.t 14)),
    qo 16 (.faddr 15 (.t 15)),
    qo 17 (.load false 1 (.t 16)),
    qe 18 (.call 136 [(.t 17)]),
    qo 19 (.lensl (.t 18)),
    qo 20 (.mv (.c (.int .i64 (.ofNat 0))))])
  (.block 0 (.loop l0_router_Router_look)))
  (.seq (.seq (.region [qm 35 1,
    qo 36 (.nilck (.t 35)),
    qo 37 (.faddr 15 (.t 36)),
    qo 38 (.load false 1 (.t 37)),
    qe 39 (.call 137 [(.t 38)]),
    qm 34 39,
    qo 40 (.ext 0 (.t 34)),
    qo 41 (.ext 1 (.t 34)),
    qn 7 (.new 0 [(.int .i64 (.ofNat 0)), .nils, (.bool false), (.int .u64 (.ofNat 0)), (.str []), (.int .i64 (.ofNat 0)), (.int .i64 (.ofNat 0)), (.int .i64 (.ofNat 0)), (.int .i64 (.ofNat 0))]),
    qx (.store 9 (.t 7) (.t 40)),
    qm 8 41])
  (.seq (.region [qm 42 8,
    qm 43 42,
    qg 44 43 true 1,
    qh 45 43 true (.nilck (.t 44)),
    qh 46 43 true (.faddr 16 (.t 45)),
    qh 47 43 true (.load false 1 (.t 46)),
    qh 48 43 true (.un .not (.t 47)),
    qo 49 (.pick (.t 43) (.t 48) (.c (.bool false))),
    qm 50 49,
    qg 51 50 true 1,
    qh 52 50 true (.nilck (.t 51)),
    qh 53 50 true (.faddr 1 (.t 52)),
    qh 54 50 true (.faddr 12 (.t 53)),
    qh 55 50 true (.load false 1 (.t 54)),
    qh 56 50 true (.bin .lss (.t 55) (.c (.int .i64 (.ofNat 0)))),
    qo 57 (.pick (.t 50) (.t 56) (.c (.bool false)))])
  (.cond (.t 57)
   (.seq (.region [qm 58 1,
     qo 59 (.nilck (.t 58)),
     qo 60 (.faddr 16 (.t 59)),
     qx (.store 1 (.t 60) (.c (.bool true)))])
   (.region [qm 61 0,
     qm 62 1,
     qo 63 (.nilck (.t 62)),
     qo 64 (.faddr 1 (.t 63)),
     qo 65 (.load true 14 (.t 64)),
     qo 66 (.load true 9 (.t 7)),
     qe 67 (.call 138 [(.t 61), (.t 65), (.t 66)])]))
   .skip)))
  (.seq (.region [qm 68 4,
    qo 69 (.bin .eql (.t 68) (.c (.int .i64 (.ofNat 9))))])
  (.cond (.t 69)
   (.region [qm 70 0,
     qm 71 1,
     qe 72 (.call 139 [(.t 70), (.t 71)])])
   .skip))))) }
theorem tr_router_Router_look : trF cx Tryz.f89 = pf_router_Router_look := by kernel_rfl
/-- (*depot/ask.Asks).Begin -/
def pf_ask_Asks_Begin : PF := { ntmps := 48, results := [.cell 4 true 9, .tmp 5], body :=
  (.seq (.region [qn 3 (.box (.t 1)),
    qn 4 (.new 0 [(.int .i64 (.ofNat 0)), (.int .i64 (.ofNat 0)), (.int .i64 (.ofNat 0)), (.int .i64 (.ofNat 0)), (.int .i64 (.ofNat 0)), (.int .i64 (.ofNat 0)), (.str []), (.int .i64 (.ofNat 0)), (.str [])]),
    qo 5 (.mv (.c (.bool false)))])
  (.seq (.region [qm 6 0,
    qo 7 (.nilck (.t 6)),
    qo 8 (.faddr 1 (.t 7)),
    qo 9 (.load false 1 (.t 8)),
    qo 10 (.bin .add (.t 9) (.c (.int .i64 (.ofNat 1)))),
    qo 11 (.faddr 3 (.t 3)),
    qx (.store 1 (.t 11) (.t 10)),
    qo 12 (.faddr 4 (.t 3)),
    qx (.store 1 (.t 12) (.c (.int .i64 (.ofNat 0))))])
  (.seq (.seq (.region [qo 13 (.load true 9 (.t 3)),
    qe 14 (.call 72 [(.t 13)]),
    qo 15 (.un .not (.t 14)),
    qm 16 15,
    qh 17 16 false (.faddr 0 (.t 3)),
    qh 18 16 false (.load false 1 (.t 17)),
    qh 19 16 false (.bin .geq (.t 18) (.c (.int .i64 (.ofNat 6)))),
    qo 20 (.pick (.t 16) (.c (.bool true)) (.t 19))])
  (.cond (.t 20)
   (.seq (.region [qo 21 (.build [(.int .i64 (.ofNat 0)), (.int .i64 (.ofNat 0)), (.int .i64 (.ofNat 0)), (.int .i64 (.ofNat 0)), (.int .i64 (.ofNat 0)), (.int .i64 (.ofNat 0)), (.str []), (.int .i64 (.ofNat 0)), (.str [])] []),
     qx (.store 9 (.t 4) (.t 21)),
     qo 5 (.mv (.c (.bool false)))])
   .ret)
   .skip))
  (.seq (.region [qm 22 0,
    qo 23 (.nilck (.t 22)),
    qo 24 (.faddr 1 (.t 23)),
    qo 25 (.load false 1 (.t 24)),
    qo 26 (.bin .add (.t 25) (.c (.int .i64 (.ofNat 1)))),
    qo 27 (.nilck (.t 22)),
    qo 28 (.faddr 1 (.t 27)),
    qx (.store 1 (.t 28) (.t 26))])
  (.seq (.region [qm 29 0,
    qo 30 (.faddr 1 (.t 3)),
    qo 31 (.load false 1 (.t 30)),
    qo 32 (.faddr 3 (.t 3)),
    qo 33 (.load false 1 (.t 32)),
    qe 34 (.call 77 [(.t 29), (.t 31), (.t 33)]),
    qo 35 (.faddr 4 (.t 3)),
    qx (.store 1 (.t 35) (.t 34))])
  (.seq (.region [qm 36 0,
    qm 37 0,
    qo 38 (.nilck (.t 37)),
    qo 39 (.faddr 0 (.t 38)),
    qo 40 (.load false 1 (.t 39)),
    qo 41 (.load true 9 (.t 3)),
    qo 42 (.build [(.int .i64 (.ofNat 0)), (.int .i64 (.ofNat 0)), (.int .i64 (.ofNat 0)), (.int .i64 (.ofNat 0)), (.int .i64 (.ofNat 0)), (.int .i64 (.ofNat 0)), (.str []), (.int .i64 (.ofNat 0)), (.str []), (.int .i64 (.ofNat 0))] [(0, 9, (.t 41))]),
    qn 43 (.bslice 0 10 1 [(.int .i64 (.ofNat 0)), (.int .i64 (.ofNat 0)), (.int .i64 (.ofNat 0)), (.int .i64 (.ofNat 0)), (.int .i64 (.ofNat 0)), (.int .i64 (.ofNat 0)), (.str []), (.int .i64 (.ofNat 0)), (.str []), (.int .i64 (.ofNat 0))] [(0, 10, (.t 42))]),
    qe 44 (.app 0 10 96 (.t 40) (.t 43)),
    qo 45 (.nilck (.t 36)),
    qo 46 (.faddr 0 (.t 45)),
    qx (.store 1 (.t 46) (.t 44))])
  (.seq (.region [qo 47 (.load true 9 (.t 3)),
    qx (.store 9 (.t 4) (.t 47)),
    qo 5 (.mv (.c (.bool true)))])
  .ret))))))) }
theorem tr_ask_Asks_Begin : trF cx Tryz.f92 = pf_ask_Asks_Begin := by kernel_rfl
def l0_answer_values : PC :=
  (.seq (.region [qo 12 (.bin .lss (.t 11) (.t 10))])
  (.seq (.cond (.t 12)
   .skip
   (.exit 0))
  (.seq (.block 1 (.seq (.region [qo 13 (.iasl 4 (.t 9) (.t 11)),
     qo 14 (.load true 4 (.t 13)),
     qn 7 (.new 0 [(.str []), (.int .i64 (.ofNat 0)), (.str []), (.int .i64 (.ofNat 0))]),
     qx (.store 4 (.t 7) (.t 14))])
   (.seq (.region [qo 15 (.faddr 0 (.t 7)),
     qo 16 (.load false 1 (.t 15)),
     qo 17 (.faddr 1 (.t 7)),
     qo 18 (.load false 1 (.t 17)),
     qo 20 (.faddr 2 (.t 7)),
     qo 21 (.load false 1 (.t 20)),
     qo 22 (.lens (.t 21)),
     qe 19 (.call 144 [(.t 18)]),
     .again ⟨(some 21), none, (.r (.load false 1 (.t 20)))⟩,
     .again ⟨(some 16), none, (.r (.load false 1 (.t 15)))⟩,
     qe 23 (.call 145 [(.t 22)]),
     .again ⟨(some 16), none, (.r (.load false 1 (.t 15)))⟩,
     qn 24 (.bslice 0 1 4 [(.str []), (.str []), (.str []), (.str [])] [(0, 1, (.c (.str [86, 65, 76, 85, 69]))), (1, 1, (.t 16)), (2, 1, (.t 19)), (3, 1, (.t 23))]),
     qm 8 24])
   (.seq (.seq (.region [qm 25 1])
   (.cond (.t 25)
    (.region [qm 26 8,
      qo 27 (.faddr 3 (.t 7)),
      qo 28 (.load false 1 (.t 27)),
      qe 29 (.call 144 [(.t 28)]),
      qn 30 (.bslice 0 1 1 [(.str [])] [(0, 1, (.t 29))]),
      qe 31 (.app 0 1 16 (.t 26) (.t 30)),
      qm 8 31])
    .skip))
   (.region [qm 32 8,
     qo 35 (.faddr 2 (.t 7)),
     qo 36 (.load false 1 (.t 35)),
     qe 33 (.call 147 [(.t 32), (.c (.str [32]))]),
     .again ⟨(some 36), none, (.r (.load false 1 (.t 35)))⟩,
     qo 34 (.bin .add (.t 33) (.c (.str [13, 10]))),
     qo 37 (.bin .add (.t 34) (.t 36)),
     qo 38 (.bin .add (.t 37) (.c (.str [13, 10]))),
     qe 39 (.call 146 [(.t 5), (.t 38)])])))))
  (.region [qo 40 (.bin .add (.t 11) (.c (.int .i64 (.ofNat 1)))),
    qm 11 40]))))
/-- depot/answer.values -/
def pf_answer_values : PF := { ntmps := 44, results := [.tmp 4], body :=
  (.seq (.region [qo 4 (.mv (.c (.str [])))])
  (.seq (.region [qn 5 (.new 1 [.nilp, .nils])])
  (.seq (.seq (.region [qm 9 0,
    qo 10 (.lensl (.t 9)),
    qo 11 (.mv (.c (.int .i64 (.ofNat 0))))])
  (.block 0 (.loop l0_answer_values)))
  (.seq (.region [qe 41 (.call 148 [(.t 5)]),
    qo 42 (.bin .add (.t 41) (.c (.str [69, 78, 68]))),
    qo 43 (.bin .add (.t 42) (.c (.str [13, 10]))),
    qm 4 43])
  .ret)))) }
theorem tr_answer_values : trF cx Tryz.f93 = pf_answer_values := by kernel_rfl
/-- depot/answer.plain -/
def pf_answer_plain : PF := { ntmps := 22, results := [.tmp 2], body :=
  (.seq (.region [qo 2 (.mv (.c (.str [])))])
  (.seq (.seq (.region [qm 3 0])
  (.block 0 (.seq (.region [qo 5 (.bin .eql (.t 3) (.c (.int .i64 (.ofNat 2)))),
     qm 4 5])
   (.cond (.t 4)
    (.seq (.region [qo 2 (.mv (.c (.str [83, 84, 79, 82, 69, 68])))])
    .ret)
    (.seq (.region [qo 7 (.bin .eql (.t 3) (.c (.int .i64 (.ofNat 3)))),
      qm 6 7])
    (.cond (.t 6)
     (.seq (.region [qo 2 (.mv (.c (.str [78, 79, 84, 95, 83, 84, 79, 82, 69, 68])))])
     .ret)
     (.seq (.region [qo 9 (.bin .eql (.t 3) (.c (.int .i64 (.ofNat 4)))),
       qm 8 9])
     (.cond (.t 8)
      (.seq (.region [qo 2 (.mv (.c (.str [69, 88, 73, 83, 84, 83])))])
      .ret)
      (.seq (.region [qo 11 (.bin .eql (.t 3) (.c (.int .i64 (.ofNat 5)))),
        qm 10 11])
      (.cond (.t 10)
       (.seq (.region [qo 2 (.mv (.c (.str [78, 79, 84, 95, 70, 79, 85, 78, 68])))])
       .ret)
       (.seq (.region [qo 13 (.bin .eql (.t 3) (.c (.int .i64 (.ofNat 6)))),
         qm 12 13])
       (.cond (.t 12)
        (.seq (.region [qo 2 (.mv (.c (.str [68, 69, 76, 69, 84, 69, 68])))])
        .ret)
        (.seq (.region [qo 15 (.bin .eql (.t 3) (.c (.int .i64 (.ofNat 7)))),
          qm 14 15])
        (.cond (.t 14)
         (.seq (.region [qo 2 (.mv (.c (.str [84, 79, 85, 67, 72, 69, 68])))])
         .ret)
         (.seq (.region [qo 17 (.bin .eql (.t 3) (.c (.int .i64 (.ofNat 9)))),
           qm 16 17])
         (.cond (.t 16)
          (.seq (.region [qo 2 (.mv (.c (.str [79, 75])))])
          .ret)
          (.seq (.region [qo 19 (.bin .eql (.t 3) (.c (.int .i64 (.ofNat 12)))),
            qm 18 19])
          (.cond (.t 18)
           (.seq (.region [qo 2 (.mv (.c (.str [69, 82, 82, 79, 82])))])
           .ret)
           (.seq (.region [qo 21 (.bin .eql (.t 3) (.c (.int .i64 (.ofNat 10)))),
             qm 20 21])
           (.cond (.t 20)
            (.seq (.region [qo 2 (.mv (.c (.str [86, 69, 82, 83, 73, 79, 78, 32, 100, 101, 112, 111, 116])))])
            .ret)
            .skip))))))))))))))))))))
  (.seq (.region [qo 2 (.mv (.c (.str [])))])
  .ret))) }
theorem tr_answer_plain : trF cx Tryz.f96 = pf_answer_plain := by kernel_rfl
/-- strings.IndexByte -/
def pf_strings_IndexByte : PF := { ntmps := 8, results := [.tmp 4], body :=
  (.seq (.region [qo 4 (.mv (.c (.int .i64 (.ofNat 0))))])
  (.seq (.region [qm 5 0,
    qm 6 1,
    qe 7 (.call 150 [(.t 5), (.t 6)]),
    qm 4 7])
  .ret)) }
theorem tr_strings_IndexByte : trF cx Tryz.f97 = pf_strings_IndexByte := by kernel_rfl
/-- strings.TrimSuffix -/
def pf_strings_TrimSuffix : PF := { ntmps := 8, results := [.tmp 4], body :=
  (.seq (.region [qo 4 (.mv (.c (.str [])))])
  (.seq (.region [qm 5 0,
    qm 6 1,
    qe 7 (.call 151 [(.t 5), (.t 6)]),
    qm 4 7])
  .ret)) }
theorem tr_strings_TrimSuffix : trF cx Tryz.f99 = pf_strings_TrimSuffix := by kernel_rfl
/-- depot/words.Line -/
def pf_words_Line : PF := { ntmps := 72, results := [.cell 2 true 9, .tmp 3], body :=
  (.seq (.region [qn 2 (.new 0 [(.int .i64 (.ofNat 0)), .nils, (.int .i64 (.ofNat 0)), (.int .i64 (.ofNat 0)), (.int .i64 (.ofNat 0)), (.int .i64 (.ofNat 0)), (.int .u64 (.ofNat 0)), (.bool false), (.str [])]),
    qo 3 (.mv (.c (.int .i64 (.ofNat 0))))])
  (.seq (.region [qm 9 0,
    qe 10 (.call 152 [(.t 9)]),
    qm 4 10])
  (.seq (.seq (.region [qm 11 4,
    qo 12 (.lensl (.t 11)),
    qo 13 (.bin .eql (.t 12) (.c (.int .i64 (.ofNat 0))))])
  (.cond (.t 13)
   (.seq (.region [qo 14 (.build [(.int .i64 (.ofNat 0)), .nils, (.int .i64 (.ofNat 0)), (.int .i64 (.ofNat 0)), (.int .i64 (.ofNat 0)), (.int .i64 (.ofNat 0)), (.int .u64 (.ofNat 0)), (.bool false), (.str [])] []),
     qx (.store 9 (.t 2) (.t 14)),
     qo 3 (.mv (.c (.int .i64 (.ofNat 4))))])
   .ret)
   .skip))
  (.seq (.region [qm 16 4,
    qo 17 (.iasl 1 (.t 16) (.c (.int .i64 (.ofNat 0)))),
    qo 18 (.load false 1 (.t 17)),
    qe 19 (.call 153 [(.t 18)]),
    qm 15 19,
    qo 20 (.ext 0 (.t 15)),
    qo 21 (.ext 1 (.t 15)),
    qn 5 (.new 0 [(.int .i64 (.ofNat 0)), (.int .i64 (.ofNat 0)), (.int .i64 (.ofNat 0)), (.bool false)]),
    qx (.store 4 (.t 5) (.t 20)),
    qm 6 21])
  (.seq (.region [qm 22 4,
    qo 23 (.slsl 1 (.t 22) (some (.c (.int .i64 (.ofNat 1)))) none none),
    qm 4 23])
  (.seq (.region [qo 24 (.faddr 0 (.t 5)),
    qo 25 (.load false 1 (.t 24)),
    qo 26 (.build [(.int .i64 (.ofNat 0)), .nils, (.int .i64 (.ofNat 0)), (.int .i64 (.ofNat 0)), (.int .i64 (.ofNat 0)), (.int .i64 (.ofNat 0)), (.int .u64 (.ofNat 0)), (.bool false), (.str [])] [(0, 1, (.t 25))]),
    qn 7 (.new 0 [(.int .i64 (.ofNat 0)), .nils, (.int .i64 (.ofNat 0)), (.int .i64 (.ofNat 0)), (.int .i64 (.ofNat 0)), (.int .i64 (.ofNat 0)), (.int .u64 (.ofNat 0)), (.bool false), (.str [])]),
    qx (.store 9 (.t 7) (.t 26))])
  (.seq (.seq (.region [qm 27 4,
    qo 28 (.lensl (.t 27)),
    qm 8 28])
  (.seq (.region [qo 29 (.faddr 3 (.t 5)),
    qo 30 (.load false 1 (.t 29)),
    qm 31 30,
    qg 32 31 true 8,
    qh 33 31 true (.faddr 1 (.t 5)),
    qh 34 31 true (.load false 1 (.t 33)),
    qh 35 31 true (.bin .gtr (.t 32) (.t 34)),
    qo 36 (.pick (.t 31) (.t 35) (.c (.bool false))),
    qm 37 36,
    qg 38 37 true 4,
    qg 39 37 true 8,
    qh 40 37 true (.bin .sub (.t 39) (.c (.int .i64 (.ofNat 1)))),
    qh 41 37 true (.iasl 1 (.t 38) (.t 40)),
    qh 42 37 true (.load false 1 (.t 41)),
    qh 43 37 true (.bin .eql (.t 42) (.c (.str [110, 111, 114, 101, 112, 108, 121]))),
    qo 44 (.pick (.t 37) (.t 43) (.c (.bool false)))])
  (.cond (.t 44)
   (.region [qm 45 4,
     qm 46 8,
     qo 47 (.bin .sub (.t 46) (.c (.int .i64 (.ofNat 1)))),
     qo 48 (.slsl 1 (.t 45) none (some (.t 47)) none),
     qo 49 (.faddr 7 (.t 7)),
     qx (.store 1 (.t 49) (.c (.bool true))),
     .again ⟨(some 48), none, (.r (.slsl 1 (.t 45) none (some (.t 47)) none))⟩,
     qm 4 48])
   .skip)))
  (.seq (.seq (.region [qm 50 6,
    qo 51 (.un .not (.t 50)),
    qm 52 51,
    qg 53 52 false 4,
    qh 54 52 false (.lensl (.t 53)),
    qh 55 52 false (.faddr 1 (.t 5)),
    qh 56 52 false (.load false 1 (.t 55)),
    qh 57 52 false (.bin .lss (.t 54) (.t 56)),
    qo 58 (.pick (.t 52) (.c (.bool true)) (.t 57)),
    qm 59 58,
    qg 60 59 false 4,
    qh 61 59 false (.lensl (.t 60)),
    qh 62 59 false (.faddr 2 (.t 5)),
    qh 63 59 false (.load false 1 (.t 62)),
    qh 64 59 false (.bin .gtr (.t 61) (.t 63)),
    qo 65 (.pick (.t 59) (.c (.bool true)) (.t 64))])
  (.cond (.t 65)
   (.seq (.region [qo 66 (.build [(.int .i64 (.ofNat 0)), .nils, (.int .i64 (.ofNat 0)), (.int .i64 (.ofNat 0)), (.int .i64 (.ofNat 0)), (.int .i64 (.ofNat 0)), (.int .u64 (.ofNat 0)), (.bool false), (.str [])] []),
     qx (.store 9 (.t 2) (.t 66)),
     qo 3 (.mv (.c (.int .i64 (.ofNat 4))))])
   .ret)
   .skip))
  (.seq (.seq (.region [qm 67 4,
    qe 68 (.call 154 [(.t 7), (.t 67)]),
    qo 69 (.un .not (.t 68))])
  (.cond (.t 69)
   (.seq (.region [qo 70 (.build [(.int .i64 (.ofNat 0)), .nils, (.int .i64 (.ofNat 0)), (.int .i64 (.ofNat 0)), (.int .i64 (.ofNat 0)), (.int .i64 (.ofNat 0)), (.int .u64 (.ofNat 0)), (.bool false), (.str [])] []),
     qx (.store 9 (.t 2) (.t 70)),
     qo 3 (.mv (.c (.int .i64 (.ofNat 1))))])
   .ret)
   .skip))
  (.seq (.region [qo 71 (.load true 9 (.t 7)),
    qx (.store 9 (.t 2) (.t 71)),
    qo 3 (.mv (.c (.int .i64 (.ofNat 0))))])
  .ret)))))))))) }
theorem tr_words_Line : trF cx Tryz.f100 = pf_words_Line := by kernel_rfl
end Go.Proofs.YtobnlhfgebfebaaGreatDoor
