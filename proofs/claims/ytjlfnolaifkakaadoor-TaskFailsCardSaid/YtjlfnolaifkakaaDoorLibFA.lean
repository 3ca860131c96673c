/- The functions that this seat's laws reach, for the clean machine; each is what the translation makes of the given text. Conditions: none. Printed by program. -/
import Derived.Test.YtjlfnolaifkakaaDoorChecked
import Derived.KernelRfl
import Derived.Test.YtjlfnolaifkakaaDoorQsD
import Derived.Test.YtjlfnolaifkakaaDoorQfC
namespace Go.Proofs.YtjlfnolaifkakaaDoor
open Go.Dp
def nums : List Nat := [3, 5, 6, 7, 8, 9, 10, 11, 12, 13, 14, 15, 16, 17, 18, 19, 20, 21, 22, 23, 24, 25, 26, 27, 28, 29, 30, 31, 32, 33, 34, 35, 36, 37, 38, 39, 40, 41, 42, 43, 44, 45, 46, 47, 48, 49, 50, 51, 52, 53, 54, 55, 56, 57, 58, 59, 60, 61, 62, 63, 64, 65, 66, 67, 68, 69, 70, 71, 72, 73, 74, 75, 76, 77, 78, 79, 80, 81, 82, 83, 84, 85, 86, 87, 88, 89, 90, 91, 92, 93, 94, 95, 96, 97]
abbrev n_depotlaw21_TaskRuns : Nat := 3
abbrev n_depotlaw21_TaskFails : Nat := 5
abbrev n_task_New : Nat := 6
abbrev n_depotlaw21_one : Nat := 7
abbrev n_task_Task_Start : Nat := 8
abbrev n_task_Task_Take : Nat := 9
abbrev n_task_Task_Got : Nat := 10
abbrev n_task_Task_Phase : Nat := 11
abbrev n_depotlaw21_done : Nat := 12
abbrev n_task_Task_Answer : Nat := 13
abbrev n_depotbook_Same_int : Nat := 14
abbrev n_words_Key : Nat := 15
abbrev n_place_Metas : Nat := 16
abbrev n_depotbook_Within : Nat := 17
abbrev n_task_RightConfig : Nat := 18
abbrev n_task_within : Nat := 19
abbrev n_rs_New : Nat := 20
abbrev n_place_Stripe : Nat := 21
abbrev n_task_Task_enter : Nat := 22
abbrev n_task_Task_ask : Nat := 23
abbrev n_task_Task_on : Nat := 24
abbrev n_task_GetRecord : Nat := 25
abbrev n_place_Position : Nat := 26
abbrev n_gather_Gather_Got : Nat := 27
abbrev n_rs_Code_Size : Nat := 28
abbrev n_task_Task_more : Nat := 29
abbrev n_gf_Make : Nat := 30
abbrev n_matrix_Cauchy : Nat := 31
abbrev n_chain_Hash : Nat := 32
abbrev n_task_Task_gathered : Nat := 33
abbrev n_task_Task_found : Nat := 34
abbrev n_task_Task_scattered : Nat := 35
abbrev n_task_Task_written : Nat := 36
abbrev n_task_Task_clean : Nat := 37
abbrev n_task_Task_decide : Nat := 38
abbrev n_task_Task_tell : Nat := 39
abbrev n_pack_Read : Nat := 40
abbrev n_pack_Reader_Num : Nat := 41
abbrev n_pack_Reader_End : Nat := 42
abbrev n_slices_Contains_int_int : Nat := 43
abbrev n_gather_Gather_Next : Nat := 44
abbrev n_matrix_Identity : Nat := 45
abbrev n_gf_Inv : Nat := 46
abbrev n_gather_Gather_State : Nat := 47
abbrev n_rs_Code_Decode : Nat := 48
abbrev n_gather_Gather_Parts : Nat := 49
abbrev n_task_Task_forget : Nat := 50
abbrev n_task_Task_refill : Nat := 51
abbrev n_rs_Code_Encode : Nat := 52
abbrev n_when_Live : Nat := 53
abbrev n_task_Task_unseen : Nat := 54
abbrev n_task_reads : Nat := 55
abbrev n_task_Task_gather : Nat := 56
abbrev n_task_Task_write : Nat := 57
abbrev n_task_Task_all : Nat := 58
abbrev n_model_Next : Nat := 59
abbrev n_task_Task_scatter : Nat := 60
abbrev n_pack_grown : Nat := 61
abbrev n_pack_Reader_fail : Nat := 62
abbrev n_slices_Index_int_int : Nat := 63
abbrev n_rs_Code_chosen : Nat := 64
abbrev n_matrix_Invert : Nat := 65
abbrev n_rs_Code_mix : Nat := 66
abbrev n_slices_Clone_api_Part_api_Part : Nat := 67
abbrev n_task_PutRecord : Nat := 68
abbrev n_gather_New : Nat := 69
abbrev n_when_Deadline : Nat := 70
abbrev n_model_Next_1 : Nat := 71
abbrev n_model_join : Nat := 72
abbrev n_model_count : Nat := 73
abbrev n_matrix_Right : Nat := 74
abbrev n_matrix_copied : Nat := 75
abbrev n_matrix_reduce : Nat := 76
abbrev n_slices_Clone_byte_byte : Nat := 77
abbrev n_gf_Mul : Nat := 78
abbrev n_pack_Num : Nat := 79
abbrev n_slices_Clone_int_int : Nat := 80
abbrev n_when_time : Nat := 81
abbrev n_words_Number : Nat := 82
abbrev n_strconv_FormatUint : Nat := 83
abbrev n_matrix_add : Nat := 84
abbrev n_pack_num : Nat := 85
abbrev n_internal_strconv_FormatUint : Nat := 86
abbrev n_internal_strconv_small : Nat := 87
abbrev n_internal_strconv_numDigits : Nat := 88
abbrev n_internal_strconv_formatBase10 : Nat := 89
abbrev n_internal_strconv_formatBits : Nat := 90
abbrev n_internal_strconv_log10Pow2 : Nat := 91
abbrev n_math_bits_Len64 : Nat := 92
abbrev n_internal_strconv_bool2_int : Nat := 93
abbrev n_internal_strconv_isPowerOfTwo : Nat := 94
abbrev n_math_bits_TrailingZeros : Nat := 95
abbrev n_math_bits_TrailingZeros32 : Nat := 96
abbrev n_math_bits_TrailingZeros64 : Nat := 97
noncomputable def cx : Cx := { P := Tryd.prog, fm := fmOf nums, gm := fun _ => none, ext := extOf [], bt := none }
def l0_depotlaw21_TaskRuns : PC :=
  (.seq (.seq (.region [.op ⟨(some 50), none, (.r (.mv (.t 8)))⟩,
    .op ⟨(some 51), none, (.r (.bin .lss (.t 50) (.c (.int .i64 (.ofNat 5)))))⟩])
  (.cond (.t 51)
   .skip
   (.exit 0)))
  (.seq (.block 1 (.seq (.region [.op ⟨(some 54), none, (.r (.mv (.t 2)))⟩,
     .op ⟨(some 55), none, (.e (.call n_task_Task_Take [(.t 54)]))⟩,
     .op ⟨(some 9), none, (.r (.mv (.t 55)))⟩])
   (.seq (.seq (.region [.op ⟨(some 56), none, (.r (.mv (.t 9)))⟩,
     .op ⟨(some 57), none, (.r (.lensl (.t 56)))⟩,
     .op ⟨(some 58), none, (.r (.bin .neq (.t 57) (.c (.int .i64 (.ofNat 1)))))⟩])
   (.cond (.t 58)
    (.exit 0)
    .skip))
   (.seq (.region [.op ⟨(some 59), none, (.r (.mv (.t 7)))⟩,
     .op ⟨(some 60), none, (.r (.mv (.t 9)))⟩,
     .op ⟨(some 61), none, (.r (.iasl 9 (.t 60) (.c (.int .i64 (.ofNat 0)))))⟩,
     .op ⟨(some 62), none, (.r (.faddr 0 (.t 61)))⟩,
     .op ⟨(some 63), none, (.r (.load false 1 (.t 62)))⟩,
     .op ⟨(some 64), none, (.r (.bin .mul (.c (.int .i64 (.ofNat 10))) (.t 63)))⟩,
     .op ⟨(some 65), none, (.r (.mv (.t 9)))⟩,
     .op ⟨(some 66), none, (.r (.iasl 9 (.t 65) (.c (.int .i64 (.ofNat 0)))))⟩,
     .op ⟨(some 67), none, (.r (.faddr 5 (.t 66)))⟩,
     .op ⟨(some 68), none, (.r (.load false 1 (.t 67)))⟩,
     .op ⟨(some 69), none, (.r (.bin .add (.t 64) (.t 68)))⟩,
     .op ⟨(some 70), none, (.n (.bslice 0 1 1 [(.int .i64 (.ofNat 0))] [(0, 1, (.t 69))]))⟩,
     .op ⟨(some 71), none, (.e (.app 0 1 8 (.t 59) (.t 70)))⟩,
     .op ⟨(some 7), none, (.r (.mv (.t 71)))⟩])
   (.seq (.region [.op ⟨(some 10), none, (.r (.mv (.c (.int .i64 (.ofNat 7)))))⟩])
   (.seq (.seq (.region [.op ⟨(some 72), none, (.r (.mv (.t 9)))⟩,
     .op ⟨(some 73), none, (.r (.iasl 9 (.t 72) (.c (.int .i64 (.ofNat 0)))))⟩,
     .op ⟨(some 74), none, (.r (.faddr 0 (.t 73)))⟩,
     .op ⟨(some 75), none, (.r (.load false 1 (.t 74)))⟩,
     .op ⟨(some 76), none, (.r (.bin .eql (.t 75) (.c (.int .i64 (.ofNat 2)))))⟩])
   (.cond (.t 76)
    (.region [.op ⟨(some 10), none, (.r (.mv (.c (.int .i64 (.ofNat 0)))))⟩])
    .skip))
   (.region [.op ⟨(some 77), none, (.r (.mv (.t 2)))⟩,
     .op ⟨(some 78), none, (.r (.load true 14 (.t 6)))⟩,
     .op ⟨(some 79), none, (.r (.mv (.t 2)))⟩,
     .op ⟨(some 81), none, (.r (.mv (.t 9)))⟩,
     .op ⟨(some 82), none, (.r (.iasl 9 (.t 81) (.c (.int .i64 (.ofNat 0)))))⟩,
     .op ⟨(some 83), none, (.r (.load true 9 (.t 82)))⟩,
     .op ⟨(some 84), none, (.r (.mv (.t 9)))⟩,
     .op ⟨(some 85), none, (.r (.iasl 9 (.t 84) (.c (.int .i64 (.ofNat 0)))))⟩,
     .op ⟨(some 86), none, (.r (.load true 9 (.t 85)))⟩,
     .op ⟨(some 87), none, (.r (.mv (.t 10)))⟩,
     .op ⟨(some 80), none, (.e (.call n_task_Task_Phase [(.t 79)]))⟩,
     .again ⟨(some 86), none, (.r (.load true 9 (.t 85)))⟩,
     .again ⟨(some 83), none, (.r (.load true 9 (.t 82)))⟩,
     .again ⟨(some 78), none, (.r (.load true 14 (.t 6)))⟩,
     .op ⟨(some 88), none, (.e (.call n_depotlaw21_done [(.t 86), (.t 87), (.c (.str []))]))⟩,
     .again ⟨(some 83), none, (.r (.load true 9 (.t 82)))⟩,
     .again ⟨(some 78), none, (.r (.load true 14 (.t 6)))⟩,
     .op ⟨(some 89), none, (.e (.call n_task_Task_Got [(.t 77), (.t 78), (.t 80), (.t 83), (.t 88), (.c (.bool true))]))⟩])))))))
  (.region [.op ⟨(some 52), none, (.r (.mv (.t 8)))⟩,
    .op ⟨(some 53), none, (.r (.bin .add (.t 52) (.c (.int .i64 (.ofNat 1)))))⟩,
    .op ⟨(some 8), none, (.r (.mv (.t 53)))⟩])))
/-- depot/depotlaw21.TaskRuns -/
def pf_depotlaw21_TaskRuns : PF := { ntmps := 138, results := [.tmp 0], body :=
  (.seq (.region [.op ⟨(some 0), none, (.r (.mv (.c (.bool false))))⟩])
  (.seq (.region [.op ⟨(some 15), none, (.n (.bslice 0 1 1 [(.str [])] [(0, 1, (.c (.str [97])))]))⟩,
    .op ⟨(some 16), none, (.r (.build [(.int .i64 (.ofNat 0)), .nils, (.int .i64 (.ofNat 0)), (.int .i64 (.ofNat 0)), (.int .i64 (.ofNat 0)), (.int .i64 (.ofNat 0)), (.int .u64 (.ofNat 0)), (.bool false), (.str [])] [(0, 1, (.c (.int .i64 (.ofNat 3)))), (1, 1, (.t 15)), (8, 1, (.c (.str [120])))]))⟩,
    .op ⟨(some 1), none, (.n (.new 0 [(.int .i64 (.ofNat 0)), .nils, (.int .i64 (.ofNat 0)), (.int .i64 (.ofNat 0)), (.int .i64 (.ofNat 0)), (.int .i64 (.ofNat 0)), (.int .u64 (.ofNat 0)), (.bool false), (.str [])]))⟩,
    .op ⟨none, none, (.e (.store 9 (.t 1) (.t 16)))⟩])
  (.seq (.region [.op ⟨(some 19), none, (.r (.load true 9 (.t 1)))⟩,
    .op ⟨(some 18), none, (.e (.call n_depotlaw21_one []))⟩,
    .again ⟨(some 19), none, (.r (.load true 9 (.t 1)))⟩,
    .op ⟨(some 20), none, (.e (.call n_task_New [(.t 18), (.c (.str [97])), (.t 19), (.c (.int .i64 (.negSucc 0))), (.c (.int .i64 (.ofNat 7)))]))⟩,
    .op ⟨(some 17), none, (.r (.mv (.t 20)))⟩,
    .op ⟨(some 21), none, (.r (.ext 0 (.t 17)))⟩,
    .op ⟨(some 22), none, (.r (.ext 1 (.t 17)))⟩,
    .op ⟨(some 2), none, (.r (.mv (.t 21)))⟩,
    .op ⟨(some 3), none, (.r (.mv (.t 22)))⟩])
  (.seq (.region [.op ⟨(some 24), none, (.e (.call n_depotlaw21_one []))⟩,
    .op ⟨(some 25), none, (.n (.bslice 0 1 1 [(.str [])] [(0, 1, (.c (.str [97])))]))⟩,
    .op ⟨(some 26), none, (.r (.build [(.int .i64 (.ofNat 0)), .nils, (.int .i64 (.ofNat 0)), (.int .i64 (.ofNat 0)), (.int .i64 (.ofNat 0)), (.int .i64 (.ofNat 0)), (.int .u64 (.ofNat 0)), (.bool false), (.str [])] [(0, 1, (.c (.int .i64 (.ofNat 1)))), (1, 1, (.t 25))]))⟩,
    .op ⟨(some 27), none, (.e (.call n_task_New [(.t 24), (.c (.str [97])), (.t 26), (.c (.int .i64 (.negSucc 0))), (.c (.int .i64 (.ofNat 8)))]))⟩,
    .op ⟨(some 23), none, (.r (.mv (.t 27)))⟩,
    .op ⟨(some 28), none, (.r (.ext 0 (.t 23)))⟩,
    .op ⟨(some 29), none, (.r (.ext 1 (.t 23)))⟩,
    .op ⟨(some 4), none, (.r (.mv (.t 28)))⟩,
    .op ⟨(some 5), none, (.r (.mv (.t 29)))⟩])
  (.seq (.seq (.region [.op ⟨(some 30), none, (.r (.mv (.t 2)))⟩,
    .op ⟨(some 31), none, (.r (.eqc false (.t 30) (.c .nilp)))⟩,
    .op ⟨(some 32), none, (.r (.mv (.t 31)))⟩,
    .op ⟨(some 33), (some (32, false)), (.r (.mv (.t 4)))⟩,
    .op ⟨(some 34), (some (32, false)), (.r (.eqc false (.t 33) (.c .nilp)))⟩,
    .op ⟨(some 35), none, (.r (.pick (.t 32) (.c (.bool true)) (.t 34)))⟩,
    .op ⟨(some 36), none, (.r (.mv (.t 35)))⟩,
    .op ⟨(some 37), (some (36, false)), (.r (.mv (.t 3)))⟩,
    .op ⟨(some 38), (some (36, false)), (.r (.bin .neq (.t 37) (.c (.int .i64 (.ofNat 0)))))⟩,
    .op ⟨(some 39), none, (.r (.pick (.t 36) (.c (.bool true)) (.t 38)))⟩,
    .op ⟨(some 40), none, (.r (.mv (.t 39)))⟩,
    .op ⟨(some 41), (some (40, false)), (.r (.mv (.t 5)))⟩,
    .op ⟨(some 42), (some (40, false)), (.r (.bin .neq (.t 41) (.c (.int .i64 (.ofNat 0)))))⟩,
    .op ⟨(some 43), none, (.r (.pick (.t 40) (.c (.bool true)) (.t 42)))⟩])
  (.cond (.t 43)
   (.seq (.region [.op ⟨(some 0), none, (.r (.mv (.c (.bool false))))⟩])
   .ret)
   .skip))
  (.seq (.region [.op ⟨(some 44), none, (.r (.build (rep 12 [(.int .i64 (.ofNat 0))]) [(0, 1, (.c (.int .i64 (.ofNat 2))))]))⟩,
    .op ⟨(some 45), none, (.r (.build (rep 14 [(.int .i64 (.ofNat 0))]) [(0, 12, (.t 44))]))⟩,
    .op ⟨(some 6), none, (.n (.new 0 (rep 14 [(.int .i64 (.ofNat 0))])))⟩,
    .op ⟨none, none, (.e (.store 14 (.t 6) (.t 45)))⟩])
  (.seq (.region [.op ⟨(some 46), none, (.n (.bslice 0 1 0 [] []))⟩,
    .op ⟨(some 7), none, (.r (.mv (.t 46)))⟩])
  (.seq (.region [.op ⟨(some 47), none, (.r (.mv (.t 2)))⟩,
    .op ⟨(some 48), none, (.r (.load true 14 (.t 6)))⟩,
    .op ⟨(some 49), none, (.e (.call n_task_Task_Start [(.t 47), (.t 48)]))⟩])
  (.seq (.seq (.region [.op ⟨(some 8), none, (.r (.mv (.c (.int .i64 (.ofNat 0)))))⟩])
  (.block 0 (.loop l0_depotlaw21_TaskRuns)))
  (.seq (.region [.op ⟨(some 91), none, (.r (.mv (.t 2)))⟩,
    .op ⟨(some 92), none, (.e (.call n_task_Task_Answer [(.t 91)]))⟩,
    .op ⟨(some 90), none, (.r (.mv (.t 92)))⟩,
    .op ⟨(some 93), none, (.r (.ext 0 (.t 90)))⟩,
    .op ⟨(some 94), none, (.r (.ext 1 (.t 90)))⟩,
    .op ⟨(some 11), none, (.n (.new 0 [(.int .i64 (.ofNat 0)), .nils, (.bool false), (.int .u64 (.ofNat 0)), (.str []), (.int .i64 (.ofNat 0)), (.int .i64 (.ofNat 0)), (.int .i64 (.ofNat 0)), (.int .i64 (.ofNat 0))]))⟩,
    .op ⟨none, none, (.e (.store 9 (.t 11) (.t 93)))⟩,
    .op ⟨(some 12), none, (.r (.mv (.t 94)))⟩])
  (.seq (.region [.op ⟨(some 95), none, (.r (.mv (.t 4)))⟩,
    .op ⟨(some 96), none, (.r (.build (rep 14 [(.int .i64 (.ofNat 0))]) []))⟩,
    .op ⟨(some 97), none, (.e (.call n_task_Task_Start [(.t 95), (.t 96)]))⟩])
  (.seq (.region [.op ⟨(some 99), none, (.r (.mv (.t 4)))⟩,
    .op ⟨(some 100), none, (.e (.call n_task_Task_Answer [(.t 99)]))⟩,
    .op ⟨(some 98), none, (.r (.mv (.t 100)))⟩,
    .op ⟨(some 101), none, (.r (.ext 0 (.t 98)))⟩,
    .op ⟨(some 102), none, (.r (.ext 1 (.t 98)))⟩,
    .op ⟨(some 13), none, (.n (.new 0 [(.int .i64 (.ofNat 0)), .nils, (.bool false), (.int .u64 (.ofNat 0)), (.str []), (.int .i64 (.ofNat 0)), (.int .i64 (.ofNat 0)), (.int .i64 (.ofNat 0)), (.int .i64 (.ofNat 0))]))⟩,
    .op ⟨none, none, (.e (.store 9 (.t 13) (.t 101)))⟩,
    .op ⟨(some 14), none, (.r (.mv (.t 102)))⟩])
  (.seq (.region [.op ⟨(some 103), none, (.r (.mv (.t 7)))⟩,
    .op ⟨(some 104), none, (.n (.bslice 0 1 3 [(.int .i64 (.ofNat 0)), (.int .i64 (.ofNat 0)), (.int .i64 (.ofNat 0))] [(0, 1, (.c (.int .i64 (.ofNat 21)))), (1, 1, (.c (.int .i64 (.ofNat 12)))), (2, 1, (.c (.int .i64 (.ofNat 11))))]))⟩,
    .op ⟨(some 105), none, (.e (.call n_depotbook_Same_int [(.t 103), (.t 104)]))⟩,
    .op ⟨(some 106), none, (.r (.mv (.t 105)))⟩,
    .op ⟨(some 107), (some (106, true)), (.r (.mv (.t 12)))⟩,
    .op ⟨(some 108), none, (.r (.pick (.t 106) (.t 107) (.c (.bool false))))⟩,
    .op ⟨(some 109), none, (.r (.mv (.t 108)))⟩,
    .op ⟨(some 110), (some (109, true)), (.r (.faddr 0 (.t 11)))⟩,
    .op ⟨(some 111), (some (109, true)), (.r (.load false 1 (.t 110)))⟩,
    .op ⟨(some 112), (some (109, true)), (.r (.bin .eql (.t 111) (.c (.int .i64 (.ofNat 2)))))⟩,
    .op ⟨(some 113), none, (.r (.pick (.t 109) (.t 112) (.c (.bool false))))⟩,
    .op ⟨(some 114), none, (.r (.mv (.t 113)))⟩,
    .op ⟨(some 115), (some (114, true)), (.r (.mv (.t 2)))⟩,
    .op ⟨(some 116), (some (114, true)), (.e (.call n_task_Task_Phase [(.t 115)]))⟩,
    .op ⟨(some 117), (some (114, true)), (.r (.bin .eql (.t 116) (.c (.int .i64 (.ofNat 9)))))⟩,
    .op ⟨(some 118), none, (.r (.pick (.t 114) (.t 117) (.c (.bool false))))⟩,
    .op ⟨(some 119), none, (.r (.mv (.t 118)))⟩,
    .op ⟨(some 120), (some (119, true)), (.r (.mv (.t 14)))⟩,
    .op ⟨(some 121), none, (.r (.pick (.t 119) (.t 120) (.c (.bool false))))⟩,
    .op ⟨(some 122), none, (.r (.mv (.t 121)))⟩,
    .op ⟨(some 123), (some (122, true)), (.r (.faddr 0 (.t 13)))⟩,
    .op ⟨(some 124), (some (122, true)), (.r (.load false 1 (.t 123)))⟩,
    .op ⟨(some 125), (some (122, true)), (.r (.bin .eql (.t 124) (.c (.int .i64 (.ofNat 1)))))⟩,
    .op ⟨(some 126), none, (.r (.pick (.t 122) (.t 125) (.c (.bool false))))⟩,
    .op ⟨(some 127), none, (.r (.mv (.t 126)))⟩,
    .op ⟨(some 128), (some (127, true)), (.r (.faddr 1 (.t 13)))⟩,
    .op ⟨(some 129), (some (127, true)), (.r (.load false 1 (.t 128)))⟩,
    .op ⟨(some 130), (some (127, true)), (.r (.lensl (.t 129)))⟩,
    .op ⟨(some 131), (some (127, true)), (.r (.bin .eql (.t 130) (.c (.int .i64 (.ofNat 0)))))⟩,
    .op ⟨(some 132), none, (.r (.pick (.t 127) (.t 131) (.c (.bool false))))⟩,
    .op ⟨(some 133), none, (.r (.mv (.t 132)))⟩,
    .op ⟨(some 134), (some (133, true)), (.r (.mv (.t 4)))⟩,
    .op ⟨(some 135), (some (133, true)), (.e (.call n_task_Task_Phase [(.t 134)]))⟩,
    .op ⟨(some 136), (some (133, true)), (.r (.bin .eql (.t 135) (.c (.int .i64 (.ofNat 9)))))⟩,
    .op ⟨(some 137), none, (.r (.pick (.t 133) (.t 136) (.c (.bool false))))⟩,
    .op ⟨(some 0), none, (.r (.mv (.t 137)))⟩])
  .ret))))))))))))) }
theorem tr_depotlaw21_TaskRuns : trF cx Tryd.f3 = pf_depotlaw21_TaskRuns := by kernel_rfl
def l0_depotlaw21_TaskFails : PC :=
  (.seq (.seq (.region [.op ⟨(some 63), none, (.r (.mv (.t 17)))⟩,
    .op ⟨(some 64), none, (.r (.mv (.t 11)))⟩,
    .op ⟨(some 65), none, (.r (.mv (.t 12)))⟩,
    .op ⟨(some 66), none, (.r (.bin .add (.t 64) (.t 65)))⟩,
    .op ⟨(some 67), none, (.r (.bin .lss (.t 63) (.t 66)))⟩])
  (.cond (.t 67)
   .skip
   (.exit 0)))
  (.seq (.block 1 (.region [.op ⟨(some 70), none, (.r (.mv (.t 17)))⟩,
     .op ⟨(some 71), none, (.r (.faddr 0 (.t 16)))⟩,
     .op ⟨(some 72), none, (.r (.iaarr 12 1 (.t 71) (.t 70)))⟩,
     .op ⟨none, none, (.e (.store 1 (.t 72) (.c (.int .i64 (.ofNat 2)))))⟩]))
  (.region [.op ⟨(some 68), none, (.r (.mv (.t 17)))⟩,
    .op ⟨(some 69), none, (.r (.bin .add (.t 68) (.c (.int .i64 (.ofNat 1)))))⟩,
    .op ⟨(some 17), none, (.r (.mv (.t 69)))⟩])))
def l1_depotlaw21_TaskFails : PC :=
  (.seq (.region [.op ⟨(some 80), none, (.r (.bin .lss (.t 79) (.t 78)))⟩])
  (.seq (.cond (.t 80)
   .skip
   (.exit 2))
  (.seq (.block 3 (.seq (.region [.op ⟨(some 81), none, (.r (.iasl 9 (.t 77) (.t 79)))⟩,
     .op ⟨(some 82), none, (.r (.load true 9 (.t 81)))⟩,
     .op ⟨(some 19), none, (.n (.new 0 [(.int .i64 (.ofNat 0)), (.int .i64 (.ofNat 0)), (.int .i64 (.ofNat 0)), (.int .i64 (.ofNat 0)), (.int .i64 (.ofNat 0)), (.int .i64 (.ofNat 0)), (.str []), (.int .i64 (.ofNat 0)), (.str [])]))⟩,
     .op ⟨none, none, (.e (.store 9 (.t 19) (.t 82)))⟩])
   (.region [.op ⟨(some 83), none, (.r (.mv (.t 14)))⟩,
     .op ⟨(some 84), none, (.r (.load true 14 (.t 16)))⟩,
     .op ⟨(some 85), none, (.r (.load true 9 (.t 19)))⟩,
     .op ⟨(some 86), none, (.r (.load true 9 (.t 19)))⟩,
     .op ⟨(some 87), none, (.e (.call n_depotlaw21_done [(.t 86), (.c (.int .i64 (.ofNat 0))), (.c (.str []))]))⟩,
     .again ⟨(some 85), none, (.r (.load true 9 (.t 19)))⟩,
     .again ⟨(some 84), none, (.r (.load true 14 (.t 16)))⟩,
     .op ⟨(some 88), none, (.e (.call n_task_Task_Got [(.t 83), (.t 84), (.c (.int .i64 (.ofNat 1))), (.t 85), (.t 87), (.c (.bool true))]))⟩])))
  (.region [.op ⟨(some 89), none, (.r (.bin .add (.t 79) (.c (.int .i64 (.ofNat 1)))))⟩,
    .op ⟨(some 79), none, (.r (.mv (.t 89)))⟩]))))
def l2_depotlaw21_TaskFails : PC :=
  (.seq (.seq (.region [.op ⟨(some 108), none, (.r (.mv (.t 22)))⟩,
    .op ⟨(some 109), none, (.r (.mv (.t 20)))⟩,
    .op ⟨(some 110), none, (.r (.lensl (.t 109)))⟩,
    .op ⟨(some 111), none, (.r (.bin .lss (.t 108) (.t 110)))⟩])
  (.cond (.t 111)
   .skip
   (.exit 4)))
  (.seq (.block 5 (.seq (.region [.op ⟨(some 114), none, (.r (.mv (.t 22)))⟩,
     .op ⟨(some 115), none, (.r (.mv (.t 21)))⟩,
     .op ⟨(some 116), none, (.r (.bin .lss (.t 114) (.t 115)))⟩])
   (.cond (.t 116)
    (.region [.op ⟨(some 117), none, (.r (.mv (.t 14)))⟩,
      .op ⟨(some 118), none, (.r (.load true 14 (.t 16)))⟩,
      .op ⟨(some 119), none, (.r (.mv (.t 20)))⟩,
      .op ⟨(some 120), none, (.r (.mv (.t 22)))⟩,
      .op ⟨(some 121), none, (.r (.iasl 9 (.t 119) (.t 120)))⟩,
      .op ⟨(some 122), none, (.r (.load true 9 (.t 121)))⟩,
      .op ⟨(some 123), none, (.r (.mv (.t 20)))⟩,
      .op ⟨(some 124), none, (.r (.mv (.t 22)))⟩,
      .op ⟨(some 125), none, (.r (.iasl 9 (.t 123) (.t 124)))⟩,
      .op ⟨(some 126), none, (.r (.load true 9 (.t 125)))⟩,
      .op ⟨(some 127), none, (.e (.call n_depotlaw21_done [(.t 126), (.c (.int .i64 (.ofNat 9))), (.c (.str []))]))⟩,
      .again ⟨(some 122), none, (.r (.load true 9 (.t 121)))⟩,
      .again ⟨(some 118), none, (.r (.load true 14 (.t 16)))⟩,
      .op ⟨(some 128), none, (.e (.call n_task_Task_Got [(.t 117), (.t 118), (.c (.int .i64 (.ofNat 3))), (.t 122), (.t 127), (.c (.bool true))]))⟩])
    (.region [.op ⟨(some 129), none, (.r (.mv (.t 14)))⟩,
      .op ⟨(some 130), none, (.r (.load true 14 (.t 16)))⟩,
      .op ⟨(some 131), none, (.r (.mv (.t 20)))⟩,
      .op ⟨(some 132), none, (.r (.mv (.t 22)))⟩,
      .op ⟨(some 133), none, (.r (.iasl 9 (.t 131) (.t 132)))⟩,
      .op ⟨(some 134), none, (.r (.load true 9 (.t 133)))⟩,
      .op ⟨(some 135), none, (.r (.mv (.t 20)))⟩,
      .op ⟨(some 136), none, (.r (.mv (.t 22)))⟩,
      .op ⟨(some 137), none, (.r (.iasl 9 (.t 135) (.t 136)))⟩,
      .op ⟨(some 138), none, (.r (.faddr 1 (.t 137)))⟩,
      .op ⟨(some 139), none, (.r (.load false 1 (.t 138)))⟩,
      .op ⟨(some 140), none, (.r (.build [(.int .i64 (.ofNat 0)), (.int .i64 (.ofNat 0)), (.int .i64 (.ofNat 0)), (.int .i64 (.ofNat 0)), (.int .i64 (.ofNat 0)), (.int .i64 (.ofNat 0)), (.str []), (.int .i64 (.ofNat 0)), (.str [])] [(0, 1, (.c (.int .i64 (.ofNat 7)))), (1, 1, (.t 139))]))⟩,
      .op ⟨(some 141), none, (.e (.call n_task_Task_Got [(.t 129), (.t 130), (.c (.int .i64 (.ofNat 3))), (.t 134), (.t 140), (.c (.bool true))]))⟩]))))
  (.region [.op ⟨(some 112), none, (.r (.mv (.t 22)))⟩,
    .op ⟨(some 113), none, (.r (.bin .add (.t 112) (.c (.int .i64 (.ofNat 1)))))⟩,
    .op ⟨(some 22), none, (.r (.mv (.t 113)))⟩])))
def l3_depotlaw21_TaskFails : PC :=
  (.seq (.region [.op ⟨(some 172), none, (.r (.bin .lss (.t 171) (.t 170)))⟩])
  (.seq (.cond (.t 172)
   .skip
   (.exit 6))
  (.seq (.block 7 (.seq (.region [.op ⟨(some 173), none, (.r (.iasl 9 (.t 169) (.t 171)))⟩,
     .op ⟨(some 174), none, (.r (.load true 9 (.t 173)))⟩,
     .op ⟨(some 27), none, (.n (.new 0 [(.int .i64 (.ofNat 0)), (.int .i64 (.ofNat 0)), (.int .i64 (.ofNat 0)), (.int .i64 (.ofNat 0)), (.int .i64 (.ofNat 0)), (.int .i64 (.ofNat 0)), (.str []), (.int .i64 (.ofNat 0)), (.str [])]))⟩,
     .op ⟨none, none, (.e (.store 9 (.t 27) (.t 174)))⟩])
   (.seq (.region [.op ⟨(some 175), none, (.r (.faddr 0 (.t 27)))⟩,
     .op ⟨(some 176), none, (.r (.load false 1 (.t 175)))⟩,
     .op ⟨(some 177), none, (.r (.bin .neq (.t 176) (.c (.int .i64 (.ofNat 3)))))⟩,
     .op ⟨(some 178), none, (.r (.mv (.t 177)))⟩,
     .op ⟨(some 179), (some (178, false)), (.r (.faddr 5 (.t 27)))⟩,
     .op ⟨(some 180), (some (178, false)), (.r (.load false 1 (.t 179)))⟩,
     .op ⟨(some 181), (some (178, false)), (.r (.bin .neq (.t 180) (.c (.int .i64 (.ofNat 2)))))⟩,
     .op ⟨(some 182), none, (.r (.pick (.t 178) (.c (.bool true)) (.t 181)))⟩,
     .op ⟨(some 183), none, (.r (.mv (.t 182)))⟩,
     .op ⟨(some 184), (some (183, false)), (.r (.faddr 7 (.t 27)))⟩,
     .op ⟨(some 185), (some (183, false)), (.r (.load false 1 (.t 184)))⟩,
     .op ⟨(some 186), (some (183, false)), (.r (.bin .neq (.t 185) (.c (.int .i64 (.ofNat 9)))))⟩,
     .op ⟨(some 187), none, (.r (.pick (.t 183) (.c (.bool true)) (.t 186)))⟩])
   (.cond (.t 187)
    (.seq (.region [.op ⟨(some 10), none, (.r (.mv (.c (.bool false))))⟩])
    .ret)
    .skip))))
  (.region [.op ⟨(some 188), none, (.r (.bin .add (.t 171) (.c (.int .i64 (.ofNat 1)))))⟩,
    .op ⟨(some 171), none, (.r (.mv (.t 188)))⟩]))))
/-- depot/depotlaw21.TaskFails -/
def pf_depotlaw21_TaskFails : PF := { ntmps := 211, results := [.tmp 10], body :=
  (.seq (.region [.op ⟨(some 10), none, (.r (.mv (.c (.bool false))))⟩])
  (.seq (.region [.op ⟨(some 28), none, (.r (.mv (.t 0)))⟩,
    .op ⟨(some 29), none, (.e (.call n_depotbook_Within [(.t 28), (.c (.int .i64 (.ofNat 1))), (.c (.int .i64 (.ofNat 4)))]))⟩,
    .op ⟨(some 30), none, (.r (.mv (.t 1)))⟩,
    .op ⟨(some 31), none, (.e (.call n_depotbook_Within [(.t 30), (.c (.int .i64 (.ofNat 0))), (.c (.int .i64 (.ofNat 3)))]))⟩,
    .op ⟨(some 11), none, (.r (.mv (.t 29)))⟩,
    .op ⟨(some 12), none, (.r (.mv (.t 31)))⟩])
  (.seq (.region [.op ⟨(some 32), none, (.r (.mv (.t 11)))⟩,
    .op ⟨(some 33), none, (.r (.mv (.t 12)))⟩,
    .op ⟨(some 34), none, (.r (.mv (.t 11)))⟩,
    .op ⟨(some 35), none, (.r (.mv (.t 12)))⟩,
    .op ⟨(some 36), none, (.r (.bin .add (.t 34) (.t 35)))⟩,
    .op ⟨(some 37), none, (.r (.build [(.int .i64 (.ofNat 0)), (.int .i64 (.ofNat 0)), (.int .i64 (.ofNat 0)), (.int .i64 (.ofNat 0)), (.int .i64 (.ofNat 0)), (.int .i64 (.ofNat 0))] [(0, 1, (.t 32)), (1, 1, (.t 33)), (3, 1, (.t 36)), (4, 1, (.c (.int .i64 (.ofNat 4)))), (5, 1, (.c (.int .i64 (.ofNat 1024))))]))⟩,
    .op ⟨(some 13), none, (.n (.new 0 [(.int .i64 (.ofNat 0)), (.int .i64 (.ofNat 0)), (.int .i64 (.ofNat 0)), (.int .i64 (.ofNat 0)), (.int .i64 (.ofNat 0)), (.int .i64 (.ofNat 0))]))⟩,
    .op ⟨none, none, (.e (.store 6 (.t 13) (.t 37)))⟩])
  (.seq (.seq (.region [.op ⟨(some 38), none, (.r (.mv (.t 2)))⟩,
    .op ⟨(some 39), none, (.e (.call n_words_Key [(.t 38)]))⟩,
    .op ⟨(some 40), none, (.r (.un .not (.t 39)))⟩,
    .op ⟨(some 41), none, (.r (.mv (.t 40)))⟩,
    .op ⟨(some 42), (some (41, false)), (.r (.mv (.t 3)))⟩,
    .op ⟨(some 43), (some (41, false)), (.r (.lens (.t 42)))⟩,
    .op ⟨(some 44), (some (41, false)), (.r (.bin .gtr (.t 43) (.c (.int .i64 (.ofNat 300)))))⟩,
    .op ⟨(some 45), none, (.r (.pick (.t 41) (.c (.bool true)) (.t 44)))⟩])
  (.cond (.t 45)
   (.seq (.region [.op ⟨(some 46), none, (.e (.call n_depotlaw21_TaskRuns []))⟩,
     .op ⟨(some 10), none, (.r (.mv (.t 46)))⟩])
   .ret)
   .skip))
  (.seq (.region [.op ⟨(some 48), none, (.r (.load true 6 (.t 13)))⟩,
    .op ⟨(some 49), none, (.r (.mv (.t 2)))⟩,
    .op ⟨(some 50), none, (.r (.mv (.t 2)))⟩,
    .op ⟨(some 51), none, (.n (.bslice 0 1 1 [(.str [])] [(0, 1, (.t 50))]))⟩,
    .op ⟨(some 52), none, (.r (.mv (.t 3)))⟩,
    .op ⟨(some 53), none, (.r (.build [(.int .i64 (.ofNat 0)), .nils, (.int .i64 (.ofNat 0)), (.int .i64 (.ofNat 0)), (.int .i64 (.ofNat 0)), (.int .i64 (.ofNat 0)), (.int .u64 (.ofNat 0)), (.bool false), (.str [])] [(0, 1, (.c (.int .i64 (.ofNat 3)))), (1, 1, (.t 51)), (8, 1, (.t 52))]))⟩,
    .op ⟨(some 54), none, (.e (.call n_task_New [(.t 48), (.t 49), (.t 53), (.c (.int .i64 (.negSucc 0))), (.c (.int .i64 (.ofNat 9)))]))⟩,
    .op ⟨(some 47), none, (.r (.mv (.t 54)))⟩,
    .op ⟨(some 55), none, (.r (.ext 0 (.t 47)))⟩,
    .op ⟨(some 56), none, (.r (.ext 1 (.t 47)))⟩,
    .op ⟨(some 14), none, (.r (.mv (.t 55)))⟩,
    .op ⟨(some 15), none, (.r (.mv (.t 56)))⟩])
  (.seq (.seq (.region [.op ⟨(some 57), none, (.r (.mv (.t 14)))⟩,
    .op ⟨(some 58), none, (.r (.eqc false (.t 57) (.c .nilp)))⟩,
    .op ⟨(some 59), none, (.r (.mv (.t 58)))⟩,
    .op ⟨(some 60), (some (59, false)), (.r (.mv (.t 15)))⟩,
    .op ⟨(some 61), (some (59, false)), (.r (.bin .neq (.t 60) (.c (.int .i64 (.ofNat 0)))))⟩,
    .op ⟨(some 62), none, (.r (.pick (.t 59) (.c (.bool true)) (.t 61)))⟩])
  (.cond (.t 62)
   (.seq (.region [.op ⟨(some 10), none, (.r (.mv (.c (.bool false))))⟩])
   .ret)
   .skip))
  (.seq (.region [.op ⟨(some 16), none, (.n (.new 0 (rep 14 [(.int .i64 (.ofNat 0))])))⟩])
  (.seq (.seq (.region [.op ⟨(some 17), none, (.r (.mv (.c (.int .i64 (.ofNat 0)))))⟩])
  (.block 0 (.loop l0_depotlaw21_TaskFails)))
  (.seq (.region [.op ⟨(some 73), none, (.r (.mv (.t 14)))⟩,
    .op ⟨(some 74), none, (.r (.load true 14 (.t 16)))⟩,
    .op ⟨(some 75), none, (.e (.call n_task_Task_Start [(.t 73), (.t 74)]))⟩])
  (.seq (.seq (.region [.op ⟨(some 76), none, (.r (.mv (.t 14)))⟩,
    .op ⟨(some 77), none, (.e (.call n_task_Task_Take [(.t 76)]))⟩,
    .op ⟨(some 78), none, (.r (.lensl (.t 77)))⟩,
    .op ⟨(some 79), none, (.r (.mv (.c (.int .i64 (.ofNat 0)))))⟩])
  (.block 2 (.loop l1_depotlaw21_TaskFails)))
  (.seq (.region [.op ⟨(some 90), none, (.r (.mv (.t 14)))⟩,
    .op ⟨(some 91), none, (.e (.call n_task_Task_Take [(.t 90)]))⟩,
    .op ⟨(some 20), none, (.r (.mv (.t 91)))⟩])
  (.seq (.seq (.region [.op ⟨(some 92), none, (.r (.mv (.t 20)))⟩,
    .op ⟨(some 93), none, (.r (.lensl (.t 92)))⟩,
    .op ⟨(some 94), none, (.r (.mv (.t 11)))⟩,
    .op ⟨(some 95), none, (.r (.mv (.t 12)))⟩,
    .op ⟨(some 96), none, (.r (.bin .add (.t 94) (.t 95)))⟩,
    .op ⟨(some 97), none, (.r (.bin .neq (.t 93) (.t 96)))⟩,
    .op ⟨(some 98), none, (.r (.mv (.t 97)))⟩,
    .op ⟨(some 99), (some (98, false)), (.r (.mv (.t 14)))⟩,
    .op ⟨(some 100), (some (98, false)), (.e (.call n_task_Task_Phase [(.t 99)]))⟩,
    .op ⟨(some 101), (some (98, false)), (.r (.bin .neq (.t 100) (.c (.int .i64 (.ofNat 3)))))⟩,
    .op ⟨(some 102), none, (.r (.pick (.t 98) (.c (.bool true)) (.t 101)))⟩])
  (.cond (.t 102)
   (.seq (.region [.op ⟨(some 10), none, (.r (.mv (.c (.bool false))))⟩])
   .ret)
   .skip))
  (.seq (.region [.op ⟨(some 103), none, (.r (.mv (.t 4)))⟩,
    .op ⟨(some 104), none, (.r (.mv (.t 11)))⟩,
    .op ⟨(some 105), none, (.r (.mv (.t 12)))⟩,
    .op ⟨(some 106), none, (.r (.bin .add (.t 104) (.t 105)))⟩,
    .op ⟨(some 107), none, (.e (.call n_depotbook_Within [(.t 103), (.c (.int .i64 (.ofNat 0))), (.t 106)]))⟩,
    .op ⟨(some 21), none, (.r (.mv (.t 107)))⟩])
  (.seq (.seq (.region [.op ⟨(some 22), none, (.r (.mv (.c (.int .i64 (.ofNat 0)))))⟩])
  (.block 4 (.loop l2_depotlaw21_TaskFails)))
  (.seq (.region [.op ⟨(some 142), none, (.r (.mv (.t 14)))⟩,
    .op ⟨(some 143), none, (.e (.call n_task_Task_Take [(.t 142)]))⟩,
    .op ⟨(some 23), none, (.r (.mv (.t 143)))⟩])
  (.seq (.region [.op ⟨(some 145), none, (.r (.mv (.t 14)))⟩,
    .op ⟨(some 146), none, (.e (.call n_task_Task_Answer [(.t 145)]))⟩,
    .op ⟨(some 144), none, (.r (.mv (.t 146)))⟩,
    .op ⟨(some 147), none, (.r (.ext 0 (.t 144)))⟩,
    .op ⟨(some 148), none, (.r (.ext 1 (.t 144)))⟩,
    .op ⟨(some 24), none, (.n (.new 0 [(.int .i64 (.ofNat 0)), .nils, (.bool false), (.int .u64 (.ofNat 0)), (.str []), (.int .i64 (.ofNat 0)), (.int .i64 (.ofNat 0)), (.int .i64 (.ofNat 0)), (.int .i64 (.ofNat 0))]))⟩,
    .op ⟨none, none, (.e (.store 9 (.t 24) (.t 147)))⟩,
    .op ⟨(some 25), none, (.r (.mv (.t 148)))⟩])
  (.seq (.seq (.region [.op ⟨(some 149), none, (.r (.mv (.t 21)))⟩,
    .op ⟨(some 150), none, (.r (.mv (.t 11)))⟩,
    .op ⟨(some 151), none, (.r (.bin .geq (.t 149) (.t 150)))⟩])
  (.cond (.t 151)
   (.seq (.region [.op ⟨(some 152), none, (.r (.mv (.t 25)))⟩,
     .op ⟨(some 153), none, (.r (.un .not (.t 152)))⟩,
     .op ⟨(some 154), none, (.r (.mv (.t 153)))⟩,
     .op ⟨(some 155), (some (154, true)), (.r (.mv (.t 14)))⟩,
     .op ⟨(some 156), (some (154, true)), (.e (.call n_task_Task_Phase [(.t 155)]))⟩,
     .op ⟨(some 157), (some (154, true)), (.r (.bin .eql (.t 156) (.c (.int .i64 (.ofNat 4)))))⟩,
     .op ⟨(some 158), none, (.r (.pick (.t 154) (.t 157) (.c (.bool false))))⟩,
     .op ⟨(some 159), none, (.r (.mv (.t 158)))⟩,
     .op ⟨(some 160), (some (159, true)), (.r (.mv (.t 23)))⟩,
     .op ⟨(some 161), (some (159, true)), (.r (.lensl (.t 160)))⟩,
     .op ⟨(some 162), (some (159, true)), (.r (.mv (.t 12)))⟩,
     .op ⟨(some 163), (some (159, true)), (.r (.bin .add (.t 162) (.c (.int .i64 (.ofNat 1)))))⟩,
     .op ⟨(some 164), (some (159, true)), (.r (.bin .eql (.t 161) (.t 163)))⟩,
     .op ⟨(some 165), none, (.r (.pick (.t 159) (.t 164) (.c (.bool false))))⟩,
     .op ⟨(some 166), none, (.r (.mv (.t 165)))⟩,
     .op ⟨(some 167), (some (166, true)), (.e (.call n_depotlaw21_TaskRuns []))⟩,
     .op ⟨(some 168), none, (.r (.pick (.t 166) (.t 167) (.c (.bool false))))⟩,
     .op ⟨(some 10), none, (.r (.mv (.t 168)))⟩])
   .ret)
   .skip))
  (.seq (.seq (.region [.op ⟨(some 169), none, (.r (.mv (.t 23)))⟩,
    .op ⟨(some 170), none, (.r (.lensl (.t 169)))⟩,
    .op ⟨(some 171), none, (.r (.mv (.c (.int .i64 (.ofNat 0)))))⟩])
  (.block 6 (.loop l3_depotlaw21_TaskFails)))
  (.seq (.region [.op ⟨(some 189), none, (.r (.mv (.t 25)))⟩,
    .op ⟨(some 190), none, (.r (.mv (.t 189)))⟩,
    .op ⟨(some 191), (some (190, true)), (.r (.faddr 0 (.t 24)))⟩,
    .op ⟨(some 192), (some (190, true)), (.r (.load false 1 (.t 191)))⟩,
    .op ⟨(some 193), (some (190, true)), (.r (.bin .eql (.t 192) (.c (.int .i64 (.ofNat 14)))))⟩,
    .op ⟨(some 194), none, (.r (.pick (.t 190) (.t 193) (.c (.bool false))))⟩,
    .op ⟨(some 195), none, (.r (.mv (.t 194)))⟩,
    .op ⟨(some 196), (some (195, true)), (.r (.mv (.t 14)))⟩,
    .op ⟨(some 197), (some (195, true)), (.e (.call n_task_Task_Phase [(.t 196)]))⟩,
    .op ⟨(some 198), (some (195, true)), (.r (.bin .eql (.t 197) (.c (.int .i64 (.ofNat 8)))))⟩,
    .op ⟨(some 199), none, (.r (.pick (.t 195) (.t 198) (.c (.bool false))))⟩,
    .op ⟨(some 200), none, (.r (.mv (.t 199)))⟩,
    .op ⟨(some 201), (some (200, true)), (.r (.mv (.t 23)))⟩,
    .op ⟨(some 202), (some (200, true)), (.r (.lensl (.t 201)))⟩,
    .op ⟨(some 203), (some (200, true)), (.r (.mv (.t 11)))⟩,
    .op ⟨(some 204), (some (200, true)), (.r (.mv (.t 12)))⟩,
    .op ⟨(some 205), (some (200, true)), (.r (.bin .add (.t 203) (.t 204)))⟩,
    .op ⟨(some 206), (some (200, true)), (.r (.bin .eql (.t 202) (.t 205)))⟩,
    .op ⟨(some 207), none, (.r (.pick (.t 200) (.t 206) (.c (.bool false))))⟩,
    .op ⟨(some 208), none, (.r (.mv (.t 207)))⟩,
    .op ⟨(some 209), (some (208, true)), (.e (.call n_depotlaw21_TaskRuns []))⟩,
    .op ⟨(some 210), none, (.r (.pick (.t 208) (.t 209) (.c (.bool false))))⟩,
    .op ⟨(some 10), none, (.r (.mv (.t 210)))⟩])
  .ret))))))))))))))))))) }
theorem tr_depotlaw21_TaskFails : trF cx Tryd.f5 = pf_depotlaw21_TaskFails := by kernel_rfl
/-- depot/task.New -/
def pf_task_New : PF := { ntmps := 74, results := [.tmp 10, .tmp 11], body :=
  (.seq (.region [.op ⟨(some 5), none, (.n (.box (.t 0)))⟩,
    .op ⟨(some 7), none, (.n (.box (.t 2)))⟩,
    .op ⟨(some 10), none, (.r (.mv (.c .nilp)))⟩,
    .op ⟨(some 11), none, (.r (.mv (.c (.int .i64 (.ofNat 0)))))⟩])
  (.seq (.seq (.region [.op ⟨(some 13), none, (.r (.load true 6 (.t 5)))⟩,
    .op ⟨(some 14), none, (.e (.call n_task_RightConfig [(.t 13)]))⟩,
    .op ⟨(some 15), none, (.r (.un .not (.t 14)))⟩,
    .op ⟨(some 16), none, (.r (.mv (.t 15)))⟩,
    .op ⟨(some 17), (some (16, false)), (.r (.mv (.t 1)))⟩,
    .op ⟨(some 18), (some (16, false)), (.e (.call n_words_Key [(.t 17)]))⟩,
    .op ⟨(some 19), (some (16, false)), (.r (.un .not (.t 18)))⟩,
    .op ⟨(some 20), none, (.r (.pick (.t 16) (.c (.bool true)) (.t 19)))⟩,
    .op ⟨(some 21), none, (.r (.mv (.t 20)))⟩,
    .op ⟨(some 22), (some (21, false)), (.r (.mv (.t 3)))⟩,
    .op ⟨(some 23), (some (21, false)), (.r (.faddr 3 (.t 5)))⟩,
    .op ⟨(some 24), (some (21, false)), (.r (.load false 1 (.t 23)))⟩,
    .op ⟨(some 25), (some (21, false)), (.r (.bin .sub (.t 24) (.c (.int .i64 (.ofNat 1)))))⟩,
    .op ⟨(some 26), (some (21, false)), (.e (.call n_task_within [(.t 22), (.c (.int .i64 (.negSucc 0))), (.t 25)]))⟩,
    .op ⟨(some 27), (some (21, false)), (.r (.un .not (.t 26)))⟩,
    .op ⟨(some 28), none, (.r (.pick (.t 21) (.c (.bool true)) (.t 27)))⟩,
    .op ⟨(some 29), none, (.r (.mv (.t 28)))⟩,
    .op ⟨(some 30), (some (29, false)), (.r (.mv (.t 4)))⟩,
    .op ⟨(some 31), (some (29, false)), (.e (.call n_task_within [(.t 30), (.c (.int .i64 (.ofNat 1))), (.c (.int .i64 (.ofNat 1099511627776)))]))⟩,
    .op ⟨(some 32), (some (29, false)), (.r (.un .not (.t 31)))⟩,
    .op ⟨(some 33), none, (.r (.pick (.t 29) (.c (.bool true)) (.t 32)))⟩])
  (.cond (.t 33)
   (.seq (.region [.op ⟨(some 10), none, (.r (.mv (.c .nilp)))⟩,
     .op ⟨(some 11), none, (.r (.mv (.c (.int .i64 (.ofNat 1)))))⟩])
   .ret)
   .skip))
  (.seq (.region [.op ⟨(some 34), none, (.r (.load true 6 (.t 5)))⟩,
    .op ⟨(some 35), none, (.r (.mv (.t 1)))⟩,
    .op ⟨(some 36), none, (.r (.load true 9 (.t 7)))⟩,
    .op ⟨(some 37), none, (.r (.mv (.t 3)))⟩,
    .op ⟨(some 38), none, (.r (.mv (.t 4)))⟩,
    .op ⟨(some 39), none, (.r (.build ([(.int .i64 (.ofNat 0)), (.int .i64 (.ofNat 0)), (.int .i64 (.ofNat 0)), (.int .i64 (.ofNat 0)), (.int .i64 (.ofNat 0)), (.int .i64 (.ofNat 0))] ++ ([.nilp] ++ ([(.str [])] ++ ([(.int .i64 (.ofNat 0))] ++ ([.nils] ++ ([(.int .i64 (.ofNat 0)), (.int .i64 (.ofNat 0)), (.int .i64 (.ofNat 0)), (.int .i64 (.ofNat 0))] ++ ([(.int .u64 (.ofNat 0))] ++ ([(.bool false)] ++ ([(.str [])] ++ ([(.int .i64 (.ofNat 0)), (.int .i64 (.ofNat 0))] ++ ([.nils, .nils] ++ (rep 15 [(.int .i64 (.ofNat 0))] ++ ([.nils] ++ ([(.int .i64 (.ofNat 0)), (.int .i64 (.ofNat 0)), (.int .i64 (.ofNat 0)), (.int .i64 (.ofNat 0)), (.int .i64 (.ofNat 0)), (.int .i64 (.ofNat 0))] ++ ([(.bool false)] ++ ([.nilp] ++ ([(.str [])] ++ ([(.int .i64 (.ofNat 0)), (.int .i64 (.ofNat 0)), (.int .i64 (.ofNat 0)), (.int .i64 (.ofNat 0)), (.int .i64 (.ofNat 0))] ++ ([.nils] ++ ([(.int .i64 (.ofNat 0))] ++ ([.nils] ++ ([(.bool false)] ++ ([(.int .u64 (.ofNat 0))] ++ ([(.str [])] ++ ([(.int .i64 (.ofNat 0)), (.int .i64 (.ofNat 0)), (.int .i64 (.ofNat 0)), (.int .i64 (.ofNat 0)), (.int .i64 (.ofNat 0))] ++ ([.nils] ++ ([(.bool false)] ++ ([(.int .u64 (.ofNat 0))] ++ ([(.str [])] ++ ([(.int .i64 (.ofNat 0)), (.int .i64 (.ofNat 0)), (.int .i64 (.ofNat 0)), (.int .i64 (.ofNat 0))] ++ ([(.bool false)]))))))))))))))))))))))))))))))) [(0, 6, (.t 34)), (7, 1, (.t 35)), (8, 9, (.t 36)), (17, 1, (.t 37)), (18, 1, (.t 38))]))⟩,
    .op ⟨(some 40), none, (.n (.box (.t 39)))⟩,
    .op ⟨(some 12), none, (.r (.mv (.t 40)))⟩])
  (.seq (.region [.op ⟨(some 42), none, (.r (.mv (.t 12)))⟩,
    .op ⟨(some 43), none, (.r (.faddr 0 (.t 5)))⟩,
    .op ⟨(some 44), none, (.r (.load false 1 (.t 43)))⟩,
    .op ⟨(some 45), none, (.r (.faddr 1 (.t 5)))⟩,
    .op ⟨(some 46), none, (.r (.load false 1 (.t 45)))⟩,
    .op ⟨(some 47), none, (.e (.call n_rs_New [(.t 44), (.t 46)]))⟩,
    .op ⟨(some 41), none, (.r (.mv (.t 47)))⟩,
    .op ⟨(some 48), none, (.r (.ext 0 (.t 41)))⟩,
    .op ⟨(some 49), none, (.r (.ext 1 (.t 41)))⟩,
    .op ⟨(some 50), none, (.r (.nilck (.t 42)))⟩,
    .op ⟨(some 51), none, (.r (.faddr 6 (.t 50)))⟩,
    .op ⟨none, none, (.e (.store 1 (.t 51) (.t 48)))⟩])
  (.seq (.region [.op ⟨(some 52), none, (.r (.mv (.t 12)))⟩,
    .op ⟨(some 53), none, (.r (.mv (.t 1)))⟩,
    .op ⟨(some 54), none, (.r (.faddr 0 (.t 5)))⟩,
    .op ⟨(some 55), none, (.r (.load false 1 (.t 54)))⟩,
    .op ⟨(some 56), none, (.r (.faddr 1 (.t 5)))⟩,
    .op ⟨(some 57), none, (.r (.load false 1 (.t 56)))⟩,
    .op ⟨(some 58), none, (.r (.bin .add (.t 55) (.t 57)))⟩,
    .op ⟨(some 59), none, (.r (.faddr 3 (.t 5)))⟩,
    .op ⟨(some 60), none, (.r (.load false 1 (.t 59)))⟩,
    .op ⟨(some 61), none, (.e (.call n_place_Stripe [(.t 53), (.t 58), (.t 60)]))⟩,
    .op ⟨(some 62), none, (.r (.nilck (.t 52)))⟩,
    .op ⟨(some 63), none, (.r (.faddr 19 (.t 62)))⟩,
    .op ⟨none, none, (.e (.store 1 (.t 63) (.t 61)))⟩])
  (.seq (.region [.op ⟨(some 64), none, (.r (.mv (.t 12)))⟩,
    .op ⟨(some 65), none, (.r (.mv (.t 1)))⟩,
    .op ⟨(some 66), none, (.r (.faddr 1 (.t 5)))⟩,
    .op ⟨(some 67), none, (.r (.load false 1 (.t 66)))⟩,
    .op ⟨(some 68), none, (.r (.faddr 3 (.t 5)))⟩,
    .op ⟨(some 69), none, (.r (.load false 1 (.t 68)))⟩,
    .op ⟨(some 70), none, (.e (.call n_place_Metas [(.t 65), (.t 67), (.t 69)]))⟩,
    .op ⟨(some 71), none, (.r (.nilck (.t 64)))⟩,
    .op ⟨(some 72), none, (.r (.faddr 20 (.t 71)))⟩,
    .op ⟨none, none, (.e (.store 1 (.t 72) (.t 70)))⟩])
  (.seq (.region [.op ⟨(some 73), none, (.r (.mv (.t 12)))⟩,
    .op ⟨(some 10), none, (.r (.mv (.t 73)))⟩,
    .op ⟨(some 11), none, (.r (.mv (.c (.int .i64 (.ofNat 0)))))⟩])
  .ret))))))) }
theorem tr_task_New : trF cx Tryd.f6 = pf_task_New := by kernel_rfl
/-- depot/depotlaw21.one -/
def pf_depotlaw21_one : PF := { ntmps := 2, results := [.cell 0 true 6], body :=
  (.seq (.region [.op ⟨(some 0), none, (.n (.new 0 [(.int .i64 (.ofNat 0)), (.int .i64 (.ofNat 0)), (.int .i64 (.ofNat 0)), (.int .i64 (.ofNat 0)), (.int .i64 (.ofNat 0)), (.int .i64 (.ofNat 0))]))⟩])
  (.seq (.region [.op ⟨(some 1), none, (.r (.build [(.int .i64 (.ofNat 0)), (.int .i64 (.ofNat 0)), (.int .i64 (.ofNat 0)), (.int .i64 (.ofNat 0)), (.int .i64 (.ofNat 0)), (.int .i64 (.ofNat 0))] [(0, 1, (.c (.int .i64 (.ofNat 1)))), (3, 1, (.c (.int .i64 (.ofNat 1)))), (4, 1, (.c (.int .i64 (.ofNat 4)))), (5, 1, (.c (.int .i64 (.ofNat 1024))))]))⟩,
    .op ⟨none, none, (.e (.store 6 (.t 0) (.t 1)))⟩])
  .ret)) }
theorem tr_depotlaw21_one : trF cx Tryd.f7 = pf_depotlaw21_one := by kernel_rfl
def l0_task_Task_Start : PC :=
  (.seq (.region [.op ⟨(some 14), none, (.r (.bin .lss (.t 13) (.t 12)))⟩])
  (.seq (.cond (.t 14)
   .skip
   (.exit 0))
  (.seq (.block 1 (.seq (.region [.op ⟨(some 15), none, (.r (.iasl 1 (.t 11) (.t 13)))⟩,
     .op ⟨(some 16), none, (.r (.load false 1 (.t 15)))⟩,
     .op ⟨(some 5), none, (.r (.mv (.t 16)))⟩])
   (.seq (.region [.op ⟨(some 17), none, (.r (.mv (.t 5)))⟩,
     .op ⟨(some 18), none, (.r (.faddr 0 (.t 3)))⟩,
     .op ⟨(some 19), none, (.r (.iaarr 12 1 (.t 18) (.t 17)))⟩,
     .op ⟨(some 20), none, (.r (.load false 1 (.t 19)))⟩,
     .op ⟨(some 21), none, (.r (.bin .eql (.t 20) (.c (.int .i64 (.ofNat 2)))))⟩])
   (.cond (.t 21)
    (.seq (.region [.op ⟨(some 22), none, (.r (.mv (.t 0)))⟩,
      .op ⟨(some 23), none, (.r (.mv (.t 5)))⟩,
      .op ⟨(some 24), none, (.r (.nilck (.t 22)))⟩,
      .op ⟨(some 25), none, (.r (.faddr 24 (.t 24)))⟩,
      .op ⟨(some 26), none, (.r (.iaarr 12 1 (.t 25) (.t 23)))⟩,
      .op ⟨none, none, (.e (.store 1 (.t 26) (.c (.int .i64 (.ofNat 1)))))⟩])
    (.region [.op ⟨(some 27), none, (.r (.mv (.t 0)))⟩,
      .op ⟨(some 28), none, (.r (.mv (.t 5)))⟩,
      .op ⟨(some 29), none, (.r (.build [(.int .i64 (.ofNat 0)), (.int .i64 (.ofNat 0)), (.int .i64 (.ofNat 0)), (.int .i64 (.ofNat 0)), (.int .i64 (.ofNat 0)), (.int .i64 (.ofNat 0)), (.str []), (.int .i64 (.ofNat 0)), (.str [])] [(0, 1, (.c (.int .i64 (.ofNat 2)))), (5, 1, (.c (.int .i64 (.ofNat 1))))]))⟩,
      .op ⟨(some 30), none, (.e (.call n_task_Task_ask [(.t 27), (.t 28), (.t 29)]))⟩]))
    .skip))))
  (.region [.op ⟨(some 31), none, (.r (.bin .add (.t 13) (.c (.int .i64 (.ofNat 1)))))⟩,
    .op ⟨(some 13), none, (.r (.mv (.t 31)))⟩]))))
/-- (*depot/task.Task).Start -/
def pf_task_Task_Start : PF := { ntmps := 35, results := [], body :=
  (.seq (.region [.op ⟨(some 3), none, (.n (.box (.t 1)))⟩])
  (.seq (.region [.op ⟨(some 6), none, (.r (.mv (.t 0)))⟩,
    .op ⟨(some 7), none, (.e (.call n_task_Task_enter [(.t 6), (.c (.int .i64 (.ofNat 1)))]))⟩])
  (.seq (.seq (.region [.op ⟨(some 8), none, (.r (.mv (.t 0)))⟩,
    .op ⟨(some 9), none, (.r (.nilck (.t 8)))⟩,
    .op ⟨(some 10), none, (.r (.faddr 20 (.t 9)))⟩,
    .op ⟨(some 11), none, (.r (.load false 1 (.t 10)))⟩,
    .op ⟨(some 12), none, (.r (.lensl (.t 11)))⟩,
    .op ⟨(some 13), none, (.r (.mv (.c (.int .i64 (.ofNat 0)))))⟩])
  (.block 0 (.loop l0_task_Task_Start)))
  (.region [.op ⟨(some 32), none, (.r (.mv (.t 0)))⟩,
    .op ⟨(some 33), none, (.r (.load true 14 (.t 3)))⟩,
    .op ⟨(some 34), none, (.e (.call n_task_Task_on [(.t 32), (.t 33)]))⟩])))) }
theorem tr_task_Task_Start : trF cx Tryd.f8 = pf_task_Task_Start := by kernel_rfl
/-- (*depot/task.Task).Take -/
def pf_task_Task_Take : PF := { ntmps := 12, results := [.tmp 2], body :=
  (.seq (.region [.op ⟨(some 2), none, (.r (.mv (.c .nils)))⟩])
  (.seq (.region [.op ⟨(some 4), none, (.r (.mv (.t 0)))⟩,
    .op ⟨(some 5), none, (.r (.nilck (.t 4)))⟩,
    .op ⟨(some 6), none, (.r (.faddr 36 (.t 5)))⟩,
    .op ⟨(some 7), none, (.r (.load false 1 (.t 6)))⟩,
    .op ⟨(some 3), none, (.r (.mv (.t 7)))⟩])
  (.seq (.region [.op ⟨(some 8), none, (.r (.mv (.t 0)))⟩,
    .op ⟨(some 9), none, (.r (.nilck (.t 8)))⟩,
    .op ⟨(some 10), none, (.r (.faddr 36 (.t 9)))⟩,
    .op ⟨none, none, (.e (.store 1 (.t 10) (.c .nils)))⟩])
  (.seq (.region [.op ⟨(some 11), none, (.r (.mv (.t 3)))⟩,
    .op ⟨(some 2), none, (.r (.mv (.t 11)))⟩])
  .ret)))) }
theorem tr_task_Task_Take : trF cx Tryd.f9 = pf_task_Task_Take := by kernel_rfl
/-- (*depot/task.Task).Got -/
def pf_task_Task_Got : PF := { ntmps := 154, results := [], body :=
  (.seq (.region [.op ⟨(some 7), none, (.n (.box (.t 1)))⟩,
    .op ⟨(some 9), none, (.n (.box (.t 3)))⟩,
    .op ⟨(some 10), none, (.n (.box (.t 4)))⟩])
  (.seq (.seq (.region [.op ⟨(some 15), none, (.r (.mv (.t 2)))⟩,
    .op ⟨(some 16), none, (.r (.mv (.t 0)))⟩,
    .op ⟨(some 17), none, (.r (.nilck (.t 16)))⟩,
    .op ⟨(some 18), none, (.r (.faddr 21 (.t 17)))⟩,
    .op ⟨(some 19), none, (.r (.load false 1 (.t 18)))⟩,
    .op ⟨(some 20), none, (.r (.bin .neq (.t 15) (.t 19)))⟩,
    .op ⟨(some 21), none, (.r (.mv (.t 20)))⟩,
    .op ⟨(some 22), (some (21, false)), (.r (.mv (.t 0)))⟩,
    .op ⟨(some 23), (some (21, false)), (.r (.nilck (.t 22)))⟩,
    .op ⟨(some 24), (some (21, false)), (.r (.faddr 22 (.t 23)))⟩,
    .op ⟨(some 25), (some (21, false)), (.r (.load false 1 (.t 24)))⟩,
    .op ⟨(some 26), (some (21, false)), (.r (.bin .eql (.t 25) (.c (.int .i64 (.ofNat 0)))))⟩,
    .op ⟨(some 27), none, (.r (.pick (.t 21) (.c (.bool true)) (.t 26)))⟩])
  (.cond (.t 27)
   .ret
   .skip))
  (.seq (.region [.op ⟨(some 28), none, (.r (.mv (.t 0)))⟩,
    .op ⟨(some 29), none, (.r (.nilck (.t 28)))⟩,
    .op ⟨(some 30), none, (.r (.faddr 22 (.t 29)))⟩,
    .op ⟨(some 31), none, (.r (.load false 1 (.t 30)))⟩,
    .op ⟨(some 32), none, (.r (.bin .sub (.t 31) (.c (.int .i64 (.ofNat 1)))))⟩,
    .op ⟨(some 33), none, (.r (.nilck (.t 28)))⟩,
    .op ⟨(some 34), none, (.r (.faddr 22 (.t 33)))⟩,
    .op ⟨none, none, (.e (.store 1 (.t 34) (.t 32)))⟩])
  (.seq (.region [.op ⟨(some 35), none, (.r (.mv (.t 5)))⟩,
    .op ⟨(some 36), none, (.r (.mv (.t 35)))⟩,
    .op ⟨(some 37), (some (36, true)), (.r (.faddr 0 (.t 10)))⟩,
    .op ⟨(some 38), (some (36, true)), (.r (.load false 1 (.t 37)))⟩,
    .op ⟨(some 39), (some (36, true)), (.r (.bin .eql (.t 38) (.c (.int .i64 (.ofNat 6)))))⟩,
    .op ⟨(some 40), none, (.r (.pick (.t 36) (.t 39) (.c (.bool false))))⟩,
    .op ⟨(some 5), none, (.r (.mv (.t 40)))⟩])
  (.seq (.seq (.region [.op ⟨(some 41), none, (.r (.mv (.t 0)))⟩,
    .op ⟨(some 42), none, (.r (.nilck (.t 41)))⟩,
    .op ⟨(some 43), none, (.r (.faddr 21 (.t 42)))⟩,
    .op ⟨(some 44), none, (.r (.load false 1 (.t 43)))⟩])
  (.block 0 (.seq (.region [.op ⟨(some 46), none, (.r (.bin .eql (.t 44) (.c (.int .i64 (.ofNat 1)))))⟩,
     .op ⟨(some 45), none, (.r (.mv (.t 46)))⟩])
   (.cond (.t 45)
    (.seq (.region [.op ⟨(some 48), none, (.r (.faddr 8 (.t 10)))⟩,
      .op ⟨(some 49), none, (.r (.load false 1 (.t 48)))⟩,
      .op ⟨(some 50), none, (.e (.call n_task_GetRecord [(.t 49)]))⟩,
      .op ⟨(some 47), none, (.r (.mv (.t 50)))⟩,
      .op ⟨(some 51), none, (.r (.ext 0 (.t 47)))⟩,
      .op ⟨(some 52), none, (.r (.ext 1 (.t 47)))⟩,
      .op ⟨(some 12), none, (.n (.new 0 [(.int .i64 (.ofNat 0)), (.int .i64 (.ofNat 0)), (.int .i64 (.ofNat 0)), (.int .i64 (.ofNat 0)), (.int .i64 (.ofNat 0))]))⟩,
      .op ⟨none, none, (.e (.store 5 (.t 12) (.t 51)))⟩,
      .op ⟨(some 13), none, (.r (.mv (.t 52)))⟩])
    (.seq (.region [.op ⟨(some 53), none, (.r (.mv (.t 5)))⟩,
      .op ⟨(some 54), none, (.r (.mv (.t 53)))⟩,
      .op ⟨(some 55), (some (54, true)), (.r (.mv (.t 13)))⟩,
      .op ⟨(some 56), none, (.r (.pick (.t 54) (.t 55) (.c (.bool false))))⟩,
      .op ⟨(some 57), none, (.r (.mv (.t 56)))⟩,
      .op ⟨(some 58), (some (57, true)), (.r (.faddr 7 (.t 10)))⟩,
      .op ⟨(some 59), (some (57, true)), (.r (.load false 1 (.t 58)))⟩,
      .op ⟨(some 60), (some (57, true)), (.r (.mv (.t 0)))⟩,
      .op ⟨(some 61), (some (57, true)), (.r (.nilck (.t 60)))⟩,
      .op ⟨(some 62), (some (57, true)), (.r (.faddr 42 (.t 61)))⟩,
      .op ⟨(some 63), (some (57, true)), (.r (.load false 1 (.t 62)))⟩,
      .op ⟨(some 64), (some (57, true)), (.r (.bin .gtr (.t 59) (.t 63)))⟩,
      .op ⟨(some 65), none, (.r (.pick (.t 57) (.t 64) (.c (.bool false))))⟩])
    (.cond (.t 65)
     (.region [.op ⟨(some 66), none, (.r (.mv (.t 0)))⟩,
       .op ⟨(some 67), none, (.r (.mv (.t 0)))⟩,
       .op ⟨(some 68), none, (.r (.load true 5 (.t 12)))⟩,
       .op ⟨(some 69), none, (.r (.faddr 7 (.t 10)))⟩,
       .op ⟨(some 70), none, (.r (.load false 1 (.t 69)))⟩,
       .op ⟨(some 71), none, (.r (.nilck (.t 66)))⟩,
       .op ⟨(some 72), none, (.r (.faddr 37 (.t 71)))⟩,
       .op ⟨none, none, (.e (.store 5 (.t 72) (.t 68)))⟩,
       .again ⟨(some 70), none, (.r (.load false 1 (.t 69)))⟩,
       .op ⟨(some 73), none, (.r (.nilck (.t 67)))⟩,
       .op ⟨(some 74), none, (.r (.faddr 42 (.t 73)))⟩,
       .op ⟨none, none, (.e (.store 1 (.t 74) (.t 70)))⟩])
     .skip)))
    (.seq (.region [.op ⟨(some 76), none, (.r (.bin .eql (.t 44) (.c (.int .i64 (.ofNat 2)))))⟩,
      .op ⟨(some 75), none, (.r (.mv (.t 76)))⟩])
    (.cond (.t 75)
     (.seq (.region [.op ⟨(some 77), none, (.r (.mv (.t 0)))⟩,
       .op ⟨(some 78), none, (.r (.nilck (.t 77)))⟩,
       .op ⟨(some 79), none, (.r (.faddr 7 (.t 78)))⟩,
       .op ⟨(some 80), none, (.r (.load false 1 (.t 79)))⟩,
       .op ⟨(some 81), none, (.r (.mv (.t 0)))⟩,
       .op ⟨(some 82), none, (.r (.nilck (.t 81)))⟩,
       .op ⟨(some 83), none, (.r (.faddr 19 (.t 82)))⟩,
       .op ⟨(some 84), none, (.r (.load false 1 (.t 83)))⟩,
       .op ⟨(some 85), none, (.r (.lensl (.t 84)))⟩,
       .op ⟨(some 86), none, (.r (.mv (.t 0)))⟩,
       .op ⟨(some 87), none, (.r (.nilck (.t 86)))⟩,
       .op ⟨(some 88), none, (.r (.faddr 0 (.t 87)))⟩,
       .op ⟨(some 89), none, (.r (.faddr 3 (.t 88)))⟩,
       .op ⟨(some 90), none, (.r (.load false 1 (.t 89)))⟩,
       .op ⟨(some 91), none, (.r (.faddr 1 (.t 9)))⟩,
       .op ⟨(some 92), none, (.r (.load false 1 (.t 91)))⟩,
       .op ⟨(some 93), none, (.e (.call n_place_Position [(.t 80), (.t 85), (.t 90), (.t 92)]))⟩,
       .op ⟨(some 14), none, (.r (.mv (.t 93)))⟩])
     (.seq (.region [.op ⟨(some 94), none, (.r (.mv (.t 0)))⟩,
       .op ⟨(some 95), none, (.r (.nilck (.t 94)))⟩,
       .op ⟨(some 96), none, (.r (.faddr 44 (.t 95)))⟩,
       .op ⟨(some 97), none, (.r (.load false 1 (.t 96)))⟩,
       .op ⟨(some 98), none, (.r (.mv (.t 14)))⟩,
       .op ⟨(some 99), none, (.r (.mv (.t 5)))⟩,
       .op ⟨(some 100), none, (.r (.mv (.t 99)))⟩,
       .op ⟨(some 101), (some (100, true)), (.r (.faddr 7 (.t 10)))⟩,
       .op ⟨(some 102), (some (100, true)), (.r (.load false 1 (.t 101)))⟩,
       .op ⟨(some 103), (some (100, true)), (.r (.mv (.t 0)))⟩,
       .op ⟨(some 104), (some (100, true)), (.r (.nilck (.t 103)))⟩,
       .op ⟨(some 105), (some (100, true)), (.r (.faddr 37 (.t 104)))⟩,
       .op ⟨(some 106), (some (100, true)), (.r (.faddr 0 (.t 105)))⟩,
       .op ⟨(some 107), (some (100, true)), (.r (.load false 1 (.t 106)))⟩,
       .op ⟨(some 108), (some (100, true)), (.r (.bin .eql (.t 102) (.t 107)))⟩,
       .op ⟨(some 109), none, (.r (.pick (.t 100) (.t 108) (.c (.bool false))))⟩,
       .op ⟨(some 110), none, (.r (.mv (.t 109)))⟩,
       .op ⟨(some 111), (some (110, true)), (.r (.faddr 8 (.t 10)))⟩,
       .op ⟨(some 112), (some (110, true)), (.r (.load false 1 (.t 111)))⟩,
       .op ⟨(some 113), (some (110, true)), (.r (.lens (.t 112)))⟩,
       .op ⟨(some 114), (some (110, true)), (.r (.mv (.t 0)))⟩,
       .op ⟨(some 115), (some (110, true)), (.r (.nilck (.t 114)))⟩,
       .op ⟨(some 116), (some (110, true)), (.r (.faddr 6 (.t 115)))⟩,
       .op ⟨(some 117), (some (110, true)), (.r (.load false 1 (.t 116)))⟩,
       .op ⟨(some 118), (some (110, true)), (.r (.mv (.t 0)))⟩,
       .op ⟨(some 119), (some (110, true)), (.r (.nilck (.t 118)))⟩,
       .op ⟨(some 120), (some (110, true)), (.r (.faddr 37 (.t 119)))⟩,
       .op ⟨(some 121), (some (110, true)), (.r (.faddr 4 (.t 120)))⟩,
       .op ⟨(some 122), (some (110, true)), (.r (.load false 1 (.t 121)))⟩,
       .op ⟨(some 126), none, (.r (.faddr 8 (.t 10)))⟩,
       .op ⟨(some 127), none, (.r (.load false 1 (.t 126)))⟩,
       .op ⟨(some 123), (some (110, true)), (.e (.call n_rs_Code_Size [(.t 117), (.t 122)]))⟩,
       .again ⟨(some 127), none, (.r (.load false 1 (.t 126)))⟩,
       .again ⟨(some 112), (some (110, true)), (.r (.load false 1 (.t 111)))⟩,
       .again ⟨(some 97), none, (.r (.load false 1 (.t 96)))⟩,
       .op ⟨(some 124), (some (110, true)), (.r (.bin .eql (.t 113) (.t 123)))⟩,
       .op ⟨(some 125), none, (.r (.pick (.t 110) (.t 124) (.c (.bool false))))⟩,
       .op ⟨(some 128), none, (.e (.call n_gather_Gather_Got [(.t 97), (.t 98), (.t 125), (.t 127)]))⟩])
     (.region [.op ⟨(some 129), none, (.r (.mv (.t 0)))⟩,
       .op ⟨(some 130), none, (.e (.call n_task_Task_more [(.t 129)]))⟩])))
     (.seq (.seq (.region [.op ⟨(some 132), none, (.r (.bin .eql (.t 44) (.c (.int .i64 (.ofNat 3)))))⟩,
       .op ⟨(some 131), none, (.r (.mv (.t 132)))⟩])
     (.cond (.t 131)
      .skip
      (.region [.op ⟨(some 133), none, (.r (.bin .eql (.t 44) (.c (.int .i64 (.ofNat 4)))))⟩,
        .op ⟨(some 131), none, (.r (.mv (.t 133)))⟩])))
     (.cond (.t 131)
      (.seq (.region [.op ⟨(some 134), none, (.r (.mv (.t 5)))⟩,
        .op ⟨(some 135), none, (.r (.mv (.t 134)))⟩,
        .op ⟨(some 136), (some (135, true)), (.r (.faddr 7 (.t 10)))⟩,
        .op ⟨(some 137), (some (135, true)), (.r (.load false 1 (.t 136)))⟩,
        .op ⟨(some 138), (some (135, true)), (.r (.mv (.t 0)))⟩,
        .op ⟨(some 139), (some (135, true)), (.r (.nilck (.t 138)))⟩,
        .op ⟨(some 140), (some (135, true)), (.r (.faddr 18 (.t 139)))⟩,
        .op ⟨(some 141), (some (135, true)), (.r (.load false 1 (.t 140)))⟩,
        .op ⟨(some 142), (some (135, true)), (.r (.bin .eql (.t 137) (.t 141)))⟩,
        .op ⟨(some 143), none, (.r (.pick (.t 135) (.t 142) (.c (.bool false))))⟩])
      (.cond (.t 143)
       (.region [.op ⟨(some 144), none, (.r (.mv (.t 0)))⟩,
         .op ⟨(some 145), none, (.r (.nilck (.t 144)))⟩,
         .op ⟨(some 146), none, (.r (.faddr 23 (.t 145)))⟩,
         .op ⟨(some 147), none, (.r (.load false 1 (.t 146)))⟩,
         .op ⟨(some 148), none, (.r (.bin .add (.t 147) (.c (.int .i64 (.ofNat 1)))))⟩,
         .op ⟨(some 149), none, (.r (.nilck (.t 144)))⟩,
         .op ⟨(some 150), none, (.r (.faddr 23 (.t 149)))⟩,
         .op ⟨none, none, (.e (.store 1 (.t 150) (.t 148)))⟩])
       .skip))
      .skip))))))))
  (.region [.op ⟨(some 151), none, (.r (.mv (.t 0)))⟩,
    .op ⟨(some 152), none, (.r (.load true 14 (.t 7)))⟩,
    .op ⟨(some 153), none, (.e (.call n_task_Task_on [(.t 151), (.t 152)]))⟩])))))) }
theorem tr_task_Task_Got : trF cx Tryd.f10 = pf_task_Task_Got := by kernel_rfl
/-- (*depot/task.Task).Phase -/
def pf_task_Task_Phase : PF := { ntmps := 7, results := [.tmp 2], body :=
  (.seq (.region [.op ⟨(some 2), none, (.r (.mv (.c (.int .i64 (.ofNat 0)))))⟩])
  (.seq (.region [.op ⟨(some 3), none, (.r (.mv (.t 0)))⟩,
    .op ⟨(some 4), none, (.r (.nilck (.t 3)))⟩,
    .op ⟨(some 5), none, (.r (.faddr 21 (.t 4)))⟩,
    .op ⟨(some 6), none, (.r (.load false 1 (.t 5)))⟩,
    .op ⟨(some 2), none, (.r (.mv (.t 6)))⟩])
  .ret)) }
theorem tr_task_Task_Phase : trF cx Tryd.f11 = pf_task_Task_Phase := by kernel_rfl
/-- depot/depotlaw21.done -/
def pf_depotlaw21_done : PF := { ntmps := 20, results := [.cell 6 true 9], body :=
  (.seq (.region [.op ⟨(some 3), none, (.n (.box (.t 0)))⟩,
    .op ⟨(some 6), none, (.n (.new 0 [(.int .i64 (.ofNat 0)), (.int .i64 (.ofNat 0)), (.int .i64 (.ofNat 0)), (.int .i64 (.ofNat 0)), (.int .i64 (.ofNat 0)), (.int .i64 (.ofNat 0)), (.str []), (.int .i64 (.ofNat 0)), (.str [])]))⟩])
  (.seq (.region [.op ⟨(some 7), none, (.r (.faddr 1 (.t 3)))⟩,
    .op ⟨(some 8), none, (.r (.load false 1 (.t 7)))⟩,
    .op ⟨(some 9), none, (.r (.faddr 3 (.t 3)))⟩,
    .op ⟨(some 10), none, (.r (.load false 1 (.t 9)))⟩,
    .op ⟨(some 11), none, (.r (.faddr 2 (.t 3)))⟩,
    .op ⟨(some 12), none, (.r (.load false 1 (.t 11)))⟩,
    .op ⟨(some 13), none, (.r (.faddr 5 (.t 3)))⟩,
    .op ⟨(some 14), none, (.r (.load false 1 (.t 13)))⟩,
    .op ⟨(some 15), none, (.r (.faddr 6 (.t 3)))⟩,
    .op ⟨(some 16), none, (.r (.load false 1 (.t 15)))⟩,
    .op ⟨(some 17), none, (.r (.mv (.t 1)))⟩,
    .op ⟨(some 18), none, (.r (.mv (.t 2)))⟩,
    .op ⟨(some 19), none, (.r (.build [(.int .i64 (.ofNat 0)), (.int .i64 (.ofNat 0)), (.int .i64 (.ofNat 0)), (.int .i64 (.ofNat 0)), (.int .i64 (.ofNat 0)), (.int .i64 (.ofNat 0)), (.str []), (.int .i64 (.ofNat 0)), (.str [])] [(0, 1, (.c (.int .i64 (.ofNat 6)))), (1, 1, (.t 8)), (3, 1, (.t 10)), (2, 1, (.t 12)), (5, 1, (.t 14)), (6, 1, (.t 16)), (7, 1, (.t 17)), (8, 1, (.t 18))]))⟩,
    .op ⟨none, none, (.e (.store 9 (.t 6) (.t 19)))⟩])
  .ret)) }
theorem tr_depotlaw21_done : trF cx Tryd.f12 = pf_depotlaw21_done := by kernel_rfl
/-- (*depot/task.Task).Answer -/
def pf_task_Task_Answer : PF := { ntmps := 14, results := [.cell 2 true 9, .tmp 3], body :=
  (.seq (.region [.op ⟨(some 2), none, (.n (.new 0 [(.int .i64 (.ofNat 0)), .nils, (.bool false), (.int .u64 (.ofNat 0)), (.str []), (.int .i64 (.ofNat 0)), (.int .i64 (.ofNat 0)), (.int .i64 (.ofNat 0)), (.int .i64 (.ofNat 0))]))⟩,
    .op ⟨(some 3), none, (.r (.mv (.c (.bool false))))⟩])
  (.seq (.seq (.region [.op ⟨(some 4), none, (.r (.mv (.t 0)))⟩,
    .op ⟨(some 5), none, (.r (.nilck (.t 4)))⟩,
    .op ⟨(some 6), none, (.r (.faddr 70 (.t 5)))⟩,
    .op ⟨(some 7), none, (.r (.load false 1 (.t 6)))⟩,
    .op ⟨(some 8), none, (.r (.un .not (.t 7)))⟩])
  (.cond (.t 8)
   (.seq (.region [.op ⟨(some 9), none, (.r (.build [(.int .i64 (.ofNat 0)), .nils, (.bool false), (.int .u64 (.ofNat 0)), (.str []), (.int .i64 (.ofNat 0)), (.int .i64 (.ofNat 0)), (.int .i64 (.ofNat 0)), (.int .i64 (.ofNat 0))] []))⟩,
     .op ⟨none, none, (.e (.store 9 (.t 2) (.t 9)))⟩,
     .op ⟨(some 3), none, (.r (.mv (.c (.bool false))))⟩])
   .ret)
   .skip))
  (.seq (.region [.op ⟨(some 10), none, (.r (.mv (.t 0)))⟩,
    .op ⟨(some 11), none, (.r (.nilck (.t 10)))⟩,
    .op ⟨(some 12), none, (.r (.faddr 61 (.t 11)))⟩,
    .op ⟨(some 13), none, (.r (.load true 9 (.t 12)))⟩,
    .op ⟨none, none, (.e (.store 9 (.t 2) (.t 13)))⟩,
    .op ⟨(some 3), none, (.r (.mv (.c (.bool true))))⟩])
  .ret))) }
theorem tr_task_Task_Answer : trF cx Tryd.f13 = pf_task_Task_Answer := by kernel_rfl
def l0_depotbook_Same_int : PC :=
  (.seq (.seq (.region [.op ⟨(some 11), none, (.r (.mv (.t 5)))⟩,
    .op ⟨(some 12), none, (.r (.mv (.t 0)))⟩,
    .op ⟨(some 13), none, (.r (.lensl (.t 12)))⟩,
    .op ⟨(some 14), none, (.r (.bin .lss (.t 11) (.t 13)))⟩])
  (.cond (.t 14)
   .skip
   (.exit 0)))
  (.seq (.block 1 (.seq (.region [.op ⟨(some 17), none, (.r (.mv (.t 0)))⟩,
     .op ⟨(some 18), none, (.r (.mv (.t 5)))⟩,
     .op ⟨(some 19), none, (.r (.iasl 1 (.t 17) (.t 18)))⟩,
     .op ⟨(some 20), none, (.r (.load false 1 (.t 19)))⟩,
     .op ⟨(some 21), none, (.r (.mv (.t 1)))⟩,
     .op ⟨(some 22), none, (.r (.mv (.t 5)))⟩,
     .op ⟨(some 23), none, (.r (.iasl 1 (.t 21) (.t 22)))⟩,
     .op ⟨(some 24), none, (.r (.load false 1 (.t 23)))⟩,
     .op ⟨(some 25), none, (.r (.bin .neq (.t 20) (.t 24)))⟩])
   (.cond (.t 25)
    (.seq (.region [.op ⟨(some 4), none, (.r (.mv (.c (.bool false))))⟩])
    .ret)
    .skip)))
  (.region [.op ⟨(some 15), none, (.r (.mv (.t 5)))⟩,
    .op ⟨(some 16), none, (.r (.bin .add (.t 15) (.c (.int .i64 (.ofNat 1)))))⟩,
    .op ⟨(some 5), none, (.r (.mv (.t 16)))⟩])))
/-- depot/depotbook.Same[int] -/
def pf_depotbook_Same_int : PF := { ntmps := 26, results := [.tmp 4], body :=
  (.seq (.region [.op ⟨(some 4), none, (.r (.mv (.c (.bool false))))⟩])
  (.seq (.seq (.region [.op ⟨(some 6), none, (.r (.mv (.t 0)))⟩,
    .op ⟨(some 7), none, (.r (.lensl (.t 6)))⟩,
    .op ⟨(some 8), none, (.r (.mv (.t 1)))⟩,
    .op ⟨(some 9), none, (.r (.lensl (.t 8)))⟩,
    .op ⟨(some 10), none, (.r (.bin .neq (.t 7) (.t 9)))⟩])
  (.cond (.t 10)
   (.seq (.region [.op ⟨(some 4), none, (.r (.mv (.c (.bool false))))⟩])
   .ret)
   .skip))
  (.seq (.seq (.region [.op ⟨(some 5), none, (.r (.mv (.c (.int .i64 (.ofNat 0)))))⟩])
  (.block 0 (.loop l0_depotbook_Same_int)))
  (.seq (.region [.op ⟨(some 4), none, (.r (.mv (.c (.bool true))))⟩])
  .ret)))) }
theorem tr_depotbook_Same_int : trF cx Tryd.f14 = pf_depotbook_Same_int := by kernel_rfl
def l0_words_Key : PC :=
  (.seq (.region [.op ⟨(some 15), none, (.r (.bin .lss (.t 14) (.t 13)))⟩])
  (.seq (.cond (.t 15)
   .skip
   (.exit 0))
  (.seq (.block 1 (.seq (.region [.op ⟨(some 16), none, (.r (.mv (.t 14)))⟩,
     .op ⟨(some 3), none, (.r (.mv (.t 16)))⟩])
   (.seq (.region [.op ⟨(some 17), none, (.r (.mv (.t 0)))⟩,
     .op ⟨(some 18), none, (.r (.mv (.t 3)))⟩,
     .op ⟨(some 19), none, (.r (.ixstr (.t 17) (.t 18)))⟩,
     .op ⟨(some 20), none, (.r (.bin .leq (.t 19) (.c (.int .u8 (.ofNat 32)))))⟩,
     .op ⟨(some 21), none, (.r (.mv (.t 20)))⟩,
     .op ⟨(some 22), (some (21, false)), (.r (.mv (.t 0)))⟩,
     .op ⟨(some 23), (some (21, false)), (.r (.mv (.t 3)))⟩,
     .op ⟨(some 24), (some (21, false)), (.r (.ixstr (.t 22) (.t 23)))⟩,
     .op ⟨(some 25), (some (21, false)), (.r (.bin .eql (.t 24) (.c (.int .u8 (.ofNat 127)))))⟩,
     .op ⟨(some 26), none, (.r (.pick (.t 21) (.c (.bool true)) (.t 25)))⟩])
   (.cond (.t 26)
    (.seq (.region [.op ⟨(some 2), none, (.r (.mv (.c (.bool false))))⟩])
    .ret)
    .skip))))
  (.region [.op ⟨(some 27), none, (.r (.bin .add (.t 14) (.c (.int .i64 (.ofNat 1)))))⟩,
    .op ⟨(some 14), none, (.r (.mv (.t 27)))⟩]))))
/-- depot/words.Key -/
def pf_words_Key : PF := { ntmps := 28, results := [.tmp 2], body :=
  (.seq (.region [.op ⟨(some 2), none, (.r (.mv (.c (.bool false))))⟩])
  (.seq (.seq (.region [.op ⟨(some 4), none, (.r (.mv (.t 0)))⟩,
    .op ⟨(some 5), none, (.r (.lens (.t 4)))⟩,
    .op ⟨(some 6), none, (.r (.bin .lss (.t 5) (.c (.int .i64 (.ofNat 1)))))⟩,
    .op ⟨(some 7), none, (.r (.mv (.t 6)))⟩,
    .op ⟨(some 8), (some (7, false)), (.r (.mv (.t 0)))⟩,
    .op ⟨(some 9), (some (7, false)), (.r (.lens (.t 8)))⟩,
    .op ⟨(some 10), (some (7, false)), (.r (.bin .gtr (.t 9) (.c (.int .i64 (.ofNat 250)))))⟩,
    .op ⟨(some 11), none, (.r (.pick (.t 7) (.c (.bool true)) (.t 10)))⟩])
  (.cond (.t 11)
   (.seq (.region [.op ⟨(some 2), none, (.r (.mv (.c (.bool false))))⟩])
   .ret)
   .skip))
  (.seq (.seq (.region [.op ⟨(some 12), none, (.r (.mv (.t 0)))⟩,
    .op ⟨(some 13), none, (.r (.lens (.t 12)))⟩,
    .op ⟨(some 14), none, (.r (.mv (.c (.int .i64 (.ofNat 0)))))⟩])
  (.block 0 (.loop l0_words_Key)))
  (.seq (.region [.op ⟨(some 2), none, (.r (.mv (.c (.bool true))))⟩])
  .ret)))) }
theorem tr_words_Key : trF cx Tryd.f15 = pf_words_Key := by kernel_rfl
/-- depot/place.Metas -/
def pf_place_Metas : PF := { ntmps := 19, results := [.tmp 6], body :=
  (.seq (.region [.op ⟨(some 6), none, (.r (.mv (.c .nils)))⟩])
  (.seq (.seq (.region [.op ⟨(some 7), none, (.r (.mv (.t 1)))⟩,
    .op ⟨(some 8), none, (.r (.bin .lss (.t 7) (.c (.int .i64 (.ofNat 0)))))⟩,
    .op ⟨(some 9), none, (.r (.mv (.t 8)))⟩,
    .op ⟨(some 10), (some (9, false)), (.r (.mv (.t 1)))⟩,
    .op ⟨(some 11), (some (9, false)), (.r (.mv (.t 2)))⟩,
    .op ⟨(some 12), (some (9, false)), (.r (.bin .geq (.t 10) (.t 11)))⟩,
    .op ⟨(some 13), none, (.r (.pick (.t 9) (.c (.bool true)) (.t 12)))⟩])
  (.cond (.t 13)
   (.seq (.region [.op ⟨(some 6), none, (.r (.mv (.c .nils)))⟩])
   .ret)
   .skip))
  (.seq (.region [.op ⟨(some 14), none, (.r (.mv (.t 0)))⟩,
    .op ⟨(some 15), none, (.r (.mv (.t 1)))⟩,
    .op ⟨(some 16), none, (.r (.bin .add (.t 15) (.c (.int .i64 (.ofNat 1)))))⟩,
    .op ⟨(some 17), none, (.r (.mv (.t 2)))⟩,
    .op ⟨(some 18), none, (.e (.call n_place_Stripe [(.t 14), (.t 16), (.t 17)]))⟩,
    .op ⟨(some 6), none, (.r (.mv (.t 18)))⟩])
  .ret))) }
theorem tr_place_Metas : trF cx Tryd.f16 = pf_place_Metas := by kernel_rfl
/-- depot/depotbook.Within -/
def pf_depotbook_Within : PF := { ntmps := 24, results := [.tmp 6], body :=
  (.seq (.region [.op ⟨(some 6), none, (.r (.mv (.c (.int .i64 (.ofNat 0)))))⟩])
  (.seq (.region [.op ⟨(some 7), none, (.r (.mv (.t 0)))⟩,
    .op ⟨(some 8), none, (.r (.mv (.t 2)))⟩,
    .op ⟨(some 9), none, (.r (.mv (.t 1)))⟩,
    .op ⟨(some 10), none, (.r (.bin .sub (.t 8) (.t 9)))⟩,
    .op ⟨(some 11), none, (.r (.bin .add (.t 10) (.c (.int .i64 (.ofNat 1)))))⟩,
    .op ⟨(some 12), none, (.r (.bin .rem (.t 7) (.t 11)))⟩,
    .op ⟨(some 0), none, (.r (.mv (.t 12)))⟩])
  (.seq (.seq (.region [.op ⟨(some 13), none, (.r (.mv (.t 0)))⟩,
    .op ⟨(some 14), none, (.r (.bin .lss (.t 13) (.c (.int .i64 (.ofNat 0)))))⟩])
  (.cond (.t 14)
   (.region [.op ⟨(some 15), none, (.r (.mv (.t 0)))⟩,
     .op ⟨(some 16), none, (.r (.mv (.t 2)))⟩,
     .op ⟨(some 17), none, (.r (.bin .add (.t 15) (.t 16)))⟩,
     .op ⟨(some 18), none, (.r (.mv (.t 1)))⟩,
     .op ⟨(some 19), none, (.r (.bin .sub (.t 17) (.t 18)))⟩,
     .op ⟨(some 20), none, (.r (.bin .add (.t 19) (.c (.int .i64 (.ofNat 1)))))⟩,
     .op ⟨(some 0), none, (.r (.mv (.t 20)))⟩])
   .skip))
  (.seq (.region [.op ⟨(some 21), none, (.r (.mv (.t 1)))⟩,
    .op ⟨(some 22), none, (.r (.mv (.t 0)))⟩,
    .op ⟨(some 23), none, (.r (.bin .add (.t 21) (.t 22)))⟩,
    .op ⟨(some 6), none, (.r (.mv (.t 23)))⟩])
  .ret)))) }
theorem tr_depotbook_Within : trF cx Tryd.f17 = pf_depotbook_Within := by kernel_rfl
/-- depot/task.RightConfig -/
def pf_task_RightConfig : PF := { ntmps := 40, results := [.tmp 2], body :=
  (.seq (.region [.op ⟨(some 1), none, (.n (.box (.t 0)))⟩,
    .op ⟨(some 2), none, (.r (.mv (.c (.bool false))))⟩])
  (.seq (.seq (.region [.op ⟨(some 6), none, (.r (.faddr 0 (.t 1)))⟩,
    .op ⟨(some 7), none, (.r (.load false 1 (.t 6)))⟩,
    .op ⟨(some 8), none, (.r (.faddr 1 (.t 1)))⟩,
    .op ⟨(some 9), none, (.r (.load false 1 (.t 8)))⟩,
    .op ⟨(some 10), none, (.e (.call n_rs_New [(.t 7), (.t 9)]))⟩,
    .op ⟨(some 5), none, (.r (.mv (.t 10)))⟩,
    .op ⟨(some 11), none, (.r (.ext 0 (.t 5)))⟩,
    .op ⟨(some 12), none, (.r (.ext 1 (.t 5)))⟩,
    .op ⟨(some 3), none, (.r (.mv (.t 11)))⟩,
    .op ⟨(some 4), none, (.r (.mv (.t 12)))⟩])
  (.seq (.region [.op ⟨(some 13), none, (.r (.mv (.t 4)))⟩,
    .op ⟨(some 14), none, (.r (.bin .neq (.t 13) (.c (.int .i64 (.ofNat 0)))))⟩])
  (.cond (.t 14)
   (.seq (.region [.op ⟨(some 2), none, (.r (.mv (.c (.bool false))))⟩])
   .ret)
   .skip)))
  (.seq (.region [.op ⟨(some 15), none, (.r (.faddr 2 (.t 1)))⟩,
    .op ⟨(some 16), none, (.r (.load false 1 (.t 15)))⟩,
    .op ⟨(some 17), none, (.r (.faddr 1 (.t 1)))⟩,
    .op ⟨(some 18), none, (.r (.load false 1 (.t 17)))⟩,
    .op ⟨(some 19), none, (.e (.call n_task_within [(.t 16), (.c (.int .i64 (.ofNat 0))), (.t 18)]))⟩,
    .op ⟨(some 20), none, (.r (.mv (.t 19)))⟩,
    .op ⟨(some 21), (some (20, true)), (.r (.faddr 3 (.t 1)))⟩,
    .op ⟨(some 22), (some (20, true)), (.r (.load false 1 (.t 21)))⟩,
    .op ⟨(some 23), (some (20, true)), (.r (.faddr 0 (.t 1)))⟩,
    .op ⟨(some 24), (some (20, true)), (.r (.load false 1 (.t 23)))⟩,
    .op ⟨(some 25), (some (20, true)), (.r (.faddr 1 (.t 1)))⟩,
    .op ⟨(some 26), (some (20, true)), (.r (.load false 1 (.t 25)))⟩,
    .op ⟨(some 27), (some (20, true)), (.r (.bin .add (.t 24) (.t 26)))⟩,
    .op ⟨(some 28), (some (20, true)), (.e (.call n_task_within [(.t 22), (.t 27), (.c (.int .i64 (.ofNat 12)))]))⟩,
    .op ⟨(some 29), none, (.r (.pick (.t 20) (.t 28) (.c (.bool false))))⟩,
    .op ⟨(some 30), none, (.r (.mv (.t 29)))⟩,
    .op ⟨(some 31), (some (30, true)), (.r (.faddr 4 (.t 1)))⟩,
    .op ⟨(some 32), (some (30, true)), (.r (.load false 1 (.t 31)))⟩,
    .op ⟨(some 33), (some (30, true)), (.e (.call n_task_within [(.t 32), (.c (.int .i64 (.ofNat 1))), (.c (.int .i64 (.ofNat 64)))]))⟩,
    .op ⟨(some 34), none, (.r (.pick (.t 30) (.t 33) (.c (.bool false))))⟩,
    .op ⟨(some 35), none, (.r (.mv (.t 34)))⟩,
    .op ⟨(some 36), (some (35, true)), (.r (.faddr 5 (.t 1)))⟩,
    .op ⟨(some 37), (some (35, true)), (.r (.load false 1 (.t 36)))⟩,
    .op ⟨(some 38), (some (35, true)), (.e (.call n_task_within [(.t 37), (.c (.int .i64 (.ofNat 64))), (.c (.int .i64 (.ofNat 65536)))]))⟩,
    .op ⟨(some 39), none, (.r (.pick (.t 35) (.t 38) (.c (.bool false))))⟩,
    .op ⟨(some 2), none, (.r (.mv (.t 39)))⟩])
  .ret))) }
theorem tr_task_RightConfig : trF cx Tryd.f18 = pf_task_RightConfig := by kernel_rfl
/-- depot/task.within -/
def pf_task_within : PF := { ntmps := 15, results := [.tmp 6], body :=
  (.seq (.region [.op ⟨(some 6), none, (.r (.mv (.c (.bool false))))⟩])
  (.seq (.region [.op ⟨(some 7), none, (.r (.mv (.t 0)))⟩,
    .op ⟨(some 8), none, (.r (.mv (.t 1)))⟩,
    .op ⟨(some 9), none, (.r (.bin .geq (.t 7) (.t 8)))⟩,
    .op ⟨(some 10), none, (.r (.mv (.t 9)))⟩,
    .op ⟨(some 11), (some (10, true)), (.r (.mv (.t 0)))⟩,
    .op ⟨(some 12), (some (10, true)), (.r (.mv (.t 2)))⟩,
    .op ⟨(some 13), (some (10, true)), (.r (.bin .leq (.t 11) (.t 12)))⟩,
    .op ⟨(some 14), none, (.r (.pick (.t 10) (.t 13) (.c (.bool false))))⟩,
    .op ⟨(some 6), none, (.r (.mv (.t 14)))⟩])
  .ret)) }
theorem tr_task_within : trF cx Tryd.f19 = pf_task_within := by kernel_rfl
/-- depot/rs.New -/
def pf_rs_New : PF := { ntmps := 40, results := [.tmp 4, .tmp 5], body :=
  (.seq (.region [.op ⟨(some 4), none, (.r (.mv (.c .nilp)))⟩,
    .op ⟨(some 5), none, (.r (.mv (.c (.int .i64 (.ofNat 0)))))⟩])
  (.seq (.seq (.region [.op ⟨(some 7), none, (.r (.mv (.t 0)))⟩,
    .op ⟨(some 8), none, (.r (.bin .lss (.t 7) (.c (.int .i64 (.ofNat 1)))))⟩,
    .op ⟨(some 9), none, (.r (.mv (.t 8)))⟩,
    .op ⟨(some 10), (some (9, false)), (.r (.mv (.t 0)))⟩,
    .op ⟨(some 11), (some (9, false)), (.r (.bin .gtr (.t 10) (.c (.int .i64 (.ofNat 8)))))⟩,
    .op ⟨(some 12), none, (.r (.pick (.t 9) (.c (.bool true)) (.t 11)))⟩,
    .op ⟨(some 13), none, (.r (.mv (.t 12)))⟩,
    .op ⟨(some 14), (some (13, false)), (.r (.mv (.t 1)))⟩,
    .op ⟨(some 15), (some (13, false)), (.r (.bin .lss (.t 14) (.c (.int .i64 (.ofNat 0)))))⟩,
    .op ⟨(some 16), none, (.r (.pick (.t 13) (.c (.bool true)) (.t 15)))⟩,
    .op ⟨(some 17), none, (.r (.mv (.t 16)))⟩,
    .op ⟨(some 18), (some (17, false)), (.r (.mv (.t 1)))⟩,
    .op ⟨(some 19), (some (17, false)), (.r (.mv (.t 0)))⟩,
    .op ⟨(some 20), (some (17, false)), (.r (.bin .sub (.c (.int .i64 (.ofNat 12))) (.t 19)))⟩,
    .op ⟨(some 21), (some (17, false)), (.r (.bin .gtr (.t 18) (.t 20)))⟩,
    .op ⟨(some 22), none, (.r (.pick (.t 17) (.c (.bool true)) (.t 21)))⟩])
  (.cond (.t 22)
   (.seq (.region [.op ⟨(some 4), none, (.r (.mv (.c .nilp)))⟩,
     .op ⟨(some 5), none, (.r (.mv (.c (.int .i64 (.ofNat 1)))))⟩])
   .ret)
   .skip))
  (.seq (.region [.op ⟨(some 23), none, (.r (.mv (.t 0)))⟩,
    .op ⟨(some 24), none, (.r (.mv (.t 0)))⟩,
    .op ⟨(some 25), none, (.r (.mv (.t 1)))⟩,
    .op ⟨(some 26), none, (.r (.bin .add (.t 24) (.t 25)))⟩,
    .op ⟨(some 27), none, (.e (.call n_gf_Make []))⟩,
    .op ⟨(some 28), none, (.r (.build ([(.int .i64 (.ofNat 0)), (.int .i64 (.ofNat 0))] ++ (rep 766 [(.int .u8 (.ofNat 0))] ++ ([.nils]))) [(0, 1, (.t 23)), (1, 1, (.t 26)), (2, 766, (.t 27))]))⟩,
    .op ⟨(some 29), none, (.n (.box (.t 28)))⟩,
    .op ⟨(some 6), none, (.r (.mv (.t 29)))⟩])
  (.seq (.region [.op ⟨(some 30), none, (.r (.mv (.t 6)))⟩,
    .op ⟨(some 31), none, (.r (.mv (.t 6)))⟩,
    .op ⟨(some 32), none, (.r (.nilck (.t 31)))⟩,
    .op ⟨(some 33), none, (.r (.faddr 2 (.t 32)))⟩,
    .op ⟨(some 34), none, (.r (.mv (.t 0)))⟩,
    .op ⟨(some 35), none, (.r (.mv (.t 1)))⟩,
    .op ⟨(some 36), none, (.e (.call n_matrix_Cauchy [(.t 33), (.t 34), (.t 35)]))⟩,
    .op ⟨(some 37), none, (.r (.nilck (.t 30)))⟩,
    .op ⟨(some 38), none, (.r (.faddr 768 (.t 37)))⟩,
    .op ⟨none, none, (.e (.store 1 (.t 38) (.t 36)))⟩])
  (.seq (.region [.op ⟨(some 39), none, (.r (.mv (.t 6)))⟩,
    .op ⟨(some 4), none, (.r (.mv (.t 39)))⟩,
    .op ⟨(some 5), none, (.r (.mv (.c (.int .i64 (.ofNat 0)))))⟩])
  .ret))))) }
theorem tr_rs_New : trF cx Tryd.f20 = pf_rs_New := by kernel_rfl
def l0_place_Stripe : PC :=
  (.seq (.region [.op ⟨(some 32), none, (.r (.bin .lss (.t 31) (.t 30)))⟩])
  (.seq (.cond (.t 32)
   .skip
   (.exit 0))
  (.seq (.block 1 (.seq (.region [.op ⟨(some 33), none, (.r (.mv (.t 31)))⟩,
     .op ⟨(some 9), none, (.r (.mv (.t 33)))⟩])
   (.region [.op ⟨(some 34), none, (.r (.mv (.t 8)))⟩,
     .op ⟨(some 35), none, (.r (.mv (.t 7)))⟩,
     .op ⟨(some 36), none, (.r (.mv (.t 9)))⟩,
     .op ⟨(some 37), none, (.r (.bin .add (.t 35) (.t 36)))⟩,
     .op ⟨(some 38), none, (.r (.mv (.t 2)))⟩,
     .op ⟨(some 39), none, (.r (.bin .rem (.t 37) (.t 38)))⟩,
     .op ⟨(some 40), none, (.n (.bslice 0 1 1 [(.int .i64 (.ofNat 0))] [(0, 1, (.t 39))]))⟩,
     .op ⟨(some 41), none, (.e (.app 0 1 8 (.t 34) (.t 40)))⟩,
     .op ⟨(some 8), none, (.r (.mv (.t 41)))⟩])))
  (.region [.op ⟨(some 42), none, (.r (.bin .add (.t 31) (.c (.int .i64 (.ofNat 1)))))⟩,
    .op ⟨(some 31), none, (.r (.mv (.t 42)))⟩]))))
/-- depot/place.Stripe -/
def pf_place_Stripe : PF := { ntmps := 44, results := [.tmp 6], body :=
  (.seq (.region [.op ⟨(some 6), none, (.r (.mv (.c .nils)))⟩])
  (.seq (.seq (.region [.op ⟨(some 10), none, (.r (.mv (.t 2)))⟩,
    .op ⟨(some 11), none, (.r (.bin .lss (.t 10) (.c (.int .i64 (.ofNat 1)))))⟩,
    .op ⟨(some 12), none, (.r (.mv (.t 11)))⟩,
    .op ⟨(some 13), (some (12, false)), (.r (.mv (.t 2)))⟩,
    .op ⟨(some 14), (some (12, false)), (.r (.bin .gtr (.t 13) (.c (.int .i64 (.ofNat 12)))))⟩,
    .op ⟨(some 15), none, (.r (.pick (.t 12) (.c (.bool true)) (.t 14)))⟩,
    .op ⟨(some 16), none, (.r (.mv (.t 15)))⟩,
    .op ⟨(some 17), (some (16, false)), (.r (.mv (.t 1)))⟩,
    .op ⟨(some 18), (some (16, false)), (.r (.bin .lss (.t 17) (.c (.int .i64 (.ofNat 0)))))⟩,
    .op ⟨(some 19), none, (.r (.pick (.t 16) (.c (.bool true)) (.t 18)))⟩,
    .op ⟨(some 20), none, (.r (.mv (.t 19)))⟩,
    .op ⟨(some 21), (some (20, false)), (.r (.mv (.t 1)))⟩,
    .op ⟨(some 22), (some (20, false)), (.r (.mv (.t 2)))⟩,
    .op ⟨(some 23), (some (20, false)), (.r (.bin .gtr (.t 21) (.t 22)))⟩,
    .op ⟨(some 24), none, (.r (.pick (.t 20) (.c (.bool true)) (.t 23)))⟩])
  (.cond (.t 24)
   (.seq (.region [.op ⟨(some 6), none, (.r (.mv (.c .nils)))⟩])
   .ret)
   .skip))
  (.seq (.region [.op ⟨(some 25), none, (.r (.mv (.t 0)))⟩,
    .op ⟨(some 26), none, (.e (.call n_chain_Hash [(.t 25)]))⟩,
    .op ⟨(some 27), none, (.r (.cint .i64 (.t 26)))⟩,
    .op ⟨(some 28), none, (.r (.mv (.t 2)))⟩,
    .op ⟨(some 29), none, (.r (.bin .rem (.t 27) (.t 28)))⟩,
    .op ⟨(some 7), none, (.r (.mv (.t 29)))⟩])
  (.seq (.region [.op ⟨(some 8), none, (.r (.mv (.c .nils)))⟩])
  (.seq (.seq (.region [.op ⟨(some 30), none, (.r (.mv (.t 1)))⟩,
    .op ⟨(some 31), none, (.r (.mv (.c (.int .i64 (.ofNat 0)))))⟩])
  (.block 0 (.loop l0_place_Stripe)))
  (.seq (.region [.op ⟨(some 43), none, (.r (.mv (.t 8)))⟩,
    .op ⟨(some 6), none, (.r (.mv (.t 43)))⟩])
  .ret)))))) }
theorem tr_place_Stripe : trF cx Tryd.f21 = pf_place_Stripe := by kernel_rfl
/-- (*depot/task.Task).enter -/
def pf_task_Task_enter : PF := { ntmps := 14, results := [], body :=
  (.region [.op ⟨(some 4), none, (.r (.mv (.t 0)))⟩,
    .op ⟨(some 5), none, (.r (.mv (.t 0)))⟩,
    .op ⟨(some 6), none, (.r (.mv (.t 0)))⟩,
    .op ⟨(some 7), none, (.r (.mv (.t 1)))⟩,
    .op ⟨(some 8), none, (.r (.nilck (.t 4)))⟩,
    .op ⟨(some 9), none, (.r (.faddr 21 (.t 8)))⟩,
    .op ⟨none, none, (.e (.store 1 (.t 9) (.t 7)))⟩,
    .op ⟨(some 10), none, (.r (.nilck (.t 5)))⟩,
    .op ⟨(some 11), none, (.r (.faddr 22 (.t 10)))⟩,
    .op ⟨none, none, (.e (.store 1 (.t 11) (.c (.int .i64 (.ofNat 0)))))⟩,
    .op ⟨(some 12), none, (.r (.nilck (.t 6)))⟩,
    .op ⟨(some 13), none, (.r (.faddr 23 (.t 12)))⟩,
    .op ⟨none, none, (.e (.store 1 (.t 13) (.c (.int .i64 (.ofNat 0)))))⟩]) }
theorem tr_task_Task_enter : trF cx Tryd.f22 = pf_task_Task_enter := by kernel_rfl
/-- (*depot/task.Task).ask -/
def pf_task_Task_ask : PF := { ntmps := 30, results := [], body :=
  (.seq (.region [.op ⟨(some 5), none, (.n (.box (.t 2)))⟩])
  (.seq (.region [.op ⟨(some 6), none, (.r (.mv (.t 1)))⟩,
    .op ⟨(some 7), none, (.r (.mv (.t 0)))⟩,
    .op ⟨(some 8), none, (.r (.nilck (.t 7)))⟩,
    .op ⟨(some 9), none, (.r (.faddr 7 (.t 8)))⟩,
    .op ⟨(some 10), none, (.r (.load false 1 (.t 9)))⟩,
    .op ⟨(some 11), none, (.r (.faddr 1 (.t 5)))⟩,
    .op ⟨none, none, (.e (.store 1 (.t 11) (.t 6)))⟩,
    .again ⟨(some 10), none, (.r (.load false 1 (.t 9)))⟩,
    .op ⟨(some 12), none, (.r (.faddr 6 (.t 5)))⟩,
    .op ⟨none, none, (.e (.store 1 (.t 12) (.t 10)))⟩])
  (.seq (.region [.op ⟨(some 13), none, (.r (.mv (.t 0)))⟩,
    .op ⟨(some 14), none, (.r (.mv (.t 0)))⟩,
    .op ⟨(some 15), none, (.r (.nilck (.t 14)))⟩,
    .op ⟨(some 16), none, (.r (.faddr 36 (.t 15)))⟩,
    .op ⟨(some 17), none, (.r (.load false 1 (.t 16)))⟩,
    .op ⟨(some 18), none, (.r (.load true 9 (.t 5)))⟩,
    .op ⟨(some 19), none, (.n (.bslice 0 9 1 [(.int .i64 (.ofNat 0)), (.int .i64 (.ofNat 0)), (.int .i64 (.ofNat 0)), (.int .i64 (.ofNat 0)), (.int .i64 (.ofNat 0)), (.int .i64 (.ofNat 0)), (.str []), (.int .i64 (.ofNat 0)), (.str [])] [(0, 9, (.t 18))]))⟩,
    .op ⟨(some 20), none, (.e (.app 0 9 88 (.t 17) (.t 19)))⟩,
    .op ⟨(some 21), none, (.r (.nilck (.t 13)))⟩,
    .op ⟨(some 22), none, (.r (.faddr 36 (.t 21)))⟩,
    .op ⟨none, none, (.e (.store 1 (.t 22) (.t 20)))⟩])
  (.region [.op ⟨(some 23), none, (.r (.mv (.t 0)))⟩,
    .op ⟨(some 24), none, (.r (.nilck (.t 23)))⟩,
    .op ⟨(some 25), none, (.r (.faddr 22 (.t 24)))⟩,
    .op ⟨(some 26), none, (.r (.load false 1 (.t 25)))⟩,
    .op ⟨(some 27), none, (.r (.bin .add (.t 26) (.c (.int .i64 (.ofNat 1)))))⟩,
    .op ⟨(some 28), none, (.r (.nilck (.t 23)))⟩,
    .op ⟨(some 29), none, (.r (.faddr 22 (.t 28)))⟩,
    .op ⟨none, none, (.e (.store 1 (.t 29) (.t 27)))⟩])))) }
theorem tr_task_Task_ask : trF cx Tryd.f23 = pf_task_Task_ask := by kernel_rfl
/-- (*depot/task.Task).on -/
def pf_task_Task_on : PF := { ntmps := 70, results := [], body :=
  (.seq (.region [.op ⟨(some 3), none, (.n (.box (.t 1)))⟩])
  (.seq (.seq (.region [.op ⟨(some 4), none, (.r (.mv (.t 0)))⟩,
    .op ⟨(some 5), none, (.r (.nilck (.t 4)))⟩,
    .op ⟨(some 6), none, (.r (.faddr 21 (.t 5)))⟩,
    .op ⟨(some 7), none, (.r (.load false 1 (.t 6)))⟩,
    .op ⟨(some 8), none, (.r (.bin .eql (.t 7) (.c (.int .i64 (.ofNat 2)))))⟩])
  (.cond (.t 8)
   (.seq (.region [.op ⟨(some 9), none, (.r (.mv (.t 0)))⟩,
     .op ⟨(some 10), none, (.r (.load true 14 (.t 3)))⟩,
     .op ⟨(some 11), none, (.e (.call n_task_Task_gathered [(.t 9), (.t 10)]))⟩])
   .ret)
   .skip))
  (.seq (.seq (.region [.op ⟨(some 12), none, (.r (.mv (.t 0)))⟩,
    .op ⟨(some 13), none, (.r (.nilck (.t 12)))⟩,
    .op ⟨(some 14), none, (.r (.faddr 22 (.t 13)))⟩,
    .op ⟨(some 15), none, (.r (.load false 1 (.t 14)))⟩,
    .op ⟨(some 16), none, (.r (.bin .gtr (.t 15) (.c (.int .i64 (.ofNat 0)))))⟩])
  (.cond (.t 16)
   .ret
   .skip))
  (.seq (.region [.op ⟨(some 17), none, (.r (.mv (.t 0)))⟩,
    .op ⟨(some 18), none, (.r (.nilck (.t 17)))⟩,
    .op ⟨(some 19), none, (.r (.faddr 21 (.t 18)))⟩,
    .op ⟨(some 20), none, (.r (.load false 1 (.t 19)))⟩])
  (.block 0 (.seq (.region [.op ⟨(some 22), none, (.r (.bin .eql (.t 20) (.c (.int .i64 (.ofNat 1)))))⟩,
     .op ⟨(some 21), none, (.r (.mv (.t 22)))⟩])
   (.cond (.t 21)
    (.region [.op ⟨(some 23), none, (.r (.mv (.t 0)))⟩,
      .op ⟨(some 24), none, (.r (.load true 14 (.t 3)))⟩,
      .op ⟨(some 25), none, (.e (.call n_task_Task_found [(.t 23), (.t 24)]))⟩])
    (.seq (.region [.op ⟨(some 27), none, (.r (.bin .eql (.t 20) (.c (.int .i64 (.ofNat 3)))))⟩,
      .op ⟨(some 26), none, (.r (.mv (.t 27)))⟩])
    (.cond (.t 26)
     (.region [.op ⟨(some 28), none, (.r (.mv (.t 0)))⟩,
       .op ⟨(some 29), none, (.r (.load true 14 (.t 3)))⟩,
       .op ⟨(some 30), none, (.e (.call n_task_Task_scattered [(.t 28), (.t 29)]))⟩])
     (.seq (.region [.op ⟨(some 32), none, (.r (.bin .eql (.t 20) (.c (.int .i64 (.ofNat 4)))))⟩,
       .op ⟨(some 31), none, (.r (.mv (.t 32)))⟩])
     (.cond (.t 31)
      (.region [.op ⟨(some 33), none, (.r (.mv (.t 0)))⟩,
        .op ⟨(some 34), none, (.r (.load true 14 (.t 3)))⟩,
        .op ⟨(some 35), none, (.e (.call n_task_Task_written [(.t 33), (.t 34)]))⟩])
      (.seq (.region [.op ⟨(some 37), none, (.r (.bin .eql (.t 20) (.c (.int .i64 (.ofNat 5)))))⟩,
        .op ⟨(some 36), none, (.r (.mv (.t 37)))⟩])
      (.cond (.t 36)
       (.seq (.region [.op ⟨(some 38), none, (.r (.mv (.t 0)))⟩,
         .op ⟨(some 39), none, (.r (.nilck (.t 38)))⟩,
         .op ⟨(some 40), none, (.r (.faddr 17 (.t 39)))⟩,
         .op ⟨(some 41), none, (.r (.load false 1 (.t 40)))⟩,
         .op ⟨(some 42), none, (.r (.bin .geq (.t 41) (.c (.int .i64 (.ofNat 0)))))⟩])
       (.cond (.t 42)
        (.region [.op ⟨(some 43), none, (.r (.mv (.t 0)))⟩,
          .op ⟨(some 44), none, (.r (.load true 14 (.t 3)))⟩,
          .op ⟨(some 45), none, (.e (.call n_task_Task_clean [(.t 43), (.t 44)]))⟩])
        (.region [.op ⟨(some 46), none, (.r (.mv (.t 0)))⟩,
          .op ⟨(some 47), none, (.r (.load true 14 (.t 3)))⟩,
          .op ⟨(some 48), none, (.e (.call n_task_Task_decide [(.t 46), (.t 47)]))⟩])))
       (.seq (.region [.op ⟨(some 50), none, (.r (.bin .eql (.t 20) (.c (.int .i64 (.ofNat 6)))))⟩,
         .op ⟨(some 49), none, (.r (.mv (.t 50)))⟩])
       (.cond (.t 49)
        (.seq (.region [.op ⟨(some 51), none, (.r (.mv (.t 0)))⟩,
          .op ⟨(some 52), none, (.r (.mv (.t 0)))⟩,
          .op ⟨(some 53), none, (.r (.nilck (.t 52)))⟩,
          .op ⟨(some 54), none, (.r (.faddr 52 (.t 53)))⟩,
          .op ⟨(some 55), none, (.r (.load true 9 (.t 54)))⟩,
          .op ⟨(some 56), none, (.e (.call n_task_Task_tell [(.t 51), (.t 55)]))⟩])
        (.region [.op ⟨(some 57), none, (.r (.mv (.t 0)))⟩,
          .op ⟨(some 58), none, (.r (.load true 14 (.t 3)))⟩,
          .op ⟨(some 59), none, (.e (.call n_task_Task_clean [(.t 57), (.t 58)]))⟩]))
        (.seq (.region [.op ⟨(some 61), none, (.r (.bin .eql (.t 20) (.c (.int .i64 (.ofNat 7)))))⟩,
          .op ⟨(some 60), none, (.r (.mv (.t 61)))⟩])
        (.cond (.t 60)
         (.region [.op ⟨(some 62), none, (.r (.mv (.t 0)))⟩,
           .op ⟨(some 63), none, (.r (.load true 14 (.t 3)))⟩,
           .op ⟨(some 64), none, (.e (.call n_task_Task_clean [(.t 62), (.t 63)]))⟩])
         (.seq (.region [.op ⟨(some 66), none, (.r (.bin .eql (.t 20) (.c (.int .i64 (.ofNat 8)))))⟩,
           .op ⟨(some 65), none, (.r (.mv (.t 66)))⟩])
         (.cond (.t 65)
          (.region [.op ⟨(some 67), none, (.r (.mv (.t 0)))⟩,
            .op ⟨(some 68), none, (.r (.nilck (.t 67)))⟩,
            .op ⟨(some 69), none, (.r (.faddr 21 (.t 68)))⟩,
            .op ⟨none, none, (.e (.store 1 (.t 69) (.c (.int .i64 (.ofNat 9)))))⟩])
          .skip))))))))))))))))))) }
theorem tr_task_Task_on : trF cx Tryd.f24 = pf_task_Task_on := by kernel_rfl
def l0_task_GetRecord : PC :=
  (.seq (.region [.op ⟨(some 20), none, (.r (.bin .lss (.t 19) (.t 18)))⟩])
  (.seq (.cond (.t 20)
   .skip
   (.exit 0))
  (.seq (.block 1 (.seq (.region [.op ⟨(some 21), none, (.r (.iasl 1 (.t 17) (.t 19)))⟩,
     .op ⟨(some 22), none, (.r (.load false 1 (.t 21)))⟩,
     .op ⟨(some 7), none, (.r (.mv (.t 22)))⟩])
   (.region [.op ⟨(some 23), none, (.r (.mv (.t 7)))⟩,
     .op ⟨(some 24), none, (.r (.mv (.t 4)))⟩,
     .op ⟨(some 25), none, (.e (.call n_pack_Reader_Num [(.t 24)]))⟩,
     .op ⟨(some 26), none, (.r (.nilck (.t 23)))⟩,
     .op ⟨none, none, (.e (.store 1 (.t 26) (.t 25)))⟩])))
  (.region [.op ⟨(some 27), none, (.r (.bin .add (.t 19) (.c (.int .i64 (.ofNat 1)))))⟩,
    .op ⟨(some 19), none, (.r (.mv (.t 27)))⟩]))))
/-- depot/task.GetRecord -/
def pf_task_GetRecord : PF := { ntmps := 60, results := [.cell 2 true 5, .tmp 3], body :=
  (.seq (.region [.op ⟨(some 2), none, (.n (.new 0 [(.int .i64 (.ofNat 0)), (.int .i64 (.ofNat 0)), (.int .i64 (.ofNat 0)), (.int .i64 (.ofNat 0)), (.int .i64 (.ofNat 0))]))⟩,
    .op ⟨(some 3), none, (.r (.mv (.c (.bool false))))⟩])
  (.seq (.region [.op ⟨(some 9), none, (.r (.mv (.t 0)))⟩,
    .op ⟨(some 10), none, (.n (.s2b (.t 9)))⟩,
    .op ⟨(some 11), none, (.e (.call n_pack_Read [(.t 10)]))⟩,
    .op ⟨(some 4), none, (.r (.mv (.t 11)))⟩])
  (.seq (.region [.op ⟨(some 5), none, (.n (.new 0 [(.int .i64 (.ofNat 0)), (.int .i64 (.ofNat 0)), (.int .i64 (.ofNat 0)), (.int .i64 (.ofNat 0)), (.int .i64 (.ofNat 0))]))⟩])
  (.seq (.seq (.region [.op ⟨(some 12), none, (.r (.faddr 0 (.t 5)))⟩,
    .op ⟨(some 13), none, (.r (.faddr 1 (.t 5)))⟩,
    .op ⟨(some 14), none, (.r (.faddr 2 (.t 5)))⟩,
    .op ⟨(some 15), none, (.r (.faddr 3 (.t 5)))⟩,
    .op ⟨(some 16), none, (.r (.faddr 4 (.t 5)))⟩,
    .op ⟨(some 17), none, (.n (.bslice 0 1 5 [.nilp, .nilp, .nilp, .nilp, .nilp] [(0, 1, (.t 12)), (1, 1, (.t 13)), (2, 1, (.t 14)), (3, 1, (.t 15)), (4, 1, (.t 16))]))⟩,
    .op ⟨(some 18), none, (.r (.lensl (.t 17)))⟩,
    .op ⟨(some 19), none, (.r (.mv (.c (.int .i64 (.ofNat 0)))))⟩])
  (.block 0 (.loop l0_task_GetRecord)))
  (.seq (.region [.op ⟨(some 28), none, (.r (.mv (.t 4)))⟩,
    .op ⟨(some 29), none, (.e (.call n_pack_Reader_End [(.t 28)]))⟩,
    .op ⟨(some 30), none, (.r (.bin .eql (.t 29) (.c (.int .i64 (.ofNat 0)))))⟩,
    .op ⟨(some 31), none, (.r (.mv (.t 30)))⟩,
    .op ⟨(some 32), (some (31, true)), (.r (.faddr 0 (.t 5)))⟩,
    .op ⟨(some 33), (some (31, true)), (.r (.load false 1 (.t 32)))⟩,
    .op ⟨(some 34), (some (31, true)), (.e (.call n_task_within [(.t 33), (.c (.int .i64 (.ofNat 0))), (.c (.int .i64 (.ofNat 1099511627776)))]))⟩,
    .op ⟨(some 35), none, (.r (.pick (.t 31) (.t 34) (.c (.bool false))))⟩,
    .op ⟨(some 36), none, (.r (.mv (.t 35)))⟩,
    .op ⟨(some 37), (some (36, true)), (.r (.faddr 1 (.t 5)))⟩,
    .op ⟨(some 38), (some (36, true)), (.r (.load false 1 (.t 37)))⟩,
    .op ⟨(some 39), (some (36, true)), (.e (.call n_task_within [(.t 38), (.c (.int .i64 (.ofNat 0))), (.c (.int .i64 (.ofNat 1099511627776)))]))⟩,
    .op ⟨(some 40), none, (.r (.pick (.t 36) (.t 39) (.c (.bool false))))⟩,
    .op ⟨(some 41), none, (.r (.mv (.t 40)))⟩,
    .op ⟨(some 42), (some (41, true)), (.r (.faddr 2 (.t 5)))⟩,
    .op ⟨(some 43), (some (41, true)), (.r (.load false 1 (.t 42)))⟩,
    .op ⟨(some 44), (some (41, true)), (.e (.call n_task_within [(.t 43), (.c (.int .i64 (.ofNat 0))), (.c (.int .i64 (.ofNat 4294967295)))]))⟩,
    .op ⟨(some 45), none, (.r (.pick (.t 41) (.t 44) (.c (.bool false))))⟩,
    .op ⟨(some 46), none, (.r (.mv (.t 45)))⟩,
    .op ⟨(some 47), (some (46, true)), (.r (.faddr 3 (.t 5)))⟩,
    .op ⟨(some 48), (some (46, true)), (.r (.load false 1 (.t 47)))⟩,
    .op ⟨(some 49), (some (46, true)), (.e (.call n_task_within [(.t 48), (.c (.int .i64 (.negSucc 0))), (.c (.int .i64 (.ofNat 2199023255552)))]))⟩,
    .op ⟨(some 50), none, (.r (.pick (.t 46) (.t 49) (.c (.bool false))))⟩,
    .op ⟨(some 51), none, (.r (.mv (.t 50)))⟩,
    .op ⟨(some 52), (some (51, true)), (.r (.faddr 4 (.t 5)))⟩,
    .op ⟨(some 53), (some (51, true)), (.r (.load false 1 (.t 52)))⟩,
    .op ⟨(some 54), (some (51, true)), (.e (.call n_task_within [(.t 53), (.c (.int .i64 (.ofNat 0))), (.c (.int .i64 (.ofNat 1048576)))]))⟩,
    .op ⟨(some 55), none, (.r (.pick (.t 51) (.t 54) (.c (.bool false))))⟩,
    .op ⟨(some 8), none, (.r (.mv (.t 55)))⟩])
  (.seq (.seq (.region [.op ⟨(some 56), none, (.r (.mv (.t 8)))⟩,
    .op ⟨(some 57), none, (.r (.un .not (.t 56)))⟩])
  (.cond (.t 57)
   (.seq (.region [.op ⟨(some 58), none, (.r (.build [(.int .i64 (.ofNat 0)), (.int .i64 (.ofNat 0)), (.int .i64 (.ofNat 0)), (.int .i64 (.ofNat 0)), (.int .i64 (.ofNat 0))] []))⟩,
     .op ⟨none, none, (.e (.store 5 (.t 2) (.t 58)))⟩,
     .op ⟨(some 3), none, (.r (.mv (.c (.bool false))))⟩])
   .ret)
   .skip))
  (.seq (.region [.op ⟨(some 59), none, (.r (.load true 5 (.t 5)))⟩,
    .op ⟨none, none, (.e (.store 5 (.t 2) (.t 59)))⟩,
    .op ⟨(some 3), none, (.r (.mv (.c (.bool true))))⟩])
  .ret))))))) }
theorem tr_task_GetRecord : trF cx Tryd.f25 = pf_task_GetRecord := by kernel_rfl
def l0_place_Position : PC :=
  (.seq (.region [.op ⟨(some 18), none, (.r (.bin .lss (.t 17) (.t 16)))⟩])
  (.seq (.cond (.t 18)
   .skip
   (.exit 0))
  (.seq (.block 1 (.seq (.region [.op ⟨(some 19), none, (.r (.mv (.t 17)))⟩,
     .op ⟨(some 20), none, (.r (.iasl 1 (.t 15) (.t 17)))⟩,
     .op ⟨(some 21), none, (.r (.load false 1 (.t 20)))⟩,
     .op ⟨(some 10), none, (.r (.mv (.t 19)))⟩,
     .op ⟨(some 11), none, (.r (.mv (.t 21)))⟩])
   (.seq (.region [.op ⟨(some 22), none, (.r (.mv (.t 11)))⟩,
     .op ⟨(some 23), none, (.r (.mv (.t 3)))⟩,
     .op ⟨(some 24), none, (.r (.bin .eql (.t 22) (.t 23)))⟩])
   (.cond (.t 24)
    (.seq (.region [.op ⟨(some 25), none, (.r (.mv (.t 10)))⟩,
      .op ⟨(some 9), none, (.r (.mv (.t 25)))⟩])
    (.exit 0))
    .skip))))
  (.region [.op ⟨(some 26), none, (.r (.bin .add (.t 17) (.c (.int .i64 (.ofNat 1)))))⟩,
    .op ⟨(some 17), none, (.r (.mv (.t 26)))⟩]))))
/-- depot/place.Position -/
def pf_place_Position : PF := { ntmps := 28, results := [.tmp 8], body :=
  (.seq (.region [.op ⟨(some 8), none, (.r (.mv (.c (.int .i64 (.ofNat 0)))))⟩])
  (.scope (.seq (.region [.op ⟨(some 9), none, (.r (.mv (.c (.int .i64 (.negSucc 0)))))⟩])
   (.seq .skip
   (.seq (.seq (.region [.op ⟨(some 12), none, (.r (.mv (.t 0)))⟩,
     .op ⟨(some 13), none, (.r (.mv (.t 1)))⟩,
     .op ⟨(some 14), none, (.r (.mv (.t 2)))⟩,
     .op ⟨(some 15), none, (.e (.call n_place_Stripe [(.t 12), (.t 13), (.t 14)]))⟩,
     .op ⟨(some 16), none, (.r (.lensl (.t 15)))⟩,
     .op ⟨(some 17), none, (.r (.mv (.c (.int .i64 (.ofNat 0)))))⟩])
   (.block 0 (.loop l0_place_Position)))
   (.seq (.region [.op ⟨(some 27), none, (.r (.mv (.t 9)))⟩,
     .op ⟨(some 8), none, (.r (.mv (.t 27)))⟩])
   .ret)))))) }
theorem tr_place_Position : trF cx Tryd.f26 = pf_place_Position := by kernel_rfl
/-- (*depot/gather.Gather).Got -/
def pf_gather_Gather_Got : PF := { ntmps := 60, results := [.tmp 8], body :=
  (.seq (.region [.op ⟨(some 8), none, (.r (.mv (.c (.bool false))))⟩])
  (.seq (.seq (.region [.op ⟨(some 9), none, (.r (.mv (.t 0)))⟩,
    .op ⟨(some 10), none, (.r (.nilck (.t 9)))⟩,
    .op ⟨(some 11), none, (.r (.faddr 2 (.t 10)))⟩,
    .op ⟨(some 12), none, (.r (.load false 1 (.t 11)))⟩,
    .op ⟨(some 13), none, (.r (.mv (.t 0)))⟩,
    .op ⟨(some 14), none, (.r (.nilck (.t 13)))⟩,
    .op ⟨(some 15), none, (.r (.faddr 3 (.t 14)))⟩,
    .op ⟨(some 16), none, (.r (.load false 1 (.t 15)))⟩,
    .op ⟨(some 17), none, (.r (.slsl 1 (.t 12) none (some (.t 16)) none))⟩,
    .op ⟨(some 18), none, (.r (.mv (.t 1)))⟩,
    .op ⟨(some 19), none, (.e (.call n_slices_Contains_int_int [(.t 17), (.t 18)]))⟩,
    .op ⟨(some 20), none, (.r (.un .not (.t 19)))⟩,
    .op ⟨(some 21), none, (.r (.mv (.t 20)))⟩,
    .op ⟨(some 22), (some (21, false)), (.r (.mv (.t 0)))⟩,
    .op ⟨(some 23), (some (21, false)), (.r (.nilck (.t 22)))⟩,
    .op ⟨(some 24), (some (21, false)), (.r (.faddr 4 (.t 23)))⟩,
    .op ⟨(some 25), (some (21, false)), (.r (.load false 1 (.t 24)))⟩,
    .op ⟨(some 26), (some (21, false)), (.r (.bin .eql (.t 25) (.c (.int .i64 (.ofNat 0)))))⟩,
    .op ⟨(some 27), none, (.r (.pick (.t 21) (.c (.bool true)) (.t 26)))⟩])
  (.cond (.t 27)
   (.seq (.region [.op ⟨(some 8), none, (.r (.mv (.c (.bool false))))⟩])
   .ret)
   .skip))
  (.seq (.region [.op ⟨(some 28), none, (.r (.mv (.t 0)))⟩,
    .op ⟨(some 29), none, (.r (.nilck (.t 28)))⟩,
    .op ⟨(some 30), none, (.r (.faddr 4 (.t 29)))⟩,
    .op ⟨(some 31), none, (.r (.load false 1 (.t 30)))⟩,
    .op ⟨(some 32), none, (.r (.bin .sub (.t 31) (.c (.int .i64 (.ofNat 1)))))⟩,
    .op ⟨(some 33), none, (.r (.nilck (.t 28)))⟩,
    .op ⟨(some 34), none, (.r (.faddr 4 (.t 33)))⟩,
    .op ⟨none, none, (.e (.store 1 (.t 34) (.t 32)))⟩])
  (.seq (.seq (.region [.op ⟨(some 35), none, (.r (.mv (.t 2)))⟩,
    .op ⟨(some 36), none, (.r (.mv (.t 35)))⟩,
    .op ⟨(some 37), (some (36, true)), (.r (.mv (.t 0)))⟩,
    .op ⟨(some 38), (some (36, true)), (.r (.nilck (.t 37)))⟩,
    .op ⟨(some 39), (some (36, true)), (.r (.faddr 5 (.t 38)))⟩,
    .op ⟨(some 40), (some (36, true)), (.r (.load false 1 (.t 39)))⟩,
    .op ⟨(some 41), (some (36, true)), (.r (.lensl (.t 40)))⟩,
    .op ⟨(some 42), (some (36, true)), (.r (.mv (.t 0)))⟩,
    .op ⟨(some 43), (some (36, true)), (.r (.nilck (.t 42)))⟩,
    .op ⟨(some 44), (some (36, true)), (.r (.faddr 0 (.t 43)))⟩,
    .op ⟨(some 45), (some (36, true)), (.r (.load false 1 (.t 44)))⟩,
    .op ⟨(some 46), (some (36, true)), (.r (.bin .lss (.t 41) (.t 45)))⟩,
    .op ⟨(some 47), none, (.r (.pick (.t 36) (.t 46) (.c (.bool false))))⟩])
  (.cond (.t 47)
   (.region [.op ⟨(some 48), none, (.r (.mv (.t 0)))⟩,
     .op ⟨(some 49), none, (.r (.mv (.t 0)))⟩,
     .op ⟨(some 50), none, (.r (.nilck (.t 49)))⟩,
     .op ⟨(some 51), none, (.r (.faddr 5 (.t 50)))⟩,
     .op ⟨(some 52), none, (.r (.load false 1 (.t 51)))⟩,
     .op ⟨(some 53), none, (.r (.mv (.t 1)))⟩,
     .op ⟨(some 54), none, (.r (.mv (.t 3)))⟩,
     .op ⟨(some 55), none, (.r (.build [(.int .i64 (.ofNat 0)), (.str [])] [(0, 1, (.t 53)), (1, 1, (.t 54))]))⟩,
     .op ⟨(some 56), none, (.n (.bslice 0 2 1 [(.int .i64 (.ofNat 0)), (.str [])] [(0, 2, (.t 55))]))⟩,
     .op ⟨(some 57), none, (.e (.app 0 2 24 (.t 52) (.t 56)))⟩,
     .op ⟨(some 58), none, (.r (.nilck (.t 48)))⟩,
     .op ⟨(some 59), none, (.r (.faddr 5 (.t 58)))⟩,
     .op ⟨none, none, (.e (.store 1 (.t 59) (.t 57)))⟩])
   .skip))
  (.seq (.region [.op ⟨(some 8), none, (.r (.mv (.c (.bool true))))⟩])
  .ret))))) }
theorem tr_gather_Gather_Got : trF cx Tryd.f27 = pf_gather_Gather_Got := by kernel_rfl
/-- (*depot/rs.Code).Size -/
def pf_rs_Code_Size : PF := { ntmps := 24, results := [.tmp 4], body :=
  (.seq (.region [.op ⟨(some 4), none, (.r (.mv (.c (.int .i64 (.ofNat 0)))))⟩])
  (.seq (.seq (.region [.op ⟨(some 6), none, (.r (.mv (.t 1)))⟩,
    .op ⟨(some 7), none, (.r (.bin .leq (.t 6) (.c (.int .i64 (.ofNat 0)))))⟩])
  (.cond (.t 7)
   (.seq (.region [.op ⟨(some 4), none, (.r (.mv (.c (.int .i64 (.ofNat 0)))))⟩])
   .ret)
   .skip))
  (.seq (.region [.op ⟨(some 8), none, (.r (.mv (.t 1)))⟩,
    .op ⟨(some 9), none, (.r (.mv (.t 0)))⟩,
    .op ⟨(some 10), none, (.r (.nilck (.t 9)))⟩,
    .op ⟨(some 11), none, (.r (.faddr 0 (.t 10)))⟩,
    .op ⟨(some 12), none, (.r (.load false 1 (.t 11)))⟩,
    .op ⟨(some 13), none, (.r (.bin .quo (.t 8) (.t 12)))⟩,
    .op ⟨(some 5), none, (.r (.mv (.t 13)))⟩])
  (.seq (.seq (.region [.op ⟨(some 14), none, (.r (.mv (.t 1)))⟩,
    .op ⟨(some 15), none, (.r (.mv (.t 0)))⟩,
    .op ⟨(some 16), none, (.r (.nilck (.t 15)))⟩,
    .op ⟨(some 17), none, (.r (.faddr 0 (.t 16)))⟩,
    .op ⟨(some 18), none, (.r (.load false 1 (.t 17)))⟩,
    .op ⟨(some 19), none, (.r (.bin .rem (.t 14) (.t 18)))⟩,
    .op ⟨(some 20), none, (.r (.bin .gtr (.t 19) (.c (.int .i64 (.ofNat 0)))))⟩])
  (.cond (.t 20)
   (.region [.op ⟨(some 21), none, (.r (.mv (.t 5)))⟩,
     .op ⟨(some 22), none, (.r (.bin .add (.t 21) (.c (.int .i64 (.ofNat 1)))))⟩,
     .op ⟨(some 5), none, (.r (.mv (.t 22)))⟩])
   .skip))
  (.seq (.region [.op ⟨(some 23), none, (.r (.mv (.t 5)))⟩,
    .op ⟨(some 4), none, (.r (.mv (.t 23)))⟩])
  .ret))))) }
theorem tr_rs_Code_Size : trF cx Tryd.f28 = pf_rs_Code_Size := by kernel_rfl
def l0_task_Task_more : PC :=
  (.seq (.region [.op ⟨(some 11), none, (.r (.bin .lss (.t 10) (.t 9)))⟩])
  (.seq (.cond (.t 11)
   .skip
   (.exit 0))
  (.seq (.block 1 (.seq (.region [.op ⟨(some 12), none, (.r (.iasl 1 (.t 8) (.t 10)))⟩,
     .op ⟨(some 13), none, (.r (.load false 1 (.t 12)))⟩,
     .op ⟨(some 3), none, (.r (.mv (.t 13)))⟩])
   (.region [.op ⟨(some 14), none, (.r (.mv (.t 0)))⟩,
     .op ⟨(some 15), none, (.r (.mv (.t 0)))⟩,
     .op ⟨(some 16), none, (.r (.nilck (.t 15)))⟩,
     .op ⟨(some 17), none, (.r (.faddr 19 (.t 16)))⟩,
     .op ⟨(some 18), none, (.r (.load false 1 (.t 17)))⟩,
     .op ⟨(some 19), none, (.r (.mv (.t 3)))⟩,
     .op ⟨(some 20), none, (.r (.iasl 1 (.t 18) (.t 19)))⟩,
     .op ⟨(some 21), none, (.r (.load false 1 (.t 20)))⟩,
     .op ⟨(some 22), none, (.r (.mv (.t 0)))⟩,
     .op ⟨(some 23), none, (.r (.nilck (.t 22)))⟩,
     .op ⟨(some 24), none, (.r (.faddr 37 (.t 23)))⟩,
     .op ⟨(some 25), none, (.r (.faddr 0 (.t 24)))⟩,
     .op ⟨(some 26), none, (.r (.load false 1 (.t 25)))⟩,
     .op ⟨(some 27), none, (.r (.build [(.int .i64 (.ofNat 0)), (.int .i64 (.ofNat 0)), (.int .i64 (.ofNat 0)), (.int .i64 (.ofNat 0)), (.int .i64 (.ofNat 0)), (.int .i64 (.ofNat 0)), (.str []), (.int .i64 (.ofNat 0)), (.str [])] [(0, 1, (.c (.int .i64 (.ofNat 2)))), (5, 1, (.c (.int .i64 (.ofNat 2)))), (7, 1, (.t 26))]))⟩,
     .op ⟨(some 28), none, (.e (.call n_task_Task_ask [(.t 14), (.t 21), (.t 27)]))⟩])))
  (.region [.op ⟨(some 29), none, (.r (.bin .add (.t 10) (.c (.int .i64 (.ofNat 1)))))⟩,
    .op ⟨(some 10), none, (.r (.mv (.t 29)))⟩]))))
/-- (*depot/task.Task).more -/
def pf_task_Task_more : PF := { ntmps := 30, results := [], body :=
  (.seq (.region [.op ⟨(some 4), none, (.r (.mv (.t 0)))⟩,
    .op ⟨(some 5), none, (.r (.nilck (.t 4)))⟩,
    .op ⟨(some 6), none, (.r (.faddr 44 (.t 5)))⟩,
    .op ⟨(some 7), none, (.r (.load false 1 (.t 6)))⟩,
    .op ⟨(some 8), none, (.e (.call n_gather_Gather_Next [(.t 7)]))⟩,
    .op ⟨(some 9), none, (.r (.lensl (.t 8)))⟩,
    .op ⟨(some 10), none, (.r (.mv (.c (.int .i64 (.ofNat 0)))))⟩])
  (.block 0 (.loop l0_task_Task_more))) }
theorem tr_task_Task_more : trF cx Tryd.f29 = pf_task_Task_more := by kernel_rfl
theorem tr_gf_Make : trF cx Tryd.f30 = Mk.pf := by kernel_rfl
def l0_matrix_Cauchy : PC :=
  (.seq (.region [.op ⟨(some 38), none, (.r (.bin .lss (.t 37) (.t 36)))⟩])
  (.seq (.cond (.t 38)
   .skip
   (.exit 2))
  (.seq (.block 3 (.seq (.region [.op ⟨(some 39), none, (.r (.mv (.t 37)))⟩,
     .op ⟨(some 10), none, (.r (.mv (.t 39)))⟩])
   (.region [.op ⟨(some 40), none, (.r (.mv (.t 9)))⟩,
     .op ⟨(some 41), none, (.r (.mv (.t 10)))⟩,
     .op ⟨(some 42), none, (.r (.mv (.t 0)))⟩,
     .op ⟨(some 43), none, (.r (.mv (.t 1)))⟩,
     .op ⟨(some 44), none, (.r (.mv (.t 8)))⟩,
     .op ⟨(some 45), none, (.r (.bin .add (.t 43) (.t 44)))⟩,
     .op ⟨(some 46), none, (.r (.mv (.t 10)))⟩,
     .op ⟨(some 47), none, (.r (.bin .xor (.t 45) (.t 46)))⟩,
     .op ⟨(some 48), none, (.r (.cint .u8 (.t 47)))⟩,
     .op ⟨(some 49), none, (.e (.call n_gf_Inv [(.t 42), (.t 48)]))⟩,
     .op ⟨(some 50), none, (.r (.iasl 1 (.t 40) (.t 41)))⟩,
     .op ⟨none, none, (.e (.store 1 (.t 50) (.t 49)))⟩])))
  (.region [.op ⟨(some 51), none, (.r (.bin .add (.t 37) (.c (.int .i64 (.ofNat 1)))))⟩,
    .op ⟨(some 37), none, (.r (.mv (.t 51)))⟩]))))
def l1_matrix_Cauchy : PC :=
  (.seq (.region [.op ⟨(some 31), none, (.r (.bin .lss (.t 30) (.t 29)))⟩])
  (.seq (.cond (.t 31)
   .skip
   (.exit 0))
  (.seq (.block 1 (.seq (.region [.op ⟨(some 32), none, (.r (.mv (.t 30)))⟩,
     .op ⟨(some 8), none, (.r (.mv (.t 32)))⟩])
   (.seq (.region [.op ⟨(some 33), none, (.r (.mv (.t 1)))⟩,
     .op ⟨(some 34), none, (.n (.mksl 2 1 1 [(.int .u8 (.ofNat 0))] (.t 33) (.t 33)))⟩,
     .op ⟨(some 9), none, (.r (.mv (.t 34)))⟩])
   (.seq (.seq (.region [.op ⟨(some 35), none, (.r (.mv (.t 9)))⟩,
     .op ⟨(some 36), none, (.r (.lensl (.t 35)))⟩,
     .op ⟨(some 37), none, (.r (.mv (.c (.int .i64 (.ofNat 0)))))⟩])
   (.block 2 (.loop l0_matrix_Cauchy)))
   (.region [.op ⟨(some 52), none, (.r (.mv (.t 7)))⟩,
     .op ⟨(some 53), none, (.r (.mv (.t 9)))⟩,
     .op ⟨(some 54), none, (.n (.bslice 0 1 1 [.nils] [(0, 1, (.t 53))]))⟩,
     .op ⟨(some 55), none, (.e (.app 0 1 24 (.t 52) (.t 54)))⟩,
     .op ⟨(some 7), none, (.r (.mv (.t 55)))⟩])))))
  (.region [.op ⟨(some 56), none, (.r (.bin .add (.t 30) (.c (.int .i64 (.ofNat 1)))))⟩,
    .op ⟨(some 30), none, (.r (.mv (.t 56)))⟩]))))
/-- depot/matrix.Cauchy -/
def pf_matrix_Cauchy : PF := { ntmps := 58, results := [.tmp 6], body :=
  (.seq (.region [.op ⟨(some 6), none, (.r (.mv (.c .nils)))⟩])
  (.seq (.seq (.region [.op ⟨(some 11), none, (.r (.mv (.t 1)))⟩,
    .op ⟨(some 12), none, (.r (.bin .lss (.t 11) (.c (.int .i64 (.ofNat 1)))))⟩,
    .op ⟨(some 13), none, (.r (.mv (.t 12)))⟩,
    .op ⟨(some 14), (some (13, false)), (.r (.mv (.t 1)))⟩,
    .op ⟨(some 15), (some (13, false)), (.r (.bin .gtr (.t 14) (.c (.int .i64 (.ofNat 8)))))⟩,
    .op ⟨(some 16), none, (.r (.pick (.t 13) (.c (.bool true)) (.t 15)))⟩,
    .op ⟨(some 17), none, (.r (.mv (.t 16)))⟩,
    .op ⟨(some 18), (some (17, false)), (.r (.mv (.t 2)))⟩,
    .op ⟨(some 19), (some (17, false)), (.r (.bin .lss (.t 18) (.c (.int .i64 (.ofNat 0)))))⟩,
    .op ⟨(some 20), none, (.r (.pick (.t 17) (.c (.bool true)) (.t 19)))⟩,
    .op ⟨(some 21), none, (.r (.mv (.t 20)))⟩,
    .op ⟨(some 22), (some (21, false)), (.r (.mv (.t 2)))⟩,
    .op ⟨(some 23), (some (21, false)), (.r (.mv (.t 1)))⟩,
    .op ⟨(some 24), (some (21, false)), (.r (.bin .sub (.c (.int .i64 (.ofNat 12))) (.t 23)))⟩,
    .op ⟨(some 25), (some (21, false)), (.r (.bin .gtr (.t 22) (.t 24)))⟩,
    .op ⟨(some 26), none, (.r (.pick (.t 21) (.c (.bool true)) (.t 25)))⟩])
  (.cond (.t 26)
   (.seq (.region [.op ⟨(some 6), none, (.r (.mv (.c .nils)))⟩])
   .ret)
   .skip))
  (.seq (.region [.op ⟨(some 27), none, (.r (.mv (.t 1)))⟩,
    .op ⟨(some 28), none, (.e (.call n_matrix_Identity [(.t 27)]))⟩,
    .op ⟨(some 7), none, (.r (.mv (.t 28)))⟩])
  (.seq (.seq (.region [.op ⟨(some 29), none, (.r (.mv (.t 2)))⟩,
    .op ⟨(some 30), none, (.r (.mv (.c (.int .i64 (.ofNat 0)))))⟩])
  (.block 0 (.loop l1_matrix_Cauchy)))
  (.seq (.region [.op ⟨(some 57), none, (.r (.mv (.t 7)))⟩,
    .op ⟨(some 6), none, (.r (.mv (.t 57)))⟩])
  .ret))))) }
theorem tr_matrix_Cauchy : trF cx Tryd.f31 = pf_matrix_Cauchy := by kernel_rfl
def l0_chain_Hash : PC :=
  (.seq (.region [.op ⟨(some 8), none, (.r (.bin .lss (.t 7) (.t 6)))⟩])
  (.seq (.cond (.t 8)
   .skip
   (.exit 0))
  (.seq (.block 1 (.seq (.region [.op ⟨(some 9), none, (.r (.mv (.t 7)))⟩,
     .op ⟨(some 4), none, (.r (.mv (.t 9)))⟩])
   (.seq (.region [.op ⟨(some 10), none, (.r (.mv (.t 3)))⟩,
     .op ⟨(some 11), none, (.r (.mv (.t 0)))⟩,
     .op ⟨(some 12), none, (.r (.mv (.t 4)))⟩,
     .op ⟨(some 13), none, (.r (.ixstr (.t 11) (.t 12)))⟩,
     .op ⟨(some 14), none, (.r (.cint .u32 (.t 13)))⟩,
     .op ⟨(some 15), none, (.r (.bin .xor (.t 10) (.t 14)))⟩,
     .op ⟨(some 3), none, (.r (.mv (.t 15)))⟩])
   (.region [.op ⟨(some 16), none, (.r (.mv (.t 3)))⟩,
     .op ⟨(some 17), none, (.r (.bin .mul (.t 16) (.c (.int .u32 (.ofNat 16777619)))))⟩,
     .op ⟨(some 3), none, (.r (.mv (.t 17)))⟩]))))
  (.region [.op ⟨(some 18), none, (.r (.bin .add (.t 7) (.c (.int .i64 (.ofNat 1)))))⟩,
    .op ⟨(some 7), none, (.r (.mv (.t 18)))⟩]))))
/-- depot/chain.Hash -/
def pf_chain_Hash : PF := { ntmps := 20, results := [.tmp 2], body :=
  (.seq (.region [.op ⟨(some 2), none, (.r (.mv (.c (.int .u32 (.ofNat 0)))))⟩])
  (.seq (.region [.op ⟨(some 3), none, (.r (.mv (.c (.int .u32 (.ofNat 2166136261)))))⟩])
  (.seq (.seq (.region [.op ⟨(some 5), none, (.r (.mv (.t 0)))⟩,
    .op ⟨(some 6), none, (.r (.lens (.t 5)))⟩,
    .op ⟨(some 7), none, (.r (.mv (.c (.int .i64 (.ofNat 0)))))⟩])
  (.block 0 (.loop l0_chain_Hash)))
  (.seq (.region [.op ⟨(some 19), none, (.r (.mv (.t 3)))⟩,
    .op ⟨(some 2), none, (.r (.mv (.t 19)))⟩])
  .ret)))) }
theorem tr_chain_Hash : trF cx Tryd.f32 = pf_chain_Hash := by kernel_rfl
/-- (*depot/task.Task).gathered -/
def pf_task_Task_gathered : PF := { ntmps := 84, results := [], body :=
  (.seq (.region [.op ⟨(some 3), none, (.n (.box (.t 1)))⟩])
  (.seq (.region [.op ⟨(some 6), none, (.r (.mv (.t 0)))⟩,
    .op ⟨(some 7), none, (.r (.nilck (.t 6)))⟩,
    .op ⟨(some 8), none, (.r (.faddr 44 (.t 7)))⟩,
    .op ⟨(some 9), none, (.r (.load false 1 (.t 8)))⟩,
    .op ⟨(some 10), none, (.e (.call n_gather_Gather_State [(.t 9)]))⟩,
    .op ⟨(some 4), none, (.r (.mv (.t 10)))⟩])
  (.seq (.seq (.region [.op ⟨(some 11), none, (.r (.mv (.t 4)))⟩,
    .op ⟨(some 12), none, (.r (.bin .eql (.t 11) (.c (.int .i64 (.ofNat 0)))))⟩])
  (.cond (.t 12)
   .ret
   .skip))
  (.seq (.region [.op ⟨(some 5), none, (.r (.mv (.c (.int .i64 (.ofNat 3)))))⟩])
  (.seq (.seq (.region [.op ⟨(some 13), none, (.r (.mv (.t 4)))⟩,
    .op ⟨(some 14), none, (.r (.bin .eql (.t 13) (.c (.int .i64 (.ofNat 1)))))⟩])
  (.cond (.t 14)
   (.region [.op ⟨(some 16), none, (.r (.mv (.t 0)))⟩,
     .op ⟨(some 17), none, (.r (.mv (.t 0)))⟩,
     .op ⟨(some 18), none, (.r (.nilck (.t 17)))⟩,
     .op ⟨(some 19), none, (.r (.faddr 6 (.t 18)))⟩,
     .op ⟨(some 20), none, (.r (.load false 1 (.t 19)))⟩,
     .op ⟨(some 21), none, (.r (.mv (.t 0)))⟩,
     .op ⟨(some 22), none, (.r (.nilck (.t 21)))⟩,
     .op ⟨(some 23), none, (.r (.faddr 37 (.t 22)))⟩,
     .op ⟨(some 24), none, (.r (.faddr 4 (.t 23)))⟩,
     .op ⟨(some 25), none, (.r (.load false 1 (.t 24)))⟩,
     .op ⟨(some 26), none, (.r (.mv (.t 0)))⟩,
     .op ⟨(some 27), none, (.r (.nilck (.t 26)))⟩,
     .op ⟨(some 28), none, (.r (.faddr 44 (.t 27)))⟩,
     .op ⟨(some 29), none, (.r (.load false 1 (.t 28)))⟩,
     .op ⟨(some 30), none, (.e (.call n_gather_Gather_Parts [(.t 29)]))⟩,
     .again ⟨(some 25), none, (.r (.load false 1 (.t 24)))⟩,
     .again ⟨(some 20), none, (.r (.load false 1 (.t 19)))⟩,
     .op ⟨(some 31), none, (.e (.call n_rs_Code_Decode [(.t 20), (.t 25), (.t 30)]))⟩,
     .op ⟨(some 15), none, (.r (.mv (.t 31)))⟩,
     .op ⟨(some 32), none, (.r (.ext 0 (.t 15)))⟩,
     .op ⟨(some 33), none, (.r (.ext 1 (.t 15)))⟩,
     .op ⟨(some 34), none, (.r (.nilck (.t 16)))⟩,
     .op ⟨(some 35), none, (.r (.faddr 45 (.t 34)))⟩,
     .op ⟨none, none, (.e (.store 1 (.t 35) (.t 32)))⟩,
     .op ⟨(some 5), none, (.r (.mv (.t 33)))⟩])
   .skip))
  (.block 0 (.seq (.region [.op ⟨(some 49), none, (.r (.mv (.t 5)))⟩,
     .op ⟨(some 50), none, (.r (.bin .neq (.t 49) (.c (.int .i64 (.ofNat 0)))))⟩,
     .op ⟨(some 48), none, (.r (.mv (.t 50)))⟩])
   (.cond (.t 48)
    (.seq (.region [.op ⟨(some 51), none, (.r (.mv (.t 0)))⟩,
      .op ⟨(some 52), none, (.r (.nilck (.t 51)))⟩,
      .op ⟨(some 53), none, (.r (.faddr 43 (.t 52)))⟩,
      .op ⟨none, none, (.e (.store 1 (.t 53) (.c (.bool false))))⟩])
    (.seq (.region [.op ⟨(some 54), none, (.r (.mv (.t 0)))⟩,
      .op ⟨(some 55), none, (.r (.mv (.t 0)))⟩,
      .op ⟨(some 56), none, (.r (.nilck (.t 55)))⟩,
      .op ⟨(some 57), none, (.r (.faddr 51 (.t 56)))⟩,
      .op ⟨(some 58), none, (.r (.load false 1 (.t 57)))⟩,
      .op ⟨(some 59), none, (.r (.mv (.t 0)))⟩,
      .op ⟨(some 60), none, (.r (.nilck (.t 59)))⟩,
      .op ⟨(some 61), none, (.r (.faddr 37 (.t 60)))⟩,
      .op ⟨(some 62), none, (.r (.faddr 0 (.t 61)))⟩,
      .op ⟨(some 63), none, (.r (.load false 1 (.t 62)))⟩,
      .op ⟨(some 64), none, (.n (.bslice 0 1 1 [(.int .i64 (.ofNat 0))] [(0, 1, (.t 63))]))⟩,
      .op ⟨(some 65), none, (.e (.app 0 1 8 (.t 58) (.t 64)))⟩,
      .op ⟨(some 66), none, (.r (.nilck (.t 54)))⟩,
      .op ⟨(some 67), none, (.r (.faddr 51 (.t 66)))⟩,
      .op ⟨none, none, (.e (.store 1 (.t 67) (.t 65)))⟩])
    (.region [.op ⟨(some 68), none, (.r (.mv (.t 0)))⟩,
      .op ⟨(some 69), none, (.r (.load true 14 (.t 3)))⟩,
      .op ⟨(some 70), none, (.r (.mv (.t 0)))⟩,
      .op ⟨(some 71), none, (.r (.nilck (.t 70)))⟩,
      .op ⟨(some 72), none, (.r (.faddr 42 (.t 71)))⟩,
      .op ⟨(some 73), none, (.r (.load false 1 (.t 72)))⟩,
      .op ⟨(some 74), none, (.e (.call n_task_Task_forget [(.t 68), (.t 69), (.t 73)]))⟩])))
    (.seq (.region [.op ⟨(some 76), none, (.r (.mv (.t 0)))⟩,
      .op ⟨(some 77), none, (.r (.nilck (.t 76)))⟩,
      .op ⟨(some 78), none, (.r (.faddr 17 (.t 77)))⟩,
      .op ⟨(some 79), none, (.r (.load false 1 (.t 78)))⟩,
      .op ⟨(some 80), none, (.r (.bin .lss (.t 79) (.c (.int .i64 (.ofNat 0)))))⟩,
      .op ⟨(some 75), none, (.r (.mv (.t 80)))⟩])
    (.cond (.t 75)
     (.region [.op ⟨(some 81), none, (.r (.mv (.t 0)))⟩,
       .op ⟨(some 82), none, (.r (.load true 14 (.t 3)))⟩,
       .op ⟨(some 83), none, (.e (.call n_task_Task_decide [(.t 81), (.t 82)]))⟩])
     (.region [.op ⟨(some 36), none, (.r (.mv (.t 0)))⟩,
       .op ⟨(some 37), none, (.r (.load true 14 (.t 3)))⟩,
       .op ⟨(some 38), none, (.r (.mv (.t 0)))⟩,
       .op ⟨(some 39), none, (.r (.nilck (.t 38)))⟩,
       .op ⟨(some 40), none, (.r (.faddr 6 (.t 39)))⟩,
       .op ⟨(some 41), none, (.r (.load false 1 (.t 40)))⟩,
       .op ⟨(some 42), none, (.r (.mv (.t 0)))⟩,
       .op ⟨(some 43), none, (.r (.nilck (.t 42)))⟩,
       .op ⟨(some 44), none, (.r (.faddr 45 (.t 43)))⟩,
       .op ⟨(some 45), none, (.r (.load false 1 (.t 44)))⟩,
       .op ⟨(some 46), none, (.e (.call n_rs_Code_Encode [(.t 41), (.t 45)]))⟩,
       .again ⟨(some 37), none, (.r (.load true 14 (.t 3)))⟩,
       .op ⟨(some 47), none, (.e (.call n_task_Task_refill [(.t 36), (.t 37), (.t 46)]))⟩]))))))))))) }
theorem tr_task_Task_gathered : trF cx Tryd.f33 = pf_task_Task_gathered := by kernel_rfl
/-- (*depot/task.Task).found -/
def pf_task_Task_found : PF := { ntmps := 117, results := [], body :=
  (.seq (.region [.op ⟨(some 3), none, (.n (.box (.t 1)))⟩])
  (.seq (.region [.op ⟨(some 4), none, (.r (.mv (.t 0)))⟩,
    .op ⟨(some 5), none, (.r (.mv (.t 0)))⟩,
    .op ⟨(some 6), none, (.r (.nilck (.t 5)))⟩,
    .op ⟨(some 7), none, (.r (.faddr 42 (.t 6)))⟩,
    .op ⟨(some 8), none, (.r (.load false 1 (.t 7)))⟩,
    .op ⟨(some 9), none, (.r (.faddr 13 (.t 3)))⟩,
    .op ⟨(some 10), none, (.r (.load false 1 (.t 9)))⟩,
    .op ⟨(some 11), none, (.r (.bin .gtr (.t 8) (.t 10)))⟩,
    .op ⟨(some 12), none, (.r (.mv (.t 11)))⟩,
    .op ⟨(some 13), (some (12, true)), (.r (.mv (.t 0)))⟩,
    .op ⟨(some 14), (some (12, true)), (.r (.nilck (.t 13)))⟩,
    .op ⟨(some 15), (some (12, true)), (.r (.faddr 42 (.t 14)))⟩,
    .op ⟨(some 16), (some (12, true)), (.r (.load false 1 (.t 15)))⟩,
    .op ⟨(some 17), (some (12, true)), (.r (.bin .gtr (.t 16) (.c (.int .i64 (.ofNat 0)))))⟩,
    .op ⟨(some 18), none, (.r (.pick (.t 12) (.t 17) (.c (.bool false))))⟩,
    .op ⟨(some 19), none, (.r (.mv (.t 18)))⟩,
    .op ⟨(some 20), (some (19, true)), (.r (.mv (.t 0)))⟩,
    .op ⟨(some 21), (some (19, true)), (.r (.nilck (.t 20)))⟩,
    .op ⟨(some 22), (some (19, true)), (.r (.faddr 37 (.t 21)))⟩,
    .op ⟨(some 23), (some (19, true)), (.r (.faddr 3 (.t 22)))⟩,
    .op ⟨(some 24), (some (19, true)), (.r (.load false 1 (.t 23)))⟩,
    .op ⟨(some 25), (some (19, true)), (.r (.faddr 12 (.t 3)))⟩,
    .op ⟨(some 26), (some (19, true)), (.r (.load false 1 (.t 25)))⟩,
    .op ⟨(some 27), (some (19, true)), (.e (.call n_when_Live [(.t 24), (.t 26)]))⟩,
    .op ⟨(some 28), none, (.r (.pick (.t 19) (.t 27) (.c (.bool false))))⟩,
    .op ⟨(some 29), none, (.r (.nilck (.t 4)))⟩,
    .op ⟨(some 30), none, (.r (.faddr 43 (.t 29)))⟩,
    .op ⟨none, none, (.e (.store 1 (.t 30) (.t 28)))⟩])
  (.seq (.seq (.region [.op ⟨(some 31), none, (.r (.mv (.t 0)))⟩,
    .op ⟨(some 32), none, (.r (.nilck (.t 31)))⟩,
    .op ⟨(some 33), none, (.r (.faddr 42 (.t 32)))⟩,
    .op ⟨(some 34), none, (.r (.load false 1 (.t 33)))⟩,
    .op ⟨(some 35), none, (.r (.bin .gtr (.t 34) (.c (.int .i64 (.ofNat 0)))))⟩,
    .op ⟨(some 36), none, (.r (.mv (.t 35)))⟩,
    .op ⟨(some 37), (some (36, true)), (.r (.mv (.t 0)))⟩,
    .op ⟨(some 38), (some (36, true)), (.r (.nilck (.t 37)))⟩,
    .op ⟨(some 39), (some (36, true)), (.r (.faddr 43 (.t 38)))⟩,
    .op ⟨(some 40), (some (36, true)), (.r (.load false 1 (.t 39)))⟩,
    .op ⟨(some 41), (some (36, true)), (.r (.un .not (.t 40)))⟩,
    .op ⟨(some 42), none, (.r (.pick (.t 36) (.t 41) (.c (.bool false))))⟩])
  (.cond (.t 42)
   (.region [.op ⟨(some 43), none, (.r (.mv (.t 0)))⟩,
     .op ⟨(some 44), none, (.r (.mv (.t 0)))⟩,
     .op ⟨(some 45), none, (.r (.nilck (.t 44)))⟩,
     .op ⟨(some 46), none, (.r (.faddr 51 (.t 45)))⟩,
     .op ⟨(some 47), none, (.r (.load false 1 (.t 46)))⟩,
     .op ⟨(some 48), none, (.r (.mv (.t 0)))⟩,
     .op ⟨(some 49), none, (.r (.nilck (.t 48)))⟩,
     .op ⟨(some 50), none, (.r (.faddr 37 (.t 49)))⟩,
     .op ⟨(some 51), none, (.r (.faddr 0 (.t 50)))⟩,
     .op ⟨(some 52), none, (.r (.load false 1 (.t 51)))⟩,
     .op ⟨(some 53), none, (.n (.bslice 0 1 1 [(.int .i64 (.ofNat 0))] [(0, 1, (.t 52))]))⟩,
     .op ⟨(some 54), none, (.e (.app 0 1 8 (.t 47) (.t 53)))⟩,
     .op ⟨(some 55), none, (.r (.nilck (.t 43)))⟩,
     .op ⟨(some 56), none, (.r (.faddr 51 (.t 55)))⟩,
     .op ⟨none, none, (.e (.store 1 (.t 56) (.t 54)))⟩])
   .skip))
  (.block 0 (.seq (.region [.op ⟨(some 61), none, (.r (.mv (.t 0)))⟩,
     .op ⟨(some 62), none, (.r (.nilck (.t 61)))⟩,
     .op ⟨(some 63), none, (.r (.faddr 17 (.t 62)))⟩,
     .op ⟨(some 64), none, (.r (.load false 1 (.t 63)))⟩,
     .op ⟨(some 65), none, (.r (.bin .geq (.t 64) (.c (.int .i64 (.ofNat 0)))))⟩,
     .op ⟨(some 66), none, (.r (.mv (.t 65)))⟩,
     .op ⟨(some 67), (some (66, true)), (.r (.mv (.t 0)))⟩,
     .op ⟨(some 68), (some (66, true)), (.r (.nilck (.t 67)))⟩,
     .op ⟨(some 69), (some (66, true)), (.r (.faddr 43 (.t 68)))⟩,
     .op ⟨(some 70), (some (66, true)), (.r (.load false 1 (.t 69)))⟩,
     .op ⟨(some 71), (some (66, true)), (.r (.un .not (.t 70)))⟩,
     .op ⟨(some 72), none, (.r (.pick (.t 66) (.t 71) (.c (.bool false))))⟩,
     .op ⟨(some 60), none, (.r (.mv (.t 72)))⟩])
   (.cond (.t 60)
    (.region [.op ⟨(some 73), none, (.r (.mv (.t 0)))⟩,
      .op ⟨(some 74), none, (.r (.load true 14 (.t 3)))⟩,
      .op ⟨(some 75), none, (.e (.call n_task_Task_clean [(.t 73), (.t 74)]))⟩])
    (.seq (.region [.op ⟨(some 77), none, (.r (.mv (.t 0)))⟩,
      .op ⟨(some 78), none, (.r (.nilck (.t 77)))⟩,
      .op ⟨(some 79), none, (.r (.faddr 42 (.t 78)))⟩,
      .op ⟨(some 80), none, (.r (.load false 1 (.t 79)))⟩,
      .op ⟨(some 81), none, (.r (.bin .eql (.t 80) (.c (.int .i64 (.ofNat 0)))))⟩,
      .op ⟨(some 82), none, (.r (.mv (.t 81)))⟩,
      .op ⟨(some 83), (some (82, true)), (.r (.mv (.t 0)))⟩,
      .op ⟨(some 84), (some (82, true)), (.r (.load true 14 (.t 3)))⟩,
      .op ⟨(some 85), (some (82, true)), (.e (.call n_task_Task_unseen [(.t 83), (.t 84)]))⟩,
      .op ⟨(some 86), none, (.r (.pick (.t 82) (.t 85) (.c (.bool false))))⟩,
      .op ⟨(some 76), none, (.r (.mv (.t 86)))⟩])
    (.cond (.t 76)
     (.region [.op ⟨(some 87), none, (.r (.mv (.t 0)))⟩,
       .op ⟨(some 88), none, (.r (.load true 14 (.t 3)))⟩,
       .op ⟨(some 89), none, (.r (.mv (.t 0)))⟩,
       .op ⟨(some 90), none, (.r (.nilck (.t 89)))⟩,
       .op ⟨(some 91), none, (.r (.faddr 18 (.t 90)))⟩,
       .op ⟨(some 92), none, (.r (.load false 1 (.t 91)))⟩,
       .op ⟨(some 93), none, (.e (.call n_task_Task_forget [(.t 87), (.t 88), (.t 92)]))⟩])
     (.seq (.region [.op ⟨(some 95), none, (.r (.mv (.t 0)))⟩,
       .op ⟨(some 96), none, (.r (.nilck (.t 95)))⟩,
       .op ⟨(some 97), none, (.r (.faddr 43 (.t 96)))⟩,
       .op ⟨(some 98), none, (.r (.load false 1 (.t 97)))⟩,
       .op ⟨(some 99), none, (.r (.mv (.t 98)))⟩,
       .op ⟨(some 100), (some (99, true)), (.r (.mv (.t 0)))⟩,
       .op ⟨(some 101), (some (99, true)), (.r (.nilck (.t 100)))⟩,
       .op ⟨(some 102), (some (99, true)), (.r (.faddr 17 (.t 101)))⟩,
       .op ⟨(some 103), (some (99, true)), (.r (.load false 1 (.t 102)))⟩,
       .op ⟨(some 104), (some (99, true)), (.r (.bin .geq (.t 103) (.c (.int .i64 (.ofNat 0)))))⟩,
       .op ⟨(some 105), (some (99, true)), (.r (.mv (.t 104)))⟩,
       .op ⟨(some 106), (some (105, false)), (.r (.mv (.t 0)))⟩,
       .op ⟨(some 107), (some (105, false)), (.r (.nilck (.t 106)))⟩,
       .op ⟨(some 108), (some (105, false)), (.r (.faddr 8 (.t 107)))⟩,
       .op ⟨(some 109), (some (105, false)), (.r (.faddr 0 (.t 108)))⟩,
       .op ⟨(some 110), (some (105, false)), (.r (.load false 1 (.t 109)))⟩,
       .op ⟨(some 111), (some (105, false)), (.e (.call n_task_reads [(.t 110)]))⟩,
       .op ⟨(some 112), (some (99, true)), (.r (.pick (.t 105) (.c (.bool true)) (.t 111)))⟩,
       .op ⟨(some 113), none, (.r (.pick (.t 99) (.t 112) (.c (.bool false))))⟩,
       .op ⟨(some 94), none, (.r (.mv (.t 113)))⟩])
     (.cond (.t 94)
      (.region [.op ⟨(some 114), none, (.r (.mv (.t 0)))⟩,
        .op ⟨(some 115), none, (.r (.load true 14 (.t 3)))⟩,
        .op ⟨(some 116), none, (.e (.call n_task_Task_gather [(.t 114), (.t 115)]))⟩])
      (.region [.op ⟨(some 57), none, (.r (.mv (.t 0)))⟩,
        .op ⟨(some 58), none, (.r (.load true 14 (.t 3)))⟩,
        .op ⟨(some 59), none, (.e (.call n_task_Task_decide [(.t 57), (.t 58)]))⟩]))))))))))) }
theorem tr_task_Task_found : trF cx Tryd.f34 = pf_task_Task_found := by kernel_rfl
/-- (*depot/task.Task).scattered -/
def pf_task_Task_scattered : PF := { ntmps := 31, results := [], body :=
  (.seq (.region [.op ⟨(some 3), none, (.n (.box (.t 1)))⟩])
  (.seq (.seq (.region [.op ⟨(some 4), none, (.r (.mv (.t 0)))⟩,
    .op ⟨(some 5), none, (.r (.nilck (.t 4)))⟩,
    .op ⟨(some 6), none, (.r (.faddr 23 (.t 5)))⟩,
    .op ⟨(some 7), none, (.r (.load false 1 (.t 6)))⟩,
    .op ⟨(some 8), none, (.r (.mv (.t 0)))⟩,
    .op ⟨(some 9), none, (.r (.nilck (.t 8)))⟩,
    .op ⟨(some 10), none, (.r (.faddr 0 (.t 9)))⟩,
    .op ⟨(some 11), none, (.r (.faddr 0 (.t 10)))⟩,
    .op ⟨(some 12), none, (.r (.load false 1 (.t 11)))⟩,
    .op ⟨(some 13), none, (.r (.bin .geq (.t 7) (.t 12)))⟩])
  (.cond (.t 13)
   (.seq (.region [.op ⟨(some 14), none, (.r (.mv (.t 0)))⟩,
     .op ⟨(some 15), none, (.r (.load true 14 (.t 3)))⟩,
     .op ⟨(some 16), none, (.e (.call n_task_Task_write [(.t 14), (.t 15)]))⟩])
   .ret)
   .skip))
  (.seq (.region [.op ⟨(some 17), none, (.r (.mv (.t 0)))⟩,
    .op ⟨(some 18), none, (.r (.build [(.int .i64 (.ofNat 0)), .nils, (.bool false), (.int .u64 (.ofNat 0)), (.str []), (.int .i64 (.ofNat 0)), (.int .i64 (.ofNat 0)), (.int .i64 (.ofNat 0)), (.int .i64 (.ofNat 0))] [(0, 1, (.c (.int .i64 (.ofNat 14)))), (4, 1, (.c (.str [111, 117, 116, 32, 111, 102, 32, 109, 101, 109, 111, 114, 121, 32, 115, 116, 111, 114, 105, 110, 103, 32, 111, 98, 106, 101, 99, 116])))]))⟩,
    .op ⟨(some 19), none, (.e (.call n_task_Task_tell [(.t 17), (.t 18)]))⟩])
  (.seq (.region [.op ⟨(some 20), none, (.r (.mv (.t 0)))⟩,
    .op ⟨(some 21), none, (.r (.mv (.t 0)))⟩,
    .op ⟨(some 22), none, (.r (.nilck (.t 21)))⟩,
    .op ⟨(some 23), none, (.r (.faddr 18 (.t 22)))⟩,
    .op ⟨(some 24), none, (.r (.load false 1 (.t 23)))⟩,
    .op ⟨(some 25), none, (.n (.bslice 0 1 1 [(.int .i64 (.ofNat 0))] [(0, 1, (.t 24))]))⟩,
    .op ⟨(some 26), none, (.r (.nilck (.t 20)))⟩,
    .op ⟨(some 27), none, (.r (.faddr 51 (.t 26)))⟩,
    .op ⟨none, none, (.e (.store 1 (.t 27) (.t 25)))⟩])
  (.region [.op ⟨(some 28), none, (.r (.mv (.t 0)))⟩,
    .op ⟨(some 29), none, (.r (.load true 14 (.t 3)))⟩,
    .op ⟨(some 30), none, (.e (.call n_task_Task_clean [(.t 28), (.t 29)]))⟩]))))) }
theorem tr_task_Task_scattered : trF cx Tryd.f35 = pf_task_Task_scattered := by kernel_rfl
/-- (*depot/task.Task).written -/
def pf_task_Task_written : PF := { ntmps := 66, results := [], body :=
  (.seq (.region [.op ⟨(some 3), none, (.n (.box (.t 1)))⟩])
  (.seq (.seq (.region [.op ⟨(some 4), none, (.r (.mv (.t 0)))⟩,
    .op ⟨(some 5), none, (.r (.nilck (.t 4)))⟩,
    .op ⟨(some 6), none, (.r (.faddr 23 (.t 5)))⟩,
    .op ⟨(some 7), none, (.r (.load false 1 (.t 6)))⟩,
    .op ⟨(some 8), none, (.r (.bin .gtr (.t 7) (.c (.int .i64 (.ofNat 0)))))⟩])
  (.cond (.t 8)
   (.region [.op ⟨(some 9), none, (.r (.mv (.t 0)))⟩,
     .op ⟨(some 10), none, (.r (.mv (.t 0)))⟩,
     .op ⟨(some 11), none, (.r (.nilck (.t 10)))⟩,
     .op ⟨(some 12), none, (.r (.faddr 52 (.t 11)))⟩,
     .op ⟨(some 13), none, (.r (.load true 9 (.t 12)))⟩,
     .op ⟨(some 14), none, (.e (.call n_task_Task_tell [(.t 9), (.t 13)]))⟩])
   (.seq (.region [.op ⟨(some 15), none, (.r (.mv (.t 0)))⟩,
     .op ⟨(some 16), none, (.r (.build [(.int .i64 (.ofNat 0)), .nils, (.bool false), (.int .u64 (.ofNat 0)), (.str []), (.int .i64 (.ofNat 0)), (.int .i64 (.ofNat 0)), (.int .i64 (.ofNat 0)), (.int .i64 (.ofNat 0))] [(0, 1, (.c (.int .i64 (.ofNat 14)))), (4, 1, (.c (.str [111, 117, 116, 32, 111, 102, 32, 109, 101, 109, 111, 114, 121, 32, 115, 116, 111, 114, 105, 110, 103, 32, 111, 98, 106, 101, 99, 116])))]))⟩,
     .op ⟨(some 17), none, (.e (.call n_task_Task_tell [(.t 15), (.t 16)]))⟩])
   (.region [.op ⟨(some 18), none, (.r (.mv (.t 0)))⟩,
     .op ⟨(some 19), none, (.r (.mv (.t 0)))⟩,
     .op ⟨(some 20), none, (.r (.nilck (.t 19)))⟩,
     .op ⟨(some 21), none, (.r (.faddr 51 (.t 20)))⟩,
     .op ⟨(some 22), none, (.r (.load false 1 (.t 21)))⟩,
     .op ⟨(some 23), none, (.r (.mv (.t 0)))⟩,
     .op ⟨(some 24), none, (.r (.nilck (.t 23)))⟩,
     .op ⟨(some 25), none, (.r (.faddr 46 (.t 24)))⟩,
     .op ⟨(some 26), none, (.r (.faddr 0 (.t 25)))⟩,
     .op ⟨(some 27), none, (.r (.load false 1 (.t 26)))⟩,
     .op ⟨(some 28), none, (.n (.bslice 0 1 1 [(.int .i64 (.ofNat 0))] [(0, 1, (.t 27))]))⟩,
     .op ⟨(some 29), none, (.e (.app 0 1 8 (.t 22) (.t 28)))⟩,
     .op ⟨(some 30), none, (.r (.nilck (.t 18)))⟩,
     .op ⟨(some 31), none, (.r (.faddr 51 (.t 30)))⟩,
     .op ⟨none, none, (.e (.store 1 (.t 31) (.t 29)))⟩]))))
  (.seq (.seq (.region [.op ⟨(some 32), none, (.r (.mv (.t 0)))⟩,
    .op ⟨(some 33), none, (.r (.nilck (.t 32)))⟩,
    .op ⟨(some 34), none, (.r (.faddr 43 (.t 33)))⟩,
    .op ⟨(some 35), none, (.r (.load false 1 (.t 34)))⟩,
    .op ⟨(some 36), none, (.r (.mv (.t 35)))⟩,
    .op ⟨(some 37), (some (36, true)), (.r (.mv (.t 0)))⟩,
    .op ⟨(some 38), (some (36, true)), (.r (.nilck (.t 37)))⟩,
    .op ⟨(some 39), (some (36, true)), (.r (.faddr 37 (.t 38)))⟩,
    .op ⟨(some 40), (some (36, true)), (.r (.faddr 0 (.t 39)))⟩,
    .op ⟨(some 41), (some (36, true)), (.r (.load false 1 (.t 40)))⟩,
    .op ⟨(some 42), (some (36, true)), (.r (.mv (.t 0)))⟩,
    .op ⟨(some 43), (some (36, true)), (.r (.nilck (.t 42)))⟩,
    .op ⟨(some 44), (some (36, true)), (.r (.faddr 46 (.t 43)))⟩,
    .op ⟨(some 45), (some (36, true)), (.r (.faddr 0 (.t 44)))⟩,
    .op ⟨(some 46), (some (36, true)), (.r (.load false 1 (.t 45)))⟩,
    .op ⟨(some 47), (some (36, true)), (.r (.bin .neq (.t 41) (.t 46)))⟩,
    .op ⟨(some 48), none, (.r (.pick (.t 36) (.t 47) (.c (.bool false))))⟩])
  (.cond (.t 48)
   (.region [.op ⟨(some 49), none, (.r (.mv (.t 0)))⟩,
     .op ⟨(some 50), none, (.r (.mv (.t 0)))⟩,
     .op ⟨(some 51), none, (.r (.nilck (.t 50)))⟩,
     .op ⟨(some 52), none, (.r (.faddr 51 (.t 51)))⟩,
     .op ⟨(some 53), none, (.r (.load false 1 (.t 52)))⟩,
     .op ⟨(some 54), none, (.r (.mv (.t 0)))⟩,
     .op ⟨(some 55), none, (.r (.nilck (.t 54)))⟩,
     .op ⟨(some 56), none, (.r (.faddr 37 (.t 55)))⟩,
     .op ⟨(some 57), none, (.r (.faddr 0 (.t 56)))⟩,
     .op ⟨(some 58), none, (.r (.load false 1 (.t 57)))⟩,
     .op ⟨(some 59), none, (.n (.bslice 0 1 1 [(.int .i64 (.ofNat 0))] [(0, 1, (.t 58))]))⟩,
     .op ⟨(some 60), none, (.e (.app 0 1 8 (.t 53) (.t 59)))⟩,
     .op ⟨(some 61), none, (.r (.nilck (.t 49)))⟩,
     .op ⟨(some 62), none, (.r (.faddr 51 (.t 61)))⟩,
     .op ⟨none, none, (.e (.store 1 (.t 62) (.t 60)))⟩])
   .skip))
  (.region [.op ⟨(some 63), none, (.r (.mv (.t 0)))⟩,
    .op ⟨(some 64), none, (.r (.load true 14 (.t 3)))⟩,
    .op ⟨(some 65), none, (.e (.call n_task_Task_clean [(.t 63), (.t 64)]))⟩])))) }
theorem tr_task_Task_written : trF cx Tryd.f36 = pf_task_Task_written := by kernel_rfl
def l0_task_Task_clean : PC :=
  (.seq (.region [.op ⟨(some 14), none, (.r (.bin .lss (.t 13) (.t 12)))⟩])
  (.seq (.cond (.t 14)
   .skip
   (.exit 0))
  (.seq (.block 1 (.seq (.region [.op ⟨(some 15), none, (.r (.iasl 1 (.t 11) (.t 13)))⟩,
     .op ⟨(some 16), none, (.r (.load false 1 (.t 15)))⟩,
     .op ⟨(some 5), none, (.r (.mv (.t 16)))⟩])
   (.region [.op ⟨(some 17), none, (.r (.mv (.t 0)))⟩,
     .op ⟨(some 18), none, (.r (.load true 14 (.t 3)))⟩,
     .op ⟨(some 19), none, (.r (.mv (.t 0)))⟩,
     .op ⟨(some 20), none, (.r (.nilck (.t 19)))⟩,
     .op ⟨(some 21), none, (.r (.faddr 19 (.t 20)))⟩,
     .op ⟨(some 22), none, (.r (.load false 1 (.t 21)))⟩,
     .op ⟨(some 23), none, (.r (.mv (.t 5)))⟩,
     .op ⟨(some 24), none, (.r (.build [(.int .i64 (.ofNat 0)), (.int .i64 (.ofNat 0)), (.int .i64 (.ofNat 0)), (.int .i64 (.ofNat 0)), (.int .i64 (.ofNat 0)), (.int .i64 (.ofNat 0)), (.str []), (.int .i64 (.ofNat 0)), (.str [])] [(0, 1, (.c (.int .i64 (.ofNat 3)))), (5, 1, (.c (.int .i64 (.ofNat 2)))), (7, 1, (.t 23))]))⟩,
     .op ⟨(some 25), none, (.e (.call n_task_Task_all [(.t 17), (.t 18), (.t 22), (.t 24)]))⟩])))
  (.region [.op ⟨(some 26), none, (.r (.bin .add (.t 13) (.c (.int .i64 (.ofNat 1)))))⟩,
    .op ⟨(some 13), none, (.r (.mv (.t 26)))⟩]))))
/-- (*depot/task.Task).clean -/
def pf_task_Task_clean : PF := { ntmps := 30, results := [], body :=
  (.seq (.region [.op ⟨(some 3), none, (.n (.box (.t 1)))⟩])
  (.seq (.region [.op ⟨(some 6), none, (.r (.mv (.t 0)))⟩,
    .op ⟨(some 7), none, (.e (.call n_task_Task_enter [(.t 6), (.c (.int .i64 (.ofNat 8)))]))⟩])
  (.seq (.seq (.region [.op ⟨(some 8), none, (.r (.mv (.t 0)))⟩,
    .op ⟨(some 9), none, (.r (.nilck (.t 8)))⟩,
    .op ⟨(some 10), none, (.r (.faddr 51 (.t 9)))⟩,
    .op ⟨(some 11), none, (.r (.load false 1 (.t 10)))⟩,
    .op ⟨(some 12), none, (.r (.lensl (.t 11)))⟩,
    .op ⟨(some 13), none, (.r (.mv (.c (.int .i64 (.ofNat 0)))))⟩])
  (.block 0 (.loop l0_task_Task_clean)))
  (.region [.op ⟨(some 27), none, (.r (.mv (.t 0)))⟩,
    .op ⟨(some 28), none, (.r (.load true 14 (.t 3)))⟩,
    .op ⟨(some 29), none, (.e (.call n_task_Task_on [(.t 27), (.t 28)]))⟩])))) }
theorem tr_task_Task_clean : trF cx Tryd.f37 = pf_task_Task_clean := by kernel_rfl
/-- (*depot/task.Task).decide -/
def pf_task_Task_decide : PF := { ntmps := 182, results := [], body :=
  (.seq (.region [.op ⟨(some 3), none, (.n (.box (.t 1)))⟩])
  (.seq (.region [.op ⟨(some 11), none, (.r (.mv (.t 0)))⟩,
    .op ⟨(some 12), none, (.r (.nilck (.t 11)))⟩,
    .op ⟨(some 13), none, (.r (.faddr 37 (.t 12)))⟩,
    .op ⟨(some 14), none, (.r (.load true 5 (.t 13)))⟩,
    .op ⟨(some 4), none, (.n (.new 0 [(.int .i64 (.ofNat 0)), (.int .i64 (.ofNat 0)), (.int .i64 (.ofNat 0)), (.int .i64 (.ofNat 0)), (.int .i64 (.ofNat 0))]))⟩,
    .op ⟨none, none, (.e (.store 5 (.t 4) (.t 14)))⟩])
  (.seq (.seq (.region [.op ⟨(some 15), none, (.r (.mv (.t 0)))⟩,
    .op ⟨(some 16), none, (.r (.nilck (.t 15)))⟩,
    .op ⟨(some 17), none, (.r (.faddr 8 (.t 16)))⟩,
    .op ⟨(some 18), none, (.r (.faddr 0 (.t 17)))⟩,
    .op ⟨(some 19), none, (.r (.load false 1 (.t 18)))⟩,
    .op ⟨(some 20), none, (.r (.bin .eql (.t 19) (.c (.int .i64 (.ofNat 1)))))⟩,
    .op ⟨(some 21), none, (.r (.mv (.t 20)))⟩,
    .op ⟨(some 22), (some (21, false)), (.r (.mv (.t 0)))⟩,
    .op ⟨(some 23), (some (21, false)), (.r (.nilck (.t 22)))⟩,
    .op ⟨(some 24), (some (21, false)), (.r (.faddr 8 (.t 23)))⟩,
    .op ⟨(some 25), (some (21, false)), (.r (.faddr 0 (.t 24)))⟩,
    .op ⟨(some 26), (some (21, false)), (.r (.load false 1 (.t 25)))⟩,
    .op ⟨(some 27), (some (21, false)), (.r (.bin .eql (.t 26) (.c (.int .i64 (.ofNat 2)))))⟩,
    .op ⟨(some 28), none, (.r (.pick (.t 21) (.c (.bool true)) (.t 27)))⟩])
  (.cond (.t 28)
   (.seq (.region [.op ⟨(some 29), none, (.r (.mv (.t 0)))⟩,
     .op ⟨(some 30), none, (.r (.nilck (.t 29)))⟩,
     .op ⟨(some 31), none, (.r (.faddr 8 (.t 30)))⟩,
     .op ⟨(some 32), none, (.r (.faddr 0 (.t 31)))⟩,
     .op ⟨(some 33), none, (.r (.load false 1 (.t 32)))⟩,
     .op ⟨(some 34), none, (.r (.bin .eql (.t 33) (.c (.int .i64 (.ofNat 2)))))⟩,
     .op ⟨(some 35), none, (.r (.build [(.int .i64 (.ofNat 0)), .nils, (.bool false), (.int .u64 (.ofNat 0)), (.str []), (.int .i64 (.ofNat 0)), (.int .i64 (.ofNat 0)), (.int .i64 (.ofNat 0)), (.int .i64 (.ofNat 0))] [(0, 1, (.c (.int .i64 (.ofNat 1)))), (2, 1, (.t 34))]))⟩,
     .op ⟨(some 5), none, (.n (.new 0 [(.int .i64 (.ofNat 0)), .nils, (.bool false), (.int .u64 (.ofNat 0)), (.str []), (.int .i64 (.ofNat 0)), (.int .i64 (.ofNat 0)), (.int .i64 (.ofNat 0)), (.int .i64 (.ofNat 0))]))⟩,
     .op ⟨none, none, (.e (.store 9 (.t 5) (.t 35)))⟩])
   (.seq (.seq (.region [.op ⟨(some 36), none, (.r (.mv (.t 0)))⟩,
     .op ⟨(some 37), none, (.r (.nilck (.t 36)))⟩,
     .op ⟨(some 38), none, (.r (.faddr 43 (.t 37)))⟩,
     .op ⟨(some 39), none, (.r (.load false 1 (.t 38)))⟩])
   (.cond (.t 39)
    (.region [.op ⟨(some 40), none, (.r (.mv (.t 0)))⟩,
      .op ⟨(some 41), none, (.r (.nilck (.t 40)))⟩,
      .op ⟨(some 42), none, (.r (.faddr 7 (.t 41)))⟩,
      .op ⟨(some 43), none, (.r (.load false 1 (.t 42)))⟩,
      .op ⟨(some 44), none, (.r (.faddr 2 (.t 4)))⟩,
      .op ⟨(some 45), none, (.r (.load false 1 (.t 44)))⟩,
      .op ⟨(some 46), none, (.r (.mv (.t 0)))⟩,
      .op ⟨(some 47), none, (.r (.nilck (.t 46)))⟩,
      .op ⟨(some 48), none, (.r (.faddr 45 (.t 47)))⟩,
      .op ⟨(some 49), none, (.r (.load false 1 (.t 48)))⟩,
      .op ⟨(some 50), none, (.r (.faddr 1 (.t 4)))⟩,
      .op ⟨(some 51), none, (.r (.load false 1 (.t 50)))⟩,
      .op ⟨(some 52), none, (.r (.build [(.str []), (.int .i64 (.ofNat 0)), (.str []), (.int .i64 (.ofNat 0))] [(0, 1, (.t 43)), (1, 1, (.t 45)), (2, 1, (.t 49)), (3, 1, (.t 51))]))⟩,
      .op ⟨(some 53), none, (.n (.bslice 0 4 1 [(.str []), (.int .i64 (.ofNat 0)), (.str []), (.int .i64 (.ofNat 0))] [(0, 4, (.t 52))]))⟩,
      .op ⟨(some 54), none, (.r (.faddr 1 (.t 5)))⟩,
      .op ⟨none, none, (.e (.store 1 (.t 54) (.t 53)))⟩])
    .skip))
   (.seq (.region [.op ⟨(some 55), none, (.r (.mv (.t 0)))⟩,
     .op ⟨(some 56), none, (.r (.load true 9 (.t 5)))⟩,
     .op ⟨(some 57), none, (.e (.call n_task_Task_tell [(.t 55), (.t 56)]))⟩])
   (.seq (.region [.op ⟨(some 58), none, (.r (.mv (.t 0)))⟩,
     .op ⟨(some 59), none, (.r (.load true 14 (.t 3)))⟩,
     .op ⟨(some 60), none, (.e (.call n_task_Task_clean [(.t 58), (.t 59)]))⟩])
   .ret))))
   .skip))
  (.seq (.region [.op ⟨(some 61), none, (.r (.mv (.t 0)))⟩,
    .op ⟨(some 62), none, (.r (.nilck (.t 61)))⟩,
    .op ⟨(some 63), none, (.r (.faddr 7 (.t 62)))⟩,
    .op ⟨(some 64), none, (.r (.load false 1 (.t 63)))⟩,
    .op ⟨(some 65), none, (.r (.faddr 2 (.t 4)))⟩,
    .op ⟨(some 66), none, (.r (.load false 1 (.t 65)))⟩,
    .op ⟨(some 67), none, (.r (.faddr 3 (.t 4)))⟩,
    .op ⟨(some 68), none, (.r (.load false 1 (.t 67)))⟩,
    .op ⟨(some 69), none, (.r (.mv (.t 0)))⟩,
    .op ⟨(some 70), none, (.r (.nilck (.t 69)))⟩,
    .op ⟨(some 71), none, (.r (.faddr 45 (.t 70)))⟩,
    .op ⟨(some 72), none, (.r (.load false 1 (.t 71)))⟩,
    .op ⟨(some 73), none, (.r (.faddr 1 (.t 4)))⟩,
    .op ⟨(some 74), none, (.r (.load false 1 (.t 73)))⟩,
    .op ⟨(some 75), none, (.r (.build [(.str []), (.int .i64 (.ofNat 0)), (.int .i64 (.ofNat 0)), (.str []), (.int .i64 (.ofNat 0))] [(0, 1, (.t 64)), (1, 1, (.t 66)), (2, 1, (.t 68)), (3, 1, (.t 72)), (4, 1, (.t 74))]))⟩,
    .op ⟨(some 6), none, (.n (.new 0 [(.str []), (.int .i64 (.ofNat 0)), (.int .i64 (.ofNat 0)), (.str []), (.int .i64 (.ofNat 0))]))⟩,
    .op ⟨none, none, (.e (.store 5 (.t 6) (.t 75)))⟩])
  (.seq (.region [.op ⟨(some 77), none, (.r (.mv (.t 0)))⟩,
    .op ⟨(some 78), none, (.r (.nilck (.t 77)))⟩,
    .op ⟨(some 79), none, (.r (.faddr 8 (.t 78)))⟩,
    .op ⟨(some 80), none, (.r (.load true 9 (.t 79)))⟩,
    .op ⟨(some 81), none, (.r (.load true 5 (.t 6)))⟩,
    .op ⟨(some 82), none, (.r (.mv (.t 0)))⟩,
    .op ⟨(some 83), none, (.r (.nilck (.t 82)))⟩,
    .op ⟨(some 84), none, (.r (.faddr 43 (.t 83)))⟩,
    .op ⟨(some 85), none, (.r (.load false 1 (.t 84)))⟩,
    .op ⟨(some 86), none, (.r (.faddr 12 (.t 3)))⟩,
    .op ⟨(some 87), none, (.r (.load false 1 (.t 86)))⟩,
    .op ⟨(some 88), none, (.r (.mv (.t 0)))⟩,
    .op ⟨(some 89), none, (.r (.nilck (.t 88)))⟩,
    .op ⟨(some 90), none, (.r (.faddr 18 (.t 89)))⟩,
    .op ⟨(some 91), none, (.r (.load false 1 (.t 90)))⟩,
    .op ⟨(some 7), none, (.n (.new 0 [(.int .i64 (.ofNat 0)), .nils, (.bool false), (.int .u64 (.ofNat 0)), (.str []), (.int .i64 (.ofNat 0)), (.int .i64 (.ofNat 0)), (.int .i64 (.ofNat 0)), (.int .i64 (.ofNat 0))]))⟩,
    .op ⟨(some 8), none, (.n (.new 0 [(.str []), (.int .i64 (.ofNat 0)), (.int .i64 (.ofNat 0)), (.str []), (.int .i64 (.ofNat 0))]))⟩,
    .op ⟨(some 92), none, (.e (.call n_model_Next [(.t 80), (.t 81), (.t 85), (.t 87), (.t 91)]))⟩,
    .op ⟨(some 76), none, (.r (.mv (.t 92)))⟩,
    .op ⟨(some 93), none, (.r (.ext 0 (.t 76)))⟩,
    .op ⟨(some 94), none, (.r (.ext 1 (.t 76)))⟩,
    .op ⟨(some 95), none, (.r (.ext 2 (.t 76)))⟩,
    .op ⟨(some 96), none, (.r (.ext 3 (.t 76)))⟩,
    .op ⟨none, none, (.e (.store 9 (.t 7) (.t 93)))⟩,
    .op ⟨none, none, (.e (.store 5 (.t 8) (.t 94)))⟩,
    .op ⟨(some 9), none, (.r (.mv (.t 95)))⟩,
    .op ⟨(some 10), none, (.r (.mv (.t 96)))⟩])
  (.seq (.region [.op ⟨(some 97), none, (.r (.mv (.t 0)))⟩,
    .op ⟨(some 98), none, (.r (.load true 9 (.t 7)))⟩,
    .op ⟨(some 99), none, (.r (.nilck (.t 97)))⟩,
    .op ⟨(some 100), none, (.r (.faddr 52 (.t 99)))⟩,
    .op ⟨none, none, (.e (.store 9 (.t 100) (.t 98)))⟩])
  (.block 0 (.seq (.region [.op ⟨(some 124), none, (.r (.mv (.t 10)))⟩,
     .op ⟨(some 123), none, (.r (.mv (.t 124)))⟩])
   (.cond (.t 123)
    (.seq (.region [.op ⟨(some 125), none, (.r (.mv (.t 0)))⟩,
      .op ⟨(some 126), none, (.r (.mv (.t 0)))⟩,
      .op ⟨(some 127), none, (.r (.nilck (.t 126)))⟩,
      .op ⟨(some 128), none, (.r (.faddr 51 (.t 127)))⟩,
      .op ⟨(some 129), none, (.r (.load false 1 (.t 128)))⟩,
      .op ⟨(some 130), none, (.r (.faddr 0 (.t 4)))⟩,
      .op ⟨(some 131), none, (.r (.load false 1 (.t 130)))⟩,
      .op ⟨(some 132), none, (.n (.bslice 0 1 1 [(.int .i64 (.ofNat 0))] [(0, 1, (.t 131))]))⟩,
      .op ⟨(some 133), none, (.e (.app 0 1 8 (.t 129) (.t 132)))⟩,
      .op ⟨(some 134), none, (.r (.nilck (.t 125)))⟩,
      .op ⟨(some 135), none, (.r (.faddr 51 (.t 134)))⟩,
      .op ⟨none, none, (.e (.store 1 (.t 135) (.t 133)))⟩])
    (.seq (.region [.op ⟨(some 136), none, (.r (.mv (.t 0)))⟩,
      .op ⟨(some 137), none, (.e (.call n_task_Task_enter [(.t 136), (.c (.int .i64 (.ofNat 6)))]))⟩])
    (.seq (.region [.op ⟨(some 138), none, (.r (.mv (.t 0)))⟩,
      .op ⟨(some 139), none, (.r (.load true 14 (.t 3)))⟩,
      .op ⟨(some 140), none, (.r (.mv (.t 0)))⟩,
      .op ⟨(some 141), none, (.r (.nilck (.t 140)))⟩,
      .op ⟨(some 142), none, (.r (.faddr 20 (.t 141)))⟩,
      .op ⟨(some 143), none, (.r (.load false 1 (.t 142)))⟩,
      .op ⟨(some 144), none, (.r (.mv (.t 0)))⟩,
      .op ⟨(some 145), none, (.r (.nilck (.t 144)))⟩,
      .op ⟨(some 146), none, (.r (.faddr 18 (.t 145)))⟩,
      .op ⟨(some 147), none, (.r (.load false 1 (.t 146)))⟩,
      .op ⟨(some 148), none, (.r (.build [(.int .i64 (.ofNat 0)), (.int .i64 (.ofNat 0)), (.int .i64 (.ofNat 0)), (.int .i64 (.ofNat 0)), (.int .i64 (.ofNat 0)), (.int .i64 (.ofNat 0)), (.str []), (.int .i64 (.ofNat 0)), (.str [])] [(0, 1, (.c (.int .i64 (.ofNat 3)))), (5, 1, (.c (.int .i64 (.ofNat 1)))), (7, 1, (.t 147))]))⟩,
      .op ⟨(some 149), none, (.e (.call n_task_Task_all [(.t 138), (.t 139), (.t 143), (.t 148)]))⟩])
    (.region [.op ⟨(some 150), none, (.r (.mv (.t 0)))⟩,
      .op ⟨(some 151), none, (.r (.load true 14 (.t 3)))⟩,
      .op ⟨(some 152), none, (.e (.call n_task_Task_on [(.t 150), (.t 151)]))⟩]))))
    (.seq (.region [.op ⟨(some 154), none, (.r (.mv (.t 9)))⟩,
      .op ⟨(some 155), none, (.r (.un .not (.t 154)))⟩,
      .op ⟨(some 153), none, (.r (.mv (.t 155)))⟩])
    (.cond (.t 153)
     (.seq (.region [.op ⟨(some 156), none, (.r (.mv (.t 0)))⟩,
       .op ⟨(some 157), none, (.r (.load true 9 (.t 7)))⟩,
       .op ⟨(some 158), none, (.e (.call n_task_Task_tell [(.t 156), (.t 157)]))⟩])
     (.region [.op ⟨(some 159), none, (.r (.mv (.t 0)))⟩,
       .op ⟨(some 160), none, (.r (.load true 14 (.t 3)))⟩,
       .op ⟨(some 161), none, (.e (.call n_task_Task_clean [(.t 159), (.t 160)]))⟩]))
     (.seq (.region [.op ⟨(some 163), none, (.r (.mv (.t 0)))⟩,
       .op ⟨(some 164), none, (.r (.nilck (.t 163)))⟩,
       .op ⟨(some 165), none, (.r (.faddr 8 (.t 164)))⟩,
       .op ⟨(some 166), none, (.r (.faddr 0 (.t 165)))⟩,
       .op ⟨(some 167), none, (.r (.load false 1 (.t 166)))⟩,
       .op ⟨(some 168), none, (.r (.bin .eql (.t 167) (.c (.int .i64 (.ofNat 12)))))⟩,
       .op ⟨(some 162), none, (.r (.mv (.t 168)))⟩])
     (.cond (.t 162)
      (.seq (.region [.op ⟨(some 169), none, (.r (.mv (.t 0)))⟩,
        .op ⟨(some 170), none, (.r (.load true 5 (.t 4)))⟩,
        .op ⟨(some 171), none, (.r (.nilck (.t 169)))⟩,
        .op ⟨(some 172), none, (.r (.faddr 46 (.t 171)))⟩,
        .op ⟨none, none, (.e (.store 5 (.t 172) (.t 170)))⟩])
      (.seq (.region [.op ⟨(some 173), none, (.r (.mv (.t 0)))⟩,
        .op ⟨(some 174), none, (.r (.faddr 2 (.t 8)))⟩,
        .op ⟨(some 175), none, (.r (.load false 1 (.t 174)))⟩,
        .op ⟨(some 176), none, (.r (.nilck (.t 173)))⟩,
        .op ⟨(some 177), none, (.r (.faddr 46 (.t 176)))⟩,
        .op ⟨(some 178), none, (.r (.faddr 3 (.t 177)))⟩,
        .op ⟨none, none, (.e (.store 1 (.t 178) (.t 175)))⟩])
      (.region [.op ⟨(some 179), none, (.r (.mv (.t 0)))⟩,
        .op ⟨(some 180), none, (.r (.load true 14 (.t 3)))⟩,
        .op ⟨(some 181), none, (.e (.call n_task_Task_write [(.t 179), (.t 180)]))⟩])))
      (.seq (.region [.op ⟨(some 101), none, (.r (.mv (.t 0)))⟩,
        .op ⟨(some 102), none, (.r (.mv (.t 0)))⟩,
        .op ⟨(some 103), none, (.r (.nilck (.t 102)))⟩,
        .op ⟨(some 104), none, (.r (.faddr 18 (.t 103)))⟩,
        .op ⟨(some 105), none, (.r (.load false 1 (.t 104)))⟩,
        .op ⟨(some 106), none, (.r (.faddr 4 (.t 8)))⟩,
        .op ⟨(some 107), none, (.r (.load false 1 (.t 106)))⟩,
        .op ⟨(some 108), none, (.r (.faddr 1 (.t 8)))⟩,
        .op ⟨(some 109), none, (.r (.load false 1 (.t 108)))⟩,
        .op ⟨(some 110), none, (.r (.faddr 2 (.t 8)))⟩,
        .op ⟨(some 111), none, (.r (.load false 1 (.t 110)))⟩,
        .op ⟨(some 112), none, (.r (.faddr 3 (.t 8)))⟩,
        .op ⟨(some 113), none, (.r (.load false 1 (.t 112)))⟩,
        .op ⟨(some 114), none, (.r (.lens (.t 113)))⟩,
        .op ⟨(some 115), none, (.r (.build [(.int .i64 (.ofNat 0)), (.int .i64 (.ofNat 0)), (.int .i64 (.ofNat 0)), (.int .i64 (.ofNat 0)), (.int .i64 (.ofNat 0))] [(0, 1, (.t 105)), (1, 1, (.t 107)), (2, 1, (.t 109)), (3, 1, (.t 111)), (4, 1, (.t 114))]))⟩,
        .op ⟨(some 116), none, (.r (.nilck (.t 101)))⟩,
        .op ⟨(some 117), none, (.r (.faddr 46 (.t 116)))⟩,
        .op ⟨none, none, (.e (.store 5 (.t 117) (.t 115)))⟩])
      (.region [.op ⟨(some 118), none, (.r (.mv (.t 0)))⟩,
        .op ⟨(some 119), none, (.r (.load true 14 (.t 3)))⟩,
        .op ⟨(some 120), none, (.r (.faddr 3 (.t 8)))⟩,
        .op ⟨(some 121), none, (.r (.load false 1 (.t 120)))⟩,
        .op ⟨(some 122), none, (.e (.call n_task_Task_scatter [(.t 118), (.t 119), (.t 121)]))⟩]))))))))))))))) }
theorem tr_task_Task_decide : trF cx Tryd.f38 = pf_task_Task_decide := by kernel_rfl
/-- (*depot/task.Task).tell -/
def pf_task_Task_tell : PF := { ntmps := 11, results := [], body :=
  (.seq (.region [.op ⟨(some 3), none, (.n (.box (.t 1)))⟩])
  (.region [.op ⟨(some 4), none, (.r (.mv (.t 0)))⟩,
    .op ⟨(some 5), none, (.r (.mv (.t 0)))⟩,
    .op ⟨(some 6), none, (.r (.load true 9 (.t 3)))⟩,
    .op ⟨(some 7), none, (.r (.nilck (.t 4)))⟩,
    .op ⟨(some 8), none, (.r (.faddr 61 (.t 7)))⟩,
    .op ⟨none, none, (.e (.store 9 (.t 8) (.t 6)))⟩,
    .op ⟨(some 9), none, (.r (.nilck (.t 5)))⟩,
    .op ⟨(some 10), none, (.r (.faddr 70 (.t 9)))⟩,
    .op ⟨none, none, (.e (.store 1 (.t 10) (.c (.bool true))))⟩])) }
theorem tr_task_Task_tell : trF cx Tryd.f39 = pf_task_Task_tell := by kernel_rfl
/-- depot/pack.Read -/
def pf_pack_Read : PF := { ntmps := 7, results := [.tmp 2], body :=
  (.seq (.region [.op ⟨(some 2), none, (.r (.mv (.c .nilp)))⟩])
  (.seq (.region [.op ⟨(some 3), none, (.r (.mv (.t 0)))⟩,
    .op ⟨(some 4), none, (.e (.call n_pack_grown [(.t 3), (.c (.int .i64 (.ofNat 0)))]))⟩,
    .op ⟨(some 5), none, (.r (.build [.nils, (.int .i64 (.ofNat 0)), (.int .i64 (.ofNat 0))] [(0, 1, (.t 4))]))⟩,
    .op ⟨(some 6), none, (.n (.box (.t 5)))⟩,
    .op ⟨(some 2), none, (.r (.mv (.t 6)))⟩])
  .ret)) }
theorem tr_pack_Read : trF cx Tryd.f40 = pf_pack_Read := by kernel_rfl
def l0_pack_Reader_Num : PC :=
  (.seq (.block 1 (.seq (.seq (.region [.op ⟨(some 18), none, (.r (.mv (.t 0)))⟩,
     .op ⟨(some 19), none, (.r (.nilck (.t 18)))⟩,
     .op ⟨(some 20), none, (.r (.faddr 1 (.t 19)))⟩,
     .op ⟨(some 21), none, (.r (.load false 1 (.t 20)))⟩,
     .op ⟨(some 22), none, (.r (.mv (.t 0)))⟩,
     .op ⟨(some 23), none, (.r (.nilck (.t 22)))⟩,
     .op ⟨(some 24), none, (.r (.faddr 0 (.t 23)))⟩,
     .op ⟨(some 25), none, (.r (.load false 1 (.t 24)))⟩,
     .op ⟨(some 26), none, (.r (.lensl (.t 25)))⟩,
     .op ⟨(some 27), none, (.r (.bin .eql (.t 21) (.t 26)))⟩])
   (.cond (.t 27)
    (.seq (.region [.op ⟨(some 28), none, (.r (.mv (.t 0)))⟩,
      .op ⟨(some 29), none, (.r (.mv (.t 3)))⟩,
      .op ⟨(some 30), none, (.e (.call n_pack_Reader_fail [(.t 28), (.t 29), (.c (.int .i64 (.ofNat 3)))]))⟩])
    (.seq (.region [.op ⟨(some 2), none, (.r (.mv (.c (.int .i64 (.ofNat 0)))))⟩])
    .ret))
    .skip))
   (.seq (.region [.op ⟨(some 31), none, (.r (.mv (.t 0)))⟩,
     .op ⟨(some 32), none, (.r (.nilck (.t 31)))⟩,
     .op ⟨(some 33), none, (.r (.faddr 0 (.t 32)))⟩,
     .op ⟨(some 34), none, (.r (.load false 1 (.t 33)))⟩,
     .op ⟨(some 35), none, (.r (.mv (.t 0)))⟩,
     .op ⟨(some 36), none, (.r (.nilck (.t 35)))⟩,
     .op ⟨(some 37), none, (.r (.faddr 1 (.t 36)))⟩,
     .op ⟨(some 38), none, (.r (.load false 1 (.t 37)))⟩,
     .op ⟨(some 39), none, (.r (.iasl 1 (.t 34) (.t 38)))⟩,
     .op ⟨(some 40), none, (.r (.load false 1 (.t 39)))⟩,
     .op ⟨(some 6), none, (.r (.mv (.t 40)))⟩])
   (.seq (.seq (.region [.op ⟨(some 41), none, (.r (.mv (.t 5)))⟩,
     .op ⟨(some 42), none, (.r (.bin .gtr (.t 41) (.c (.int .i64 (.ofNat 0)))))⟩,
     .op ⟨(some 43), none, (.r (.mv (.t 42)))⟩,
     .op ⟨(some 44), (some (43, true)), (.r (.mv (.t 6)))⟩,
     .op ⟨(some 45), (some (43, true)), (.r (.bin .eql (.t 44) (.c (.int .u8 (.ofNat 0)))))⟩,
     .op ⟨(some 46), none, (.r (.pick (.t 43) (.t 45) (.c (.bool false))))⟩,
     .op ⟨(some 47), none, (.r (.mv (.t 46)))⟩,
     .op ⟨(some 48), (some (47, false)), (.r (.mv (.t 5)))⟩,
     .op ⟨(some 49), (some (47, false)), (.r (.bin .eql (.t 48) (.c (.int .i64 (.ofNat 9)))))⟩,
     .op ⟨(some 50), (some (47, false)), (.r (.mv (.t 49)))⟩,
     .op ⟨(some 51), (some (50, true)), (.r (.mv (.t 6)))⟩,
     .op ⟨(some 52), (some (50, true)), (.r (.bin .gtr (.t 51) (.c (.int .u8 (.ofNat 1)))))⟩,
     .op ⟨(some 53), (some (47, false)), (.r (.pick (.t 50) (.t 52) (.c (.bool false))))⟩,
     .op ⟨(some 54), none, (.r (.pick (.t 47) (.c (.bool true)) (.t 53)))⟩])
   (.cond (.t 54)
    (.seq (.region [.op ⟨(some 55), none, (.r (.mv (.t 0)))⟩,
      .op ⟨(some 56), none, (.r (.mv (.t 3)))⟩,
      .op ⟨(some 57), none, (.e (.call n_pack_Reader_fail [(.t 55), (.t 56), (.c (.int .i64 (.ofNat 4)))]))⟩])
    (.seq (.region [.op ⟨(some 2), none, (.r (.mv (.c (.int .i64 (.ofNat 0)))))⟩])
    .ret))
    .skip))
   (.seq (.region [.op ⟨(some 58), none, (.r (.mv (.t 0)))⟩,
     .op ⟨(some 59), none, (.r (.nilck (.t 58)))⟩,
     .op ⟨(some 60), none, (.r (.faddr 1 (.t 59)))⟩,
     .op ⟨(some 61), none, (.r (.load false 1 (.t 60)))⟩,
     .op ⟨(some 62), none, (.r (.bin .add (.t 61) (.c (.int .i64 (.ofNat 1)))))⟩,
     .op ⟨(some 63), none, (.r (.nilck (.t 58)))⟩,
     .op ⟨(some 64), none, (.r (.faddr 1 (.t 63)))⟩,
     .op ⟨none, none, (.e (.store 1 (.t 64) (.t 62)))⟩])
   (.seq (.region [.op ⟨(some 65), none, (.r (.mv (.t 4)))⟩,
     .op ⟨(some 66), none, (.r (.mv (.t 6)))⟩,
     .op ⟨(some 67), none, (.r (.bin .and (.t 66) (.c (.int .u8 (.ofNat 127)))))⟩,
     .op ⟨(some 68), none, (.r (.cint .u64 (.t 67)))⟩,
     .op ⟨(some 69), none, (.r (.mv (.t 5)))⟩,
     .op ⟨(some 70), none, (.r (.bin .mul (.c (.int .i64 (.ofNat 7))) (.t 69)))⟩,
     .op ⟨(some 71), none, (.r (.cint .u64 (.t 70)))⟩,
     .op ⟨(some 72), none, (.r (.bin .shl (.t 68) (.t 71)))⟩,
     .op ⟨(some 73), none, (.r (.bin .or (.t 65) (.t 72)))⟩,
     .op ⟨(some 4), none, (.r (.mv (.t 73)))⟩])
   (.seq (.region [.op ⟨(some 74), none, (.r (.mv (.t 6)))⟩,
     .op ⟨(some 75), none, (.r (.bin .lss (.t 74) (.c (.int .u8 (.ofNat 128)))))⟩])
   (.cond (.t 75)
    (.seq (.region [.op ⟨(some 76), none, (.r (.mv (.t 4)))⟩,
      .op ⟨(some 77), none, (.r (.bin .shr (.t 76) (.c (.int .u64 (.ofNat 1)))))⟩,
      .op ⟨(some 78), none, (.r (.cint .i64 (.t 77)))⟩,
      .op ⟨(some 79), none, (.r (.mv (.t 4)))⟩,
      .op ⟨(some 80), none, (.r (.bin .and (.t 79) (.c (.int .u64 (.ofNat 1)))))⟩,
      .op ⟨(some 81), none, (.r (.cint .i64 (.t 80)))⟩,
      .op ⟨(some 82), none, (.r (.un .neg (.t 81)))⟩,
      .op ⟨(some 83), none, (.r (.bin .xor (.t 78) (.t 82)))⟩,
      .op ⟨(some 2), none, (.r (.mv (.t 83)))⟩])
    .ret)
    .skip))))))))
  (.region [.op ⟨(some 16), none, (.r (.mv (.t 5)))⟩,
    .op ⟨(some 17), none, (.r (.bin .add (.t 16) (.c (.int .i64 (.ofNat 1)))))⟩,
    .op ⟨(some 5), none, (.r (.mv (.t 17)))⟩]))
/-- (*depot/pack.Reader).Num -/
def pf_pack_Reader_Num : PF := { ntmps := 84, results := [.tmp 2], body :=
  (.seq (.region [.op ⟨(some 2), none, (.r (.mv (.c (.int .i64 (.ofNat 0)))))⟩])
  (.seq (.seq (.region [.op ⟨(some 7), none, (.r (.mv (.t 0)))⟩,
    .op ⟨(some 8), none, (.r (.nilck (.t 7)))⟩,
    .op ⟨(some 9), none, (.r (.faddr 2 (.t 8)))⟩,
    .op ⟨(some 10), none, (.r (.load false 1 (.t 9)))⟩,
    .op ⟨(some 11), none, (.r (.bin .neq (.t 10) (.c (.int .i64 (.ofNat 0)))))⟩])
  (.cond (.t 11)
   (.seq (.region [.op ⟨(some 2), none, (.r (.mv (.c (.int .i64 (.ofNat 0)))))⟩])
   .ret)
   .skip))
  (.seq (.region [.op ⟨(some 12), none, (.r (.mv (.t 0)))⟩,
    .op ⟨(some 13), none, (.r (.nilck (.t 12)))⟩,
    .op ⟨(some 14), none, (.r (.faddr 1 (.t 13)))⟩,
    .op ⟨(some 15), none, (.r (.load false 1 (.t 14)))⟩,
    .op ⟨(some 3), none, (.r (.mv (.t 15)))⟩,
    .op ⟨(some 4), none, (.r (.mv (.c (.int .u64 (.ofNat 0)))))⟩])
  (.seq (.region [.op ⟨(some 5), none, (.r (.mv (.c (.int .i64 (.ofNat 0)))))⟩])
  (.block 0 (.loop l0_pack_Reader_Num)))))) }
theorem tr_pack_Reader_Num : trF cx Tryd.f41 = pf_pack_Reader_Num := by kernel_rfl
/-- (*depot/pack.Reader).End -/
def pf_pack_Reader_End : PF := { ntmps := 27, results := [.tmp 2], body :=
  (.seq (.region [.op ⟨(some 2), none, (.r (.mv (.c (.int .i64 (.ofNat 0)))))⟩])
  (.seq (.seq (.region [.op ⟨(some 3), none, (.r (.mv (.t 0)))⟩,
    .op ⟨(some 4), none, (.r (.nilck (.t 3)))⟩,
    .op ⟨(some 5), none, (.r (.faddr 2 (.t 4)))⟩,
    .op ⟨(some 6), none, (.r (.load false 1 (.t 5)))⟩,
    .op ⟨(some 7), none, (.r (.bin .eql (.t 6) (.c (.int .i64 (.ofNat 0)))))⟩,
    .op ⟨(some 8), none, (.r (.mv (.t 7)))⟩,
    .op ⟨(some 9), (some (8, true)), (.r (.mv (.t 0)))⟩,
    .op ⟨(some 10), (some (8, true)), (.r (.nilck (.t 9)))⟩,
    .op ⟨(some 11), (some (8, true)), (.r (.faddr 1 (.t 10)))⟩,
    .op ⟨(some 12), (some (8, true)), (.r (.load false 1 (.t 11)))⟩,
    .op ⟨(some 13), (some (8, true)), (.r (.mv (.t 0)))⟩,
    .op ⟨(some 14), (some (8, true)), (.r (.nilck (.t 13)))⟩,
    .op ⟨(some 15), (some (8, true)), (.r (.faddr 0 (.t 14)))⟩,
    .op ⟨(some 16), (some (8, true)), (.r (.load false 1 (.t 15)))⟩,
    .op ⟨(some 17), (some (8, true)), (.r (.lensl (.t 16)))⟩,
    .op ⟨(some 18), (some (8, true)), (.r (.bin .lss (.t 12) (.t 17)))⟩,
    .op ⟨(some 19), none, (.r (.pick (.t 8) (.t 18) (.c (.bool false))))⟩])
  (.cond (.t 19)
   (.region [.op ⟨(some 20), none, (.r (.mv (.t 0)))⟩,
     .op ⟨(some 21), none, (.r (.nilck (.t 20)))⟩,
     .op ⟨(some 22), none, (.r (.faddr 2 (.t 21)))⟩,
     .op ⟨none, none, (.e (.store 1 (.t 22) (.c (.int .i64 (.ofNat 5)))))⟩])
   .skip))
  (.seq (.region [.op ⟨(some 23), none, (.r (.mv (.t 0)))⟩,
    .op ⟨(some 24), none, (.r (.nilck (.t 23)))⟩,
    .op ⟨(some 25), none, (.r (.faddr 2 (.t 24)))⟩,
    .op ⟨(some 26), none, (.r (.load false 1 (.t 25)))⟩,
    .op ⟨(some 2), none, (.r (.mv (.t 26)))⟩])
  .ret))) }
theorem tr_pack_Reader_End : trF cx Tryd.f42 = pf_pack_Reader_End := by kernel_rfl
/-- slices.Contains[[]int,int] -/
def pf_slices_Contains_int_int : PF := { ntmps := 9, results := [.tmp 4], body :=
  (.seq (.region [.op ⟨(some 4), none, (.r (.mv (.c (.bool false))))⟩])
  (.seq (.region [.op ⟨(some 5), none, (.r (.mv (.t 0)))⟩,
    .op ⟨(some 6), none, (.r (.mv (.t 1)))⟩,
    .op ⟨(some 7), none, (.e (.call n_slices_Index_int_int [(.t 5), (.t 6)]))⟩,
    .op ⟨(some 8), none, (.r (.bin .geq (.t 7) (.c (.int .i64 (.ofNat 0)))))⟩,
    .op ⟨(some 4), none, (.r (.mv (.t 8)))⟩])
  .ret)) }
theorem tr_slices_Contains_int_int : trF cx Tryd.f43 = pf_slices_Contains_int_int := by kernel_rfl
def l0_gather_Gather_Next : PC :=
  (.seq (.seq (.region [.op ⟨(some 4), none, (.r (.mv (.t 0)))⟩,
    .op ⟨(some 5), none, (.r (.nilck (.t 4)))⟩,
    .op ⟨(some 6), none, (.r (.faddr 3 (.t 5)))⟩,
    .op ⟨(some 7), none, (.r (.load false 1 (.t 6)))⟩,
    .op ⟨(some 8), none, (.r (.mv (.t 0)))⟩,
    .op ⟨(some 9), none, (.r (.nilck (.t 8)))⟩,
    .op ⟨(some 10), none, (.r (.faddr 2 (.t 9)))⟩,
    .op ⟨(some 11), none, (.r (.load false 1 (.t 10)))⟩,
    .op ⟨(some 12), none, (.r (.lensl (.t 11)))⟩,
    .op ⟨(some 13), none, (.r (.bin .lss (.t 7) (.t 12)))⟩])
  (.cond (.t 13)
   .skip
   (.exit 0)))
  (.block 1 (.seq (.seq (.region [.op ⟨(some 14), none, (.r (.mv (.t 0)))⟩,
     .op ⟨(some 15), none, (.r (.nilck (.t 14)))⟩,
     .op ⟨(some 16), none, (.r (.faddr 5 (.t 15)))⟩,
     .op ⟨(some 17), none, (.r (.load false 1 (.t 16)))⟩,
     .op ⟨(some 18), none, (.r (.lensl (.t 17)))⟩,
     .op ⟨(some 19), none, (.r (.mv (.t 0)))⟩,
     .op ⟨(some 20), none, (.r (.nilck (.t 19)))⟩,
     .op ⟨(some 21), none, (.r (.faddr 0 (.t 20)))⟩,
     .op ⟨(some 22), none, (.r (.load false 1 (.t 21)))⟩,
     .op ⟨(some 23), none, (.r (.bin .geq (.t 18) (.t 22)))⟩,
     .op ⟨(some 24), none, (.r (.mv (.t 23)))⟩,
     .op ⟨(some 25), (some (24, false)), (.r (.mv (.t 0)))⟩,
     .op ⟨(some 26), (some (24, false)), (.r (.nilck (.t 25)))⟩,
     .op ⟨(some 27), (some (24, false)), (.r (.faddr 5 (.t 26)))⟩,
     .op ⟨(some 28), (some (24, false)), (.r (.load false 1 (.t 27)))⟩,
     .op ⟨(some 29), (some (24, false)), (.r (.lensl (.t 28)))⟩,
     .op ⟨(some 30), (some (24, false)), (.r (.mv (.t 0)))⟩,
     .op ⟨(some 31), (some (24, false)), (.r (.nilck (.t 30)))⟩,
     .op ⟨(some 32), (some (24, false)), (.r (.faddr 4 (.t 31)))⟩,
     .op ⟨(some 33), (some (24, false)), (.r (.load false 1 (.t 32)))⟩,
     .op ⟨(some 34), (some (24, false)), (.r (.bin .add (.t 29) (.t 33)))⟩,
     .op ⟨(some 35), (some (24, false)), (.r (.mv (.t 0)))⟩,
     .op ⟨(some 36), (some (24, false)), (.r (.nilck (.t 35)))⟩,
     .op ⟨(some 37), (some (24, false)), (.r (.faddr 0 (.t 36)))⟩,
     .op ⟨(some 38), (some (24, false)), (.r (.load false 1 (.t 37)))⟩,
     .op ⟨(some 39), (some (24, false)), (.r (.mv (.t 0)))⟩,
     .op ⟨(some 40), (some (24, false)), (.r (.nilck (.t 39)))⟩,
     .op ⟨(some 41), (some (24, false)), (.r (.faddr 1 (.t 40)))⟩,
     .op ⟨(some 42), (some (24, false)), (.r (.load false 1 (.t 41)))⟩,
     .op ⟨(some 43), (some (24, false)), (.r (.bin .add (.t 38) (.t 42)))⟩,
     .op ⟨(some 44), (some (24, false)), (.r (.bin .geq (.t 34) (.t 43)))⟩,
     .op ⟨(some 45), none, (.r (.pick (.t 24) (.c (.bool true)) (.t 44)))⟩])
   (.cond (.t 45)
    (.exit 0)
    .skip))
   (.seq (.region [.op ⟨(some 46), none, (.r (.mv (.t 3)))⟩,
     .op ⟨(some 47), none, (.r (.mv (.t 0)))⟩,
     .op ⟨(some 48), none, (.r (.nilck (.t 47)))⟩,
     .op ⟨(some 49), none, (.r (.faddr 2 (.t 48)))⟩,
     .op ⟨(some 50), none, (.r (.load false 1 (.t 49)))⟩,
     .op ⟨(some 51), none, (.r (.mv (.t 0)))⟩,
     .op ⟨(some 52), none, (.r (.nilck (.t 51)))⟩,
     .op ⟨(some 53), none, (.r (.faddr 3 (.t 52)))⟩,
     .op ⟨(some 54), none, (.r (.load false 1 (.t 53)))⟩,
     .op ⟨(some 55), none, (.r (.iasl 1 (.t 50) (.t 54)))⟩,
     .op ⟨(some 56), none, (.r (.load false 1 (.t 55)))⟩,
     .op ⟨(some 57), none, (.n (.bslice 0 1 1 [(.int .i64 (.ofNat 0))] [(0, 1, (.t 56))]))⟩,
     .op ⟨(some 58), none, (.e (.app 0 1 8 (.t 46) (.t 57)))⟩,
     .op ⟨(some 3), none, (.r (.mv (.t 58)))⟩])
   (.seq (.region [.op ⟨(some 59), none, (.r (.mv (.t 0)))⟩,
     .op ⟨(some 60), none, (.r (.nilck (.t 59)))⟩,
     .op ⟨(some 61), none, (.r (.faddr 3 (.t 60)))⟩,
     .op ⟨(some 62), none, (.r (.load false 1 (.t 61)))⟩,
     .op ⟨(some 63), none, (.r (.bin .add (.t 62) (.c (.int .i64 (.ofNat 1)))))⟩,
     .op ⟨(some 64), none, (.r (.nilck (.t 59)))⟩,
     .op ⟨(some 65), none, (.r (.faddr 3 (.t 64)))⟩,
     .op ⟨none, none, (.e (.store 1 (.t 65) (.t 63)))⟩])
   (.region [.op ⟨(some 66), none, (.r (.mv (.t 0)))⟩,
     .op ⟨(some 67), none, (.r (.nilck (.t 66)))⟩,
     .op ⟨(some 68), none, (.r (.faddr 4 (.t 67)))⟩,
     .op ⟨(some 69), none, (.r (.load false 1 (.t 68)))⟩,
     .op ⟨(some 70), none, (.r (.bin .add (.t 69) (.c (.int .i64 (.ofNat 1)))))⟩,
     .op ⟨(some 71), none, (.r (.nilck (.t 66)))⟩,
     .op ⟨(some 72), none, (.r (.faddr 4 (.t 71)))⟩,
     .op ⟨none, none, (.e (.store 1 (.t 72) (.t 70)))⟩]))))))
/-- (*depot/gather.Gather).Next -/
def pf_gather_Gather_Next : PF := { ntmps := 74, results := [.tmp 2], body :=
  (.seq (.region [.op ⟨(some 2), none, (.r (.mv (.c .nils)))⟩])
  (.scope (.seq (.region [.op ⟨(some 3), none, (.r (.mv (.c .nils)))⟩])
   (.seq .skip
   (.seq (.block 0 (.loop l0_gather_Gather_Next))
   (.seq (.region [.op ⟨(some 73), none, (.r (.mv (.t 3)))⟩,
     .op ⟨(some 2), none, (.r (.mv (.t 73)))⟩])
   .ret)))))) }
theorem tr_gather_Gather_Next : trF cx Tryd.f44 = pf_gather_Gather_Next := by kernel_rfl
def l0_matrix_Identity : PC :=
  (.seq (.region [.op ⟨(some 16), none, (.r (.bin .lss (.t 15) (.t 14)))⟩])
  (.seq (.cond (.t 16)
   .skip
   (.exit 0))
  (.seq (.block 1 (.seq (.region [.op ⟨(some 17), none, (.r (.mv (.t 15)))⟩,
     .op ⟨(some 4), none, (.r (.mv (.t 17)))⟩])
   (.seq (.region [.op ⟨(some 18), none, (.r (.mv (.t 3)))⟩,
     .op ⟨(some 19), none, (.r (.mv (.t 4)))⟩,
     .op ⟨(some 20), none, (.r (.mv (.t 0)))⟩,
     .op ⟨(some 21), none, (.n (.mksl 2 1 1 [(.int .u8 (.ofNat 0))] (.t 20) (.t 20)))⟩,
     .op ⟨(some 22), none, (.r (.iasl 1 (.t 18) (.t 19)))⟩,
     .op ⟨none, none, (.e (.store 1 (.t 22) (.t 21)))⟩])
   (.region [.op ⟨(some 23), none, (.r (.mv (.t 3)))⟩,
     .op ⟨(some 24), none, (.r (.mv (.t 4)))⟩,
     .op ⟨(some 25), none, (.r (.iasl 1 (.t 23) (.t 24)))⟩,
     .op ⟨(some 26), none, (.r (.load false 1 (.t 25)))⟩,
     .op ⟨(some 27), none, (.r (.mv (.t 4)))⟩,
     .op ⟨(some 28), none, (.r (.iasl 1 (.t 26) (.t 27)))⟩,
     .op ⟨none, none, (.e (.store 1 (.t 28) (.c (.int .u8 (.ofNat 1)))))⟩]))))
  (.region [.op ⟨(some 29), none, (.r (.bin .add (.t 15) (.c (.int .i64 (.ofNat 1)))))⟩,
    .op ⟨(some 15), none, (.r (.mv (.t 29)))⟩]))))
/-- depot/matrix.Identity -/
def pf_matrix_Identity : PF := { ntmps := 31, results := [.tmp 2], body :=
  (.seq (.region [.op ⟨(some 2), none, (.r (.mv (.c .nils)))⟩])
  (.seq (.seq (.region [.op ⟨(some 5), none, (.r (.mv (.t 0)))⟩,
    .op ⟨(some 6), none, (.r (.bin .lss (.t 5) (.c (.int .i64 (.ofNat 1)))))⟩,
    .op ⟨(some 7), none, (.r (.mv (.t 6)))⟩,
    .op ⟨(some 8), (some (7, false)), (.r (.mv (.t 0)))⟩,
    .op ⟨(some 9), (some (7, false)), (.r (.bin .gtr (.t 8) (.c (.int .i64 (.ofNat 12)))))⟩,
    .op ⟨(some 10), none, (.r (.pick (.t 7) (.c (.bool true)) (.t 9)))⟩])
  (.cond (.t 10)
   (.seq (.region [.op ⟨(some 2), none, (.r (.mv (.c .nils)))⟩])
   .ret)
   .skip))
  (.seq (.region [.op ⟨(some 11), none, (.r (.mv (.t 0)))⟩,
    .op ⟨(some 12), none, (.n (.mksl 0 1 24 [.nils] (.t 11) (.t 11)))⟩,
    .op ⟨(some 3), none, (.r (.mv (.t 12)))⟩])
  (.seq (.seq (.region [.op ⟨(some 13), none, (.r (.mv (.t 3)))⟩,
    .op ⟨(some 14), none, (.r (.lensl (.t 13)))⟩,
    .op ⟨(some 15), none, (.r (.mv (.c (.int .i64 (.ofNat 0)))))⟩])
  (.block 0 (.loop l0_matrix_Identity)))
  (.seq (.region [.op ⟨(some 30), none, (.r (.mv (.t 3)))⟩,
    .op ⟨(some 2), none, (.r (.mv (.t 30)))⟩])
  .ret))))) }
theorem tr_matrix_Identity : trF cx Tryd.f45 = pf_matrix_Identity := by kernel_rfl
/-- depot/gf.Inv -/
def pf_gf_Inv : PF := { ntmps := 20, results := [.tmp 4], body :=
  (.seq (.region [.op ⟨(some 4), none, (.r (.mv (.c (.int .u8 (.ofNat 0)))))⟩])
  (.seq (.seq (.region [.op ⟨(some 5), none, (.r (.mv (.t 1)))⟩,
    .op ⟨(some 6), none, (.r (.bin .eql (.t 5) (.c (.int .u8 (.ofNat 0)))))⟩])
  (.cond (.t 6)
   (.seq (.region [.op ⟨(some 4), none, (.r (.mv (.c (.int .u8 (.ofNat 0)))))⟩])
   .ret)
   .skip))
  (.seq (.region [.op ⟨(some 7), none, (.r (.mv (.t 0)))⟩,
    .op ⟨(some 8), none, (.r (.mv (.t 0)))⟩,
    .op ⟨(some 9), none, (.r (.mv (.t 1)))⟩,
    .op ⟨(some 10), none, (.r (.nilck (.t 8)))⟩,
    .op ⟨(some 11), none, (.r (.faddr 510 (.t 10)))⟩,
    .op ⟨(some 12), none, (.r (.iaarr 256 1 (.t 11) (.t 9)))⟩,
    .op ⟨(some 13), none, (.r (.load false 1 (.t 12)))⟩,
    .op ⟨(some 14), none, (.r (.cint .i64 (.t 13)))⟩,
    .op ⟨(some 15), none, (.r (.bin .sub (.c (.int .i64 (.ofNat 255))) (.t 14)))⟩,
    .op ⟨(some 16), none, (.r (.nilck (.t 7)))⟩,
    .op ⟨(some 17), none, (.r (.faddr 0 (.t 16)))⟩,
    .op ⟨(some 18), none, (.r (.iaarr 510 1 (.t 17) (.t 15)))⟩,
    .op ⟨(some 19), none, (.r (.load false 1 (.t 18)))⟩,
    .op ⟨(some 4), none, (.r (.mv (.t 19)))⟩])
  .ret))) }
theorem tr_gf_Inv : trF cx Tryd.f46 = pf_gf_Inv := by kernel_rfl
/-- (*depot/gather.Gather).State -/
def pf_gather_Gather_State : PF := { ntmps := 32, results := [.tmp 2], body :=
  (.seq (.region [.op ⟨(some 2), none, (.r (.mv (.c (.int .i64 (.ofNat 0)))))⟩])
  (.seq (.block 0 (.seq (.region [.op ⟨(some 4), none, (.r (.mv (.t 0)))⟩,
     .op ⟨(some 5), none, (.r (.nilck (.t 4)))⟩,
     .op ⟨(some 6), none, (.r (.faddr 5 (.t 5)))⟩,
     .op ⟨(some 7), none, (.r (.load false 1 (.t 6)))⟩,
     .op ⟨(some 8), none, (.r (.lensl (.t 7)))⟩,
     .op ⟨(some 9), none, (.r (.mv (.t 0)))⟩,
     .op ⟨(some 10), none, (.r (.nilck (.t 9)))⟩,
     .op ⟨(some 11), none, (.r (.faddr 0 (.t 10)))⟩,
     .op ⟨(some 12), none, (.r (.load false 1 (.t 11)))⟩,
     .op ⟨(some 13), none, (.r (.bin .geq (.t 8) (.t 12)))⟩,
     .op ⟨(some 3), none, (.r (.mv (.t 13)))⟩])
   (.cond (.t 3)
    (.seq (.region [.op ⟨(some 2), none, (.r (.mv (.c (.int .i64 (.ofNat 1)))))⟩])
    .ret)
    (.seq (.region [.op ⟨(some 15), none, (.r (.mv (.t 0)))⟩,
      .op ⟨(some 16), none, (.r (.nilck (.t 15)))⟩,
      .op ⟨(some 17), none, (.r (.faddr 4 (.t 16)))⟩,
      .op ⟨(some 18), none, (.r (.load false 1 (.t 17)))⟩,
      .op ⟨(some 19), none, (.r (.bin .eql (.t 18) (.c (.int .i64 (.ofNat 0)))))⟩,
      .op ⟨(some 20), none, (.r (.mv (.t 19)))⟩,
      .op ⟨(some 21), (some (20, true)), (.r (.mv (.t 0)))⟩,
      .op ⟨(some 22), (some (20, true)), (.r (.nilck (.t 21)))⟩,
      .op ⟨(some 23), (some (20, true)), (.r (.faddr 3 (.t 22)))⟩,
      .op ⟨(some 24), (some (20, true)), (.r (.load false 1 (.t 23)))⟩,
      .op ⟨(some 25), (some (20, true)), (.r (.mv (.t 0)))⟩,
      .op ⟨(some 26), (some (20, true)), (.r (.nilck (.t 25)))⟩,
      .op ⟨(some 27), (some (20, true)), (.r (.faddr 2 (.t 26)))⟩,
      .op ⟨(some 28), (some (20, true)), (.r (.load false 1 (.t 27)))⟩,
      .op ⟨(some 29), (some (20, true)), (.r (.lensl (.t 28)))⟩,
      .op ⟨(some 30), (some (20, true)), (.r (.bin .eql (.t 24) (.t 29)))⟩,
      .op ⟨(some 31), none, (.r (.pick (.t 20) (.t 30) (.c (.bool false))))⟩,
      .op ⟨(some 14), none, (.r (.mv (.t 31)))⟩])
    (.cond (.t 14)
     (.seq (.region [.op ⟨(some 2), none, (.r (.mv (.c (.int .i64 (.ofNat 2)))))⟩])
     .ret)
     .skip)))))
  (.seq (.region [.op ⟨(some 2), none, (.r (.mv (.c (.int .i64 (.ofNat 0)))))⟩])
  .ret))) }
theorem tr_gather_Gather_State : trF cx Tryd.f47 = pf_gather_Gather_State := by kernel_rfl
def l0_rs_Code_Decode : PC :=
  (.seq (.region [.op ⟨(some 32), none, (.r (.bin .lss (.t 31) (.t 30)))⟩])
  (.seq (.cond (.t 32)
   .skip
   (.exit 0))
  (.seq (.block 1 (.seq (.region [.op ⟨(some 33), none, (.r (.iasl 2 (.t 29) (.t 31)))⟩,
     .op ⟨(some 34), none, (.r (.load true 2 (.t 33)))⟩,
     .op ⟨(some 10), none, (.n (.new 0 [(.int .i64 (.ofNat 0)), (.str [])]))⟩,
     .op ⟨none, none, (.e (.store 2 (.t 10) (.t 34)))⟩])
   (.seq (.region [.op ⟨(some 35), none, (.r (.faddr 0 (.t 10)))⟩,
     .op ⟨(some 36), none, (.r (.load false 1 (.t 35)))⟩,
     .op ⟨(some 37), none, (.r (.bin .lss (.t 36) (.c (.int .i64 (.ofNat 0)))))⟩,
     .op ⟨(some 38), none, (.r (.mv (.t 37)))⟩,
     .op ⟨(some 39), (some (38, false)), (.r (.faddr 0 (.t 10)))⟩,
     .op ⟨(some 40), (some (38, false)), (.r (.load false 1 (.t 39)))⟩,
     .op ⟨(some 41), (some (38, false)), (.r (.mv (.t 0)))⟩,
     .op ⟨(some 42), (some (38, false)), (.r (.nilck (.t 41)))⟩,
     .op ⟨(some 43), (some (38, false)), (.r (.faddr 1 (.t 42)))⟩,
     .op ⟨(some 44), (some (38, false)), (.r (.load false 1 (.t 43)))⟩,
     .op ⟨(some 45), (some (38, false)), (.r (.bin .geq (.t 40) (.t 44)))⟩,
     .op ⟨(some 46), none, (.r (.pick (.t 38) (.c (.bool true)) (.t 45)))⟩,
     .op ⟨(some 47), none, (.r (.mv (.t 46)))⟩,
     .op ⟨(some 48), (some (47, false)), (.r (.faddr 1 (.t 10)))⟩,
     .op ⟨(some 49), (some (47, false)), (.r (.load false 1 (.t 48)))⟩,
     .op ⟨(some 50), (some (47, false)), (.r (.lens (.t 49)))⟩,
     .op ⟨(some 51), (some (47, false)), (.r (.mv (.t 8)))⟩,
     .op ⟨(some 52), (some (47, false)), (.r (.bin .neq (.t 50) (.t 51)))⟩,
     .op ⟨(some 53), none, (.r (.pick (.t 47) (.c (.bool true)) (.t 52)))⟩])
   (.cond (.t 53)
    (.seq (.region [.op ⟨(some 6), none, (.r (.mv (.c (.str []))))⟩,
      .op ⟨(some 7), none, (.r (.mv (.c (.int .i64 (.ofNat 4)))))⟩])
    .ret)
    .skip))))
  (.region [.op ⟨(some 54), none, (.r (.bin .add (.t 31) (.c (.int .i64 (.ofNat 1)))))⟩,
    .op ⟨(some 31), none, (.r (.mv (.t 54)))⟩]))))
def l1_rs_Code_Decode : PC :=
  (.seq (.region [.op ⟨(some 86), none, (.r (.bin .lss (.t 85) (.t 84)))⟩])
  (.seq (.cond (.t 86)
   .skip
   (.exit 2))
  (.seq (.block 3 (.seq (.region [.op ⟨(some 87), none, (.r (.iasl 1 (.t 83) (.t 85)))⟩,
     .op ⟨(some 88), none, (.r (.load false 1 (.t 87)))⟩,
     .op ⟨(some 17), none, (.r (.mv (.t 88)))⟩])
   (.region [.op ⟨(some 89), none, (.r (.mv (.t 15)))⟩,
     .op ⟨(some 90), none, (.r (.mv (.t 0)))⟩,
     .op ⟨(some 91), none, (.r (.mv (.t 17)))⟩,
     .op ⟨(some 92), none, (.r (.mv (.t 12)))⟩,
     .op ⟨(some 93), none, (.r (.mv (.t 8)))⟩,
     .op ⟨(some 94), none, (.e (.call n_rs_Code_mix [(.t 90), (.t 91), (.t 92), (.t 93)]))⟩,
     .op ⟨(some 95), none, (.e (.app 2 1 1 (.t 89) (.t 94)))⟩,
     .op ⟨(some 15), none, (.r (.mv (.t 95)))⟩])))
  (.region [.op ⟨(some 96), none, (.r (.bin .add (.t 85) (.c (.int .i64 (.ofNat 1)))))⟩,
    .op ⟨(some 85), none, (.r (.mv (.t 96)))⟩]))))
def l2_rs_Code_Decode : PC :=
  (.seq (.region [.op ⟨(some 102), none, (.r (.bin .lss (.t 101) (.t 100)))⟩])
  (.seq (.cond (.t 102)
   .skip
   (.exit 4))
  (.seq (.block 5 (.seq (.region [.op ⟨(some 103), none, (.r (.iasl 1 (.t 99) (.t 101)))⟩,
     .op ⟨(some 104), none, (.r (.load false 1 (.t 103)))⟩,
     .op ⟨(some 19), none, (.r (.mv (.t 104)))⟩])
   (.seq (.region [.op ⟨(some 105), none, (.r (.mv (.t 19)))⟩,
     .op ⟨(some 106), none, (.r (.bin .neq (.t 105) (.c (.int .u8 (.ofNat 0)))))⟩])
   (.cond (.t 106)
    (.seq (.region [.op ⟨(some 6), none, (.r (.mv (.c (.str []))))⟩,
      .op ⟨(some 7), none, (.r (.mv (.c (.int .i64 (.ofNat 4)))))⟩])
    .ret)
    .skip))))
  (.region [.op ⟨(some 107), none, (.r (.bin .add (.t 101) (.c (.int .i64 (.ofNat 1)))))⟩,
    .op ⟨(some 101), none, (.r (.mv (.t 107)))⟩]))))
/-- (*depot/rs.Code).Decode -/
def pf_rs_Code_Decode : PF := { ntmps := 112, results := [.tmp 6, .tmp 7], body :=
  (.seq (.region [.op ⟨(some 6), none, (.r (.mv (.c (.str []))))⟩,
    .op ⟨(some 7), none, (.r (.mv (.c (.int .i64 (.ofNat 0)))))⟩])
  (.seq (.seq (.region [.op ⟨(some 20), none, (.r (.mv (.t 1)))⟩,
    .op ⟨(some 21), none, (.r (.bin .lss (.t 20) (.c (.int .i64 (.ofNat 0)))))⟩,
    .op ⟨(some 22), none, (.r (.mv (.t 21)))⟩,
    .op ⟨(some 23), (some (22, false)), (.r (.mv (.t 1)))⟩,
    .op ⟨(some 24), (some (22, false)), (.r (.bin .gtr (.t 23) (.c (.int .i64 (.ofNat 1048576)))))⟩,
    .op ⟨(some 25), none, (.r (.pick (.t 22) (.c (.bool true)) (.t 24)))⟩])
  (.cond (.t 25)
   (.seq (.region [.op ⟨(some 6), none, (.r (.mv (.c (.str []))))⟩,
     .op ⟨(some 7), none, (.r (.mv (.c (.int .i64 (.ofNat 1)))))⟩])
   .ret)
   .skip))
  (.seq (.region [.op ⟨(some 26), none, (.r (.mv (.t 0)))⟩,
    .op ⟨(some 27), none, (.r (.mv (.t 1)))⟩,
    .op ⟨(some 28), none, (.e (.call n_rs_Code_Size [(.t 26), (.t 27)]))⟩,
    .op ⟨(some 8), none, (.r (.mv (.t 28)))⟩])
  (.seq (.seq (.region [.op ⟨(some 29), none, (.r (.mv (.t 2)))⟩,
    .op ⟨(some 30), none, (.r (.lensl (.t 29)))⟩,
    .op ⟨(some 31), none, (.r (.mv (.c (.int .i64 (.ofNat 0)))))⟩])
  (.block 0 (.loop l0_rs_Code_Decode)))
  (.seq (.region [.op ⟨(some 56), none, (.r (.mv (.t 0)))⟩,
    .op ⟨(some 57), none, (.r (.mv (.t 2)))⟩,
    .op ⟨(some 58), none, (.e (.call n_rs_Code_chosen [(.t 56), (.t 57)]))⟩,
    .op ⟨(some 55), none, (.r (.mv (.t 58)))⟩,
    .op ⟨(some 59), none, (.r (.ext 0 (.t 55)))⟩,
    .op ⟨(some 60), none, (.r (.ext 1 (.t 55)))⟩,
    .op ⟨(some 11), none, (.r (.mv (.t 59)))⟩,
    .op ⟨(some 12), none, (.r (.mv (.t 60)))⟩])
  (.seq (.seq (.region [.op ⟨(some 61), none, (.r (.mv (.t 11)))⟩,
    .op ⟨(some 62), none, (.r (.lensl (.t 61)))⟩,
    .op ⟨(some 63), none, (.r (.mv (.t 0)))⟩,
    .op ⟨(some 64), none, (.r (.nilck (.t 63)))⟩,
    .op ⟨(some 65), none, (.r (.faddr 0 (.t 64)))⟩,
    .op ⟨(some 66), none, (.r (.load false 1 (.t 65)))⟩,
    .op ⟨(some 67), none, (.r (.bin .lss (.t 62) (.t 66)))⟩])
  (.cond (.t 67)
   (.seq (.region [.op ⟨(some 6), none, (.r (.mv (.c (.str []))))⟩,
     .op ⟨(some 7), none, (.r (.mv (.c (.int .i64 (.ofNat 3)))))⟩])
   .ret)
   .skip))
  (.seq (.region [.op ⟨(some 69), none, (.r (.mv (.t 0)))⟩,
    .op ⟨(some 70), none, (.r (.nilck (.t 69)))⟩,
    .op ⟨(some 71), none, (.r (.faddr 2 (.t 70)))⟩,
    .op ⟨(some 72), none, (.r (.mv (.t 11)))⟩,
    .op ⟨(some 73), none, (.e (.call n_matrix_Invert [(.t 71), (.t 72)]))⟩,
    .op ⟨(some 68), none, (.r (.mv (.t 73)))⟩,
    .op ⟨(some 74), none, (.r (.ext 0 (.t 68)))⟩,
    .op ⟨(some 75), none, (.r (.ext 1 (.t 68)))⟩,
    .op ⟨(some 13), none, (.r (.mv (.t 74)))⟩,
    .op ⟨(some 14), none, (.r (.mv (.t 75)))⟩])
  (.seq (.region [.op ⟨(some 76), none, (.r (.mv (.t 0)))⟩,
    .op ⟨(some 77), none, (.r (.nilck (.t 76)))⟩,
    .op ⟨(some 78), none, (.r (.faddr 0 (.t 77)))⟩,
    .op ⟨(some 79), none, (.r (.load false 1 (.t 78)))⟩,
    .op ⟨(some 80), none, (.r (.mv (.t 8)))⟩,
    .op ⟨(some 81), none, (.r (.bin .mul (.t 79) (.t 80)))⟩,
    .op ⟨(some 82), none, (.n (.mksl 2 1 1 [(.int .u8 (.ofNat 0))] (.c (.int .i64 (.ofNat 0))) (.t 81)))⟩,
    .op ⟨(some 15), none, (.r (.mv (.t 82)))⟩])
  (.seq (.seq (.region [.op ⟨(some 83), none, (.r (.mv (.t 13)))⟩,
    .op ⟨(some 84), none, (.r (.lensl (.t 83)))⟩,
    .op ⟨(some 85), none, (.r (.mv (.c (.int .i64 (.ofNat 0)))))⟩])
  (.block 2 (.loop l1_rs_Code_Decode)))
  (.seq (.seq (.region [.op ⟨(some 97), none, (.r (.mv (.t 15)))⟩,
    .op ⟨(some 98), none, (.r (.mv (.t 1)))⟩,
    .op ⟨(some 99), none, (.r (.slsl 1 (.t 97) (some (.t 98)) none none))⟩,
    .op ⟨(some 100), none, (.r (.lensl (.t 99)))⟩,
    .op ⟨(some 101), none, (.r (.mv (.c (.int .i64 (.ofNat 0)))))⟩])
  (.block 4 (.loop l2_rs_Code_Decode)))
  (.seq (.region [.op ⟨(some 108), none, (.r (.mv (.t 15)))⟩,
    .op ⟨(some 109), none, (.r (.mv (.t 1)))⟩,
    .op ⟨(some 110), none, (.r (.slsl 1 (.t 108) none (some (.t 109)) none))⟩,
    .op ⟨(some 111), none, (.r (.b2s (.t 110)))⟩,
    .op ⟨(some 6), none, (.r (.mv (.t 111)))⟩,
    .op ⟨(some 7), none, (.r (.mv (.c (.int .i64 (.ofNat 0)))))⟩])
  .ret))))))))))) }
theorem tr_rs_Code_Decode : trF cx Tryd.f48 = pf_rs_Code_Decode := by kernel_rfl
/-- (*depot/gather.Gather).Parts -/
def pf_gather_Gather_Parts : PF := { ntmps := 8, results := [.tmp 2], body :=
  (.seq (.region [.op ⟨(some 2), none, (.r (.mv (.c .nils)))⟩])
  (.seq (.region [.op ⟨(some 3), none, (.r (.mv (.t 0)))⟩,
    .op ⟨(some 4), none, (.r (.nilck (.t 3)))⟩,
    .op ⟨(some 5), none, (.r (.faddr 5 (.t 4)))⟩,
    .op ⟨(some 6), none, (.r (.load false 1 (.t 5)))⟩,
    .op ⟨(some 7), none, (.e (.call n_slices_Clone_api_Part_api_Part [(.t 6)]))⟩,
    .op ⟨(some 2), none, (.r (.mv (.t 7)))⟩])
  .ret)) }
theorem tr_gather_Gather_Parts : trF cx Tryd.f49 = pf_gather_Gather_Parts := by kernel_rfl
/-- (*depot/task.Task).forget -/
def pf_task_Task_forget : PF := { ntmps := 20, results := [], body :=
  (.seq (.region [.op ⟨(some 4), none, (.n (.box (.t 1)))⟩])
  (.seq (.region [.op ⟨(some 6), none, (.r (.mv (.t 0)))⟩,
    .op ⟨(some 7), none, (.e (.call n_task_Task_enter [(.t 6), (.c (.int .i64 (.ofNat 5)))]))⟩])
  (.seq (.region [.op ⟨(some 8), none, (.r (.mv (.t 0)))⟩,
    .op ⟨(some 9), none, (.r (.load true 14 (.t 4)))⟩,
    .op ⟨(some 10), none, (.r (.mv (.t 0)))⟩,
    .op ⟨(some 11), none, (.r (.nilck (.t 10)))⟩,
    .op ⟨(some 12), none, (.r (.faddr 20 (.t 11)))⟩,
    .op ⟨(some 13), none, (.r (.load false 1 (.t 12)))⟩,
    .op ⟨(some 14), none, (.r (.mv (.t 2)))⟩,
    .op ⟨(some 15), none, (.r (.build [(.int .i64 (.ofNat 0)), (.int .i64 (.ofNat 0)), (.int .i64 (.ofNat 0)), (.int .i64 (.ofNat 0)), (.int .i64 (.ofNat 0)), (.int .i64 (.ofNat 0)), (.str []), (.int .i64 (.ofNat 0)), (.str [])] [(0, 1, (.c (.int .i64 (.ofNat 3)))), (5, 1, (.c (.int .i64 (.ofNat 1)))), (7, 1, (.t 14))]))⟩,
    .op ⟨(some 16), none, (.e (.call n_task_Task_all [(.t 8), (.t 9), (.t 13), (.t 15)]))⟩])
  (.region [.op ⟨(some 17), none, (.r (.mv (.t 0)))⟩,
    .op ⟨(some 18), none, (.r (.load true 14 (.t 4)))⟩,
    .op ⟨(some 19), none, (.e (.call n_task_Task_on [(.t 17), (.t 18)]))⟩])))) }
theorem tr_task_Task_forget : trF cx Tryd.f50 = pf_task_Task_forget := by kernel_rfl
/-- (*depot/task.Task).refill -/
def pf_task_Task_refill : PF := { ntmps := 99, results := [], body :=
  (.seq (.region [.op ⟨(some 4), none, (.n (.box (.t 1)))⟩])
  (.seq (.region [.op ⟨(some 7), none, (.r (.mv (.t 0)))⟩,
    .op ⟨(some 8), none, (.e (.call n_task_Task_enter [(.t 7), (.c (.int .i64 (.ofNat 7)))]))⟩])
  (.seq (.seq (.region [.op ⟨(some 9), none, (.r (.mv (.t 0)))⟩,
    .op ⟨(some 10), none, (.r (.nilck (.t 9)))⟩,
    .op ⟨(some 11), none, (.r (.faddr 17 (.t 10)))⟩,
    .op ⟨(some 12), none, (.r (.load false 1 (.t 11)))⟩,
    .op ⟨(some 13), none, (.r (.faddr 0 (.t 4)))⟩,
    .op ⟨(some 14), none, (.r (.iaarr 12 1 (.t 13) (.t 12)))⟩,
    .op ⟨(some 15), none, (.r (.load false 1 (.t 14)))⟩,
    .op ⟨(some 16), none, (.r (.bin .eql (.t 15) (.c (.int .i64 (.ofNat 1)))))⟩])
  (.cond (.t 16)
   (.seq (.seq (.region [.op ⟨(some 17), none, (.r (.mv (.t 0)))⟩,
     .op ⟨(some 18), none, (.r (.nilck (.t 17)))⟩,
     .op ⟨(some 19), none, (.r (.faddr 7 (.t 18)))⟩,
     .op ⟨(some 20), none, (.r (.load false 1 (.t 19)))⟩,
     .op ⟨(some 21), none, (.r (.mv (.t 0)))⟩,
     .op ⟨(some 22), none, (.r (.nilck (.t 21)))⟩,
     .op ⟨(some 23), none, (.r (.faddr 19 (.t 22)))⟩,
     .op ⟨(some 24), none, (.r (.load false 1 (.t 23)))⟩,
     .op ⟨(some 25), none, (.r (.lensl (.t 24)))⟩,
     .op ⟨(some 26), none, (.r (.mv (.t 0)))⟩,
     .op ⟨(some 27), none, (.r (.nilck (.t 26)))⟩,
     .op ⟨(some 28), none, (.r (.faddr 0 (.t 27)))⟩,
     .op ⟨(some 29), none, (.r (.faddr 3 (.t 28)))⟩,
     .op ⟨(some 30), none, (.r (.load false 1 (.t 29)))⟩,
     .op ⟨(some 31), none, (.r (.mv (.t 0)))⟩,
     .op ⟨(some 32), none, (.r (.nilck (.t 31)))⟩,
     .op ⟨(some 33), none, (.r (.faddr 17 (.t 32)))⟩,
     .op ⟨(some 34), none, (.r (.load false 1 (.t 33)))⟩,
     .op ⟨(some 35), none, (.e (.call n_place_Position [(.t 20), (.t 25), (.t 30), (.t 34)]))⟩,
     .op ⟨(some 6), none, (.r (.mv (.t 35)))⟩])
   (.seq (.region [.op ⟨(some 36), none, (.r (.mv (.t 6)))⟩,
     .op ⟨(some 37), none, (.r (.bin .geq (.t 36) (.c (.int .i64 (.ofNat 0)))))⟩,
     .op ⟨(some 38), none, (.r (.mv (.t 37)))⟩,
     .op ⟨(some 39), (some (38, true)), (.r (.mv (.t 6)))⟩,
     .op ⟨(some 40), (some (38, true)), (.r (.mv (.t 2)))⟩,
     .op ⟨(some 41), (some (38, true)), (.r (.lensl (.t 40)))⟩,
     .op ⟨(some 42), (some (38, true)), (.r (.bin .lss (.t 39) (.t 41)))⟩,
     .op ⟨(some 43), none, (.r (.pick (.t 38) (.t 42) (.c (.bool false))))⟩])
   (.cond (.t 43)
    (.region [.op ⟨(some 44), none, (.r (.mv (.t 0)))⟩,
      .op ⟨(some 45), none, (.r (.mv (.t 0)))⟩,
      .op ⟨(some 46), none, (.r (.nilck (.t 45)))⟩,
      .op ⟨(some 47), none, (.r (.faddr 17 (.t 46)))⟩,
      .op ⟨(some 48), none, (.r (.load false 1 (.t 47)))⟩,
      .op ⟨(some 49), none, (.r (.mv (.t 0)))⟩,
      .op ⟨(some 50), none, (.r (.nilck (.t 49)))⟩,
      .op ⟨(some 51), none, (.r (.faddr 37 (.t 50)))⟩,
      .op ⟨(some 52), none, (.r (.faddr 0 (.t 51)))⟩,
      .op ⟨(some 53), none, (.r (.load false 1 (.t 52)))⟩,
      .op ⟨(some 54), none, (.r (.mv (.t 2)))⟩,
      .op ⟨(some 55), none, (.r (.mv (.t 6)))⟩,
      .op ⟨(some 56), none, (.r (.iasl 1 (.t 54) (.t 55)))⟩,
      .op ⟨(some 57), none, (.r (.load false 1 (.t 56)))⟩,
      .op ⟨(some 58), none, (.r (.build [(.int .i64 (.ofNat 0)), (.int .i64 (.ofNat 0)), (.int .i64 (.ofNat 0)), (.int .i64 (.ofNat 0)), (.int .i64 (.ofNat 0)), (.int .i64 (.ofNat 0)), (.str []), (.int .i64 (.ofNat 0)), (.str [])] [(0, 1, (.c (.int .i64 (.ofNat 1)))), (5, 1, (.c (.int .i64 (.ofNat 2)))), (7, 1, (.t 53)), (8, 1, (.t 57))]))⟩,
      .op ⟨(some 59), none, (.e (.call n_task_Task_ask [(.t 44), (.t 48), (.t 58)]))⟩])
    .skip)))
   (.seq (.region [.op ⟨(some 60), none, (.r (.mv (.t 0)))⟩,
     .op ⟨(some 61), none, (.r (.nilck (.t 60)))⟩,
     .op ⟨(some 62), none, (.r (.faddr 7 (.t 61)))⟩,
     .op ⟨(some 63), none, (.r (.load false 1 (.t 62)))⟩,
     .op ⟨(some 64), none, (.r (.mv (.t 0)))⟩,
     .op ⟨(some 65), none, (.r (.nilck (.t 64)))⟩,
     .op ⟨(some 66), none, (.r (.faddr 20 (.t 65)))⟩,
     .op ⟨(some 67), none, (.r (.load false 1 (.t 66)))⟩,
     .op ⟨(some 68), none, (.r (.lensl (.t 67)))⟩,
     .op ⟨(some 69), none, (.r (.mv (.t 0)))⟩,
     .op ⟨(some 70), none, (.r (.nilck (.t 69)))⟩,
     .op ⟨(some 71), none, (.r (.faddr 0 (.t 70)))⟩,
     .op ⟨(some 72), none, (.r (.faddr 3 (.t 71)))⟩,
     .op ⟨(some 73), none, (.r (.load false 1 (.t 72)))⟩,
     .op ⟨(some 74), none, (.r (.mv (.t 0)))⟩,
     .op ⟨(some 75), none, (.r (.nilck (.t 74)))⟩,
     .op ⟨(some 76), none, (.r (.faddr 17 (.t 75)))⟩,
     .op ⟨(some 77), none, (.r (.load false 1 (.t 76)))⟩,
     .op ⟨(some 78), none, (.e (.call n_place_Position [(.t 63), (.t 68), (.t 73), (.t 77)]))⟩,
     .op ⟨(some 79), none, (.r (.bin .geq (.t 78) (.c (.int .i64 (.ofNat 0)))))⟩])
   (.cond (.t 79)
    (.region [.op ⟨(some 80), none, (.r (.mv (.t 0)))⟩,
      .op ⟨(some 81), none, (.r (.mv (.t 0)))⟩,
      .op ⟨(some 82), none, (.r (.nilck (.t 81)))⟩,
      .op ⟨(some 83), none, (.r (.faddr 17 (.t 82)))⟩,
      .op ⟨(some 84), none, (.r (.load false 1 (.t 83)))⟩,
      .op ⟨(some 85), none, (.r (.mv (.t 0)))⟩,
      .op ⟨(some 86), none, (.r (.nilck (.t 85)))⟩,
      .op ⟨(some 87), none, (.r (.faddr 42 (.t 86)))⟩,
      .op ⟨(some 88), none, (.r (.load false 1 (.t 87)))⟩,
      .op ⟨(some 89), none, (.r (.mv (.t 0)))⟩,
      .op ⟨(some 90), none, (.r (.nilck (.t 89)))⟩,
      .op ⟨(some 91), none, (.r (.faddr 37 (.t 90)))⟩,
      .op ⟨(some 92), none, (.r (.load true 5 (.t 91)))⟩,
      .op ⟨(some 93), none, (.e (.call n_task_PutRecord [(.t 92)]))⟩,
      .again ⟨(some 88), none, (.r (.load false 1 (.t 87)))⟩,
      .again ⟨(some 84), none, (.r (.load false 1 (.t 83)))⟩,
      .op ⟨(some 94), none, (.r (.build [(.int .i64 (.ofNat 0)), (.int .i64 (.ofNat 0)), (.int .i64 (.ofNat 0)), (.int .i64 (.ofNat 0)), (.int .i64 (.ofNat 0)), (.int .i64 (.ofNat 0)), (.str []), (.int .i64 (.ofNat 0)), (.str [])] [(0, 1, (.c (.int .i64 (.ofNat 1)))), (5, 1, (.c (.int .i64 (.ofNat 1)))), (7, 1, (.t 88)), (8, 1, (.t 93))]))⟩,
      .op ⟨(some 95), none, (.e (.call n_task_Task_ask [(.t 80), (.t 84), (.t 94)]))⟩])
    .skip)))
   .skip))
  (.region [.op ⟨(some 96), none, (.r (.mv (.t 0)))⟩,
    .op ⟨(some 97), none, (.r (.load true 14 (.t 4)))⟩,
    .op ⟨(some 98), none, (.e (.call n_task_Task_on [(.t 96), (.t 97)]))⟩])))) }
theorem tr_task_Task_refill : trF cx Tryd.f51 = pf_task_Task_refill := by kernel_rfl
def l0_rs_Code_Encode : PC :=
  (.seq (.region [.op ⟨(some 34), none, (.r (.bin .lss (.t 33) (.t 32)))⟩])
  (.seq (.cond (.t 34)
   .skip
   (.exit 0))
  (.seq (.block 1 (.seq (.region [.op ⟨(some 35), none, (.r (.mv (.t 33)))⟩,
     .op ⟨(some 8), none, (.r (.mv (.t 35)))⟩])
   (.region [.op ⟨(some 36), none, (.r (.mv (.t 7)))⟩,
     .op ⟨(some 37), none, (.r (.mv (.t 8)))⟩,
     .op ⟨(some 38), none, (.r (.mv (.t 6)))⟩,
     .op ⟨(some 39), none, (.r (.mv (.t 8)))⟩,
     .op ⟨(some 40), none, (.r (.mv (.t 5)))⟩,
     .op ⟨(some 41), none, (.r (.bin .mul (.t 39) (.t 40)))⟩,
     .op ⟨(some 42), none, (.r (.mv (.t 8)))⟩,
     .op ⟨(some 43), none, (.r (.bin .add (.t 42) (.c (.int .i64 (.ofNat 1)))))⟩,
     .op ⟨(some 44), none, (.r (.mv (.t 5)))⟩,
     .op ⟨(some 45), none, (.r (.bin .mul (.t 43) (.t 44)))⟩,
     .op ⟨(some 46), none, (.r (.slsl 1 (.t 38) (some (.t 41)) (some (.t 45)) none))⟩,
     .op ⟨(some 47), none, (.r (.iasl 1 (.t 36) (.t 37)))⟩,
     .op ⟨none, none, (.e (.store 1 (.t 47) (.t 46)))⟩])))
  (.region [.op ⟨(some 48), none, (.r (.bin .add (.t 33) (.c (.int .i64 (.ofNat 1)))))⟩,
    .op ⟨(some 33), none, (.r (.mv (.t 48)))⟩]))))
def l1_rs_Code_Encode : PC :=
  (.seq (.region [.op ⟨(some 60), none, (.r (.bin .lss (.t 59) (.t 58)))⟩])
  (.seq (.cond (.t 60)
   .skip
   (.exit 2))
  (.seq (.block 3 (.seq (.region [.op ⟨(some 61), none, (.r (.mv (.t 59)))⟩,
     .op ⟨(some 62), none, (.r (.iasl 1 (.t 57) (.t 59)))⟩,
     .op ⟨(some 63), none, (.r (.load false 1 (.t 62)))⟩,
     .op ⟨(some 10), none, (.r (.mv (.t 61)))⟩,
     .op ⟨(some 11), none, (.r (.mv (.t 63)))⟩])
   (.region [.op ⟨(some 64), none, (.r (.mv (.t 9)))⟩,
     .op ⟨(some 65), none, (.r (.mv (.t 10)))⟩,
     .op ⟨(some 66), none, (.r (.mv (.t 0)))⟩,
     .op ⟨(some 67), none, (.r (.mv (.t 11)))⟩,
     .op ⟨(some 68), none, (.r (.mv (.t 7)))⟩,
     .op ⟨(some 69), none, (.r (.mv (.t 5)))⟩,
     .op ⟨(some 70), none, (.e (.call n_rs_Code_mix [(.t 66), (.t 67), (.t 68), (.t 69)]))⟩,
     .op ⟨(some 71), none, (.r (.b2s (.t 70)))⟩,
     .op ⟨(some 72), none, (.r (.iasl 1 (.t 64) (.t 65)))⟩,
     .op ⟨none, none, (.e (.store 1 (.t 72) (.t 71)))⟩])))
  (.region [.op ⟨(some 73), none, (.r (.bin .add (.t 59) (.c (.int .i64 (.ofNat 1)))))⟩,
    .op ⟨(some 59), none, (.r (.mv (.t 73)))⟩]))))
/-- (*depot/rs.Code).Encode -/
def pf_rs_Code_Encode : PF := { ntmps := 75, results := [.tmp 4], body :=
  (.seq (.region [.op ⟨(some 4), none, (.r (.mv (.c .nils)))⟩])
  (.seq (.region [.op ⟨(some 12), none, (.r (.mv (.t 0)))⟩,
    .op ⟨(some 13), none, (.r (.mv (.t 1)))⟩,
    .op ⟨(some 14), none, (.r (.lens (.t 13)))⟩,
    .op ⟨(some 15), none, (.e (.call n_rs_Code_Size [(.t 12), (.t 14)]))⟩,
    .op ⟨(some 5), none, (.r (.mv (.t 15)))⟩])
  (.seq (.region [.op ⟨(some 16), none, (.r (.mv (.t 0)))⟩,
    .op ⟨(some 17), none, (.r (.nilck (.t 16)))⟩,
    .op ⟨(some 18), none, (.r (.faddr 0 (.t 17)))⟩,
    .op ⟨(some 19), none, (.r (.load false 1 (.t 18)))⟩,
    .op ⟨(some 20), none, (.r (.mv (.t 5)))⟩,
    .op ⟨(some 21), none, (.r (.bin .mul (.t 19) (.t 20)))⟩,
    .op ⟨(some 22), none, (.n (.mksl 2 1 1 [(.int .u8 (.ofNat 0))] (.t 21) (.t 21)))⟩,
    .op ⟨(some 6), none, (.r (.mv (.t 22)))⟩])
  (.seq (.region [.op ⟨(some 23), none, (.r (.mv (.t 6)))⟩,
    .op ⟨(some 24), none, (.r (.mv (.t 1)))⟩,
    .op ⟨(some 25), none, (.e (.copy 1 (.t 23) (.t 24)))⟩])
  (.seq (.region [.op ⟨(some 26), none, (.r (.mv (.t 0)))⟩,
    .op ⟨(some 27), none, (.r (.nilck (.t 26)))⟩,
    .op ⟨(some 28), none, (.r (.faddr 0 (.t 27)))⟩,
    .op ⟨(some 29), none, (.r (.load false 1 (.t 28)))⟩,
    .op ⟨(some 30), none, (.n (.mksl 0 1 24 [.nils] (.t 29) (.t 29)))⟩,
    .op ⟨(some 7), none, (.r (.mv (.t 30)))⟩])
  (.seq (.seq (.region [.op ⟨(some 31), none, (.r (.mv (.t 7)))⟩,
    .op ⟨(some 32), none, (.r (.lensl (.t 31)))⟩,
    .op ⟨(some 33), none, (.r (.mv (.c (.int .i64 (.ofNat 0)))))⟩])
  (.block 0 (.loop l0_rs_Code_Encode)))
  (.seq (.region [.op ⟨(some 49), none, (.r (.mv (.t 0)))⟩,
    .op ⟨(some 50), none, (.r (.nilck (.t 49)))⟩,
    .op ⟨(some 51), none, (.r (.faddr 1 (.t 50)))⟩,
    .op ⟨(some 52), none, (.r (.load false 1 (.t 51)))⟩,
    .op ⟨(some 53), none, (.n (.mksl 0 1 16 [(.str [])] (.t 52) (.t 52)))⟩,
    .op ⟨(some 9), none, (.r (.mv (.t 53)))⟩])
  (.seq (.seq (.region [.op ⟨(some 54), none, (.r (.mv (.t 0)))⟩,
    .op ⟨(some 55), none, (.r (.nilck (.t 54)))⟩,
    .op ⟨(some 56), none, (.r (.faddr 768 (.t 55)))⟩,
    .op ⟨(some 57), none, (.r (.load false 1 (.t 56)))⟩,
    .op ⟨(some 58), none, (.r (.lensl (.t 57)))⟩,
    .op ⟨(some 59), none, (.r (.mv (.c (.int .i64 (.ofNat 0)))))⟩])
  (.block 2 (.loop l1_rs_Code_Encode)))
  (.seq (.region [.op ⟨(some 74), none, (.r (.mv (.t 9)))⟩,
    .op ⟨(some 4), none, (.r (.mv (.t 74)))⟩])
  .ret))))))))) }
theorem tr_rs_Code_Encode : trF cx Tryd.f52 = pf_rs_Code_Encode := by kernel_rfl
/-- depot/when.Live -/
def pf_when_Live : PF := { ntmps := 16, results := [.tmp 4], body :=
  (.seq (.region [.op ⟨(some 4), none, (.r (.mv (.c (.bool false))))⟩])
  (.seq (.region [.op ⟨(some 5), none, (.r (.mv (.t 0)))⟩,
    .op ⟨(some 6), none, (.r (.bin .eql (.t 5) (.c (.int .i64 (.ofNat 0)))))⟩,
    .op ⟨(some 7), none, (.r (.mv (.t 6)))⟩,
    .op ⟨(some 8), (some (7, false)), (.r (.mv (.t 0)))⟩,
    .op ⟨(some 9), (some (7, false)), (.r (.bin .gtr (.t 8) (.c (.int .i64 (.ofNat 0)))))⟩,
    .op ⟨(some 10), (some (7, false)), (.r (.mv (.t 9)))⟩,
    .op ⟨(some 11), (some (10, true)), (.r (.mv (.t 0)))⟩,
    .op ⟨(some 12), (some (10, true)), (.r (.mv (.t 1)))⟩,
    .op ⟨(some 13), (some (10, true)), (.r (.bin .gtr (.t 11) (.t 12)))⟩,
    .op ⟨(some 14), (some (7, false)), (.r (.pick (.t 10) (.t 13) (.c (.bool false))))⟩,
    .op ⟨(some 15), none, (.r (.pick (.t 7) (.c (.bool true)) (.t 14)))⟩,
    .op ⟨(some 4), none, (.r (.mv (.t 15)))⟩])
  .ret)) }
theorem tr_when_Live : trF cx Tryd.f53 = pf_when_Live := by kernel_rfl
def l0_task_Task_unseen : PC :=
  (.seq (.region [.op ⟨(some 13), none, (.r (.bin .lss (.t 12) (.t 11)))⟩])
  (.seq (.cond (.t 13)
   .skip
   (.exit 0))
  (.seq (.block 1 (.seq (.region [.op ⟨(some 14), none, (.r (.iasl 1 (.t 10) (.t 12)))⟩,
     .op ⟨(some 15), none, (.r (.load false 1 (.t 14)))⟩,
     .op ⟨(some 6), none, (.r (.mv (.t 15)))⟩])
   (.seq (.region [.op ⟨(some 16), none, (.r (.mv (.t 6)))⟩,
     .op ⟨(some 17), none, (.r (.faddr 0 (.t 3)))⟩,
     .op ⟨(some 18), none, (.r (.iaarr 12 1 (.t 17) (.t 16)))⟩,
     .op ⟨(some 19), none, (.r (.load false 1 (.t 18)))⟩,
     .op ⟨(some 20), none, (.r (.bin .neq (.t 19) (.c (.int .i64 (.ofNat 0)))))⟩,
     .op ⟨(some 21), none, (.r (.mv (.t 20)))⟩,
     .op ⟨(some 22), (some (21, true)), (.r (.mv (.t 0)))⟩,
     .op ⟨(some 23), (some (21, true)), (.r (.mv (.t 6)))⟩,
     .op ⟨(some 24), (some (21, true)), (.r (.nilck (.t 22)))⟩,
     .op ⟨(some 25), (some (21, true)), (.r (.faddr 24 (.t 24)))⟩,
     .op ⟨(some 26), (some (21, true)), (.r (.iaarr 12 1 (.t 25) (.t 23)))⟩,
     .op ⟨(some 27), (some (21, true)), (.r (.load false 1 (.t 26)))⟩,
     .op ⟨(some 28), (some (21, true)), (.r (.bin .eql (.t 27) (.c (.int .i64 (.ofNat 0)))))⟩,
     .op ⟨(some 29), none, (.r (.pick (.t 21) (.t 28) (.c (.bool false))))⟩])
   (.cond (.t 29)
    (.seq (.region [.op ⟨(some 4), none, (.r (.mv (.c (.bool true))))⟩])
    .ret)
    .skip))))
  (.region [.op ⟨(some 30), none, (.r (.bin .add (.t 12) (.c (.int .i64 (.ofNat 1)))))⟩,
    .op ⟨(some 12), none, (.r (.mv (.t 30)))⟩]))))
/-- (*depot/task.Task).unseen -/
def pf_task_Task_unseen : PF := { ntmps := 31, results := [.tmp 4], body :=
  (.seq (.region [.op ⟨(some 3), none, (.n (.box (.t 1)))⟩,
    .op ⟨(some 4), none, (.r (.mv (.c (.bool false))))⟩])
  (.seq (.seq (.region [.op ⟨(some 7), none, (.r (.mv (.t 0)))⟩,
    .op ⟨(some 8), none, (.r (.nilck (.t 7)))⟩,
    .op ⟨(some 9), none, (.r (.faddr 20 (.t 8)))⟩,
    .op ⟨(some 10), none, (.r (.load false 1 (.t 9)))⟩,
    .op ⟨(some 11), none, (.r (.lensl (.t 10)))⟩,
    .op ⟨(some 12), none, (.r (.mv (.c (.int .i64 (.ofNat 0)))))⟩])
  (.block 0 (.loop l0_task_Task_unseen)))
  (.seq (.region [.op ⟨(some 4), none, (.r (.mv (.c (.bool false))))⟩])
  .ret))) }
theorem tr_task_Task_unseen : trF cx Tryd.f54 = pf_task_Task_unseen := by kernel_rfl
/-- depot/task.reads -/
def pf_task_reads : PF := { ntmps := 11, results := [.tmp 2], body :=
  (.seq (.region [.op ⟨(some 2), none, (.r (.mv (.c (.bool false))))⟩])
  (.seq (.seq (.region [.op ⟨(some 3), none, (.r (.mv (.t 0)))⟩])
  (.block 0 (.seq (.seq (.region [.op ⟨(some 5), none, (.r (.bin .eql (.t 3) (.c (.int .i64 (.ofNat 1)))))⟩,
     .op ⟨(some 4), none, (.r (.mv (.t 5)))⟩])
   (.cond (.t 4)
    .skip
    (.seq (.region [.op ⟨(some 6), none, (.r (.bin .eql (.t 3) (.c (.int .i64 (.ofNat 2)))))⟩,
      .op ⟨(some 4), none, (.r (.mv (.t 6)))⟩])
    (.cond (.t 4)
     .skip
     (.seq (.region [.op ⟨(some 7), none, (.r (.bin .eql (.t 3) (.c (.int .i64 (.ofNat 6)))))⟩,
       .op ⟨(some 4), none, (.r (.mv (.t 7)))⟩])
     (.cond (.t 4)
      .skip
      (.seq (.region [.op ⟨(some 8), none, (.r (.bin .eql (.t 3) (.c (.int .i64 (.ofNat 7)))))⟩,
        .op ⟨(some 4), none, (.r (.mv (.t 8)))⟩])
      (.cond (.t 4)
       .skip
       (.seq (.region [.op ⟨(some 9), none, (.r (.bin .eql (.t 3) (.c (.int .i64 (.ofNat 10)))))⟩,
         .op ⟨(some 4), none, (.r (.mv (.t 9)))⟩])
       (.cond (.t 4)
        .skip
        (.region [.op ⟨(some 10), none, (.r (.bin .eql (.t 3) (.c (.int .i64 (.ofNat 11)))))⟩,
          .op ⟨(some 4), none, (.r (.mv (.t 10)))⟩])))))))))))
   (.cond (.t 4)
    (.seq (.region [.op ⟨(some 2), none, (.r (.mv (.c (.bool true))))⟩])
    .ret)
    .skip))))
  (.seq (.region [.op ⟨(some 2), none, (.r (.mv (.c (.bool false))))⟩])
  .ret))) }
theorem tr_task_reads : trF cx Tryd.f55 = pf_task_reads := by kernel_rfl
def l0_task_Task_gather : PC :=
  (.seq (.region [.op ⟨(some 45), none, (.r (.bin .lss (.t 44) (.t 43)))⟩])
  (.seq (.cond (.t 45)
   .skip
   (.exit 0))
  (.seq (.block 1 (.seq (.region [.op ⟨(some 46), none, (.r (.mv (.t 44)))⟩,
     .op ⟨(some 47), none, (.r (.iasl 1 (.t 42) (.t 44)))⟩,
     .op ⟨(some 48), none, (.r (.load false 1 (.t 47)))⟩,
     .op ⟨(some 5), none, (.r (.mv (.t 46)))⟩,
     .op ⟨(some 6), none, (.r (.mv (.t 48)))⟩])
   (.seq (.region [.op ⟨(some 49), none, (.r (.mv (.t 6)))⟩,
     .op ⟨(some 50), none, (.r (.faddr 0 (.t 3)))⟩,
     .op ⟨(some 51), none, (.r (.iaarr 12 1 (.t 50) (.t 49)))⟩,
     .op ⟨(some 52), none, (.r (.load false 1 (.t 51)))⟩,
     .op ⟨(some 53), none, (.r (.bin .eql (.t 52) (.c (.int .i64 (.ofNat 2)))))⟩])
   (.cond (.t 53)
    (.region [.op ⟨(some 54), none, (.r (.mv (.t 4)))⟩,
      .op ⟨(some 55), none, (.r (.mv (.t 5)))⟩,
      .op ⟨(some 56), none, (.n (.bslice 0 1 1 [(.int .i64 (.ofNat 0))] [(0, 1, (.t 55))]))⟩,
      .op ⟨(some 57), none, (.e (.app 0 1 8 (.t 54) (.t 56)))⟩,
      .op ⟨(some 4), none, (.r (.mv (.t 57)))⟩])
    .skip))))
  (.region [.op ⟨(some 58), none, (.r (.bin .add (.t 44) (.c (.int .i64 (.ofNat 1)))))⟩,
    .op ⟨(some 44), none, (.r (.mv (.t 58)))⟩]))))
/-- (*depot/task.Task).gather -/
def pf_task_Task_gather : PF := { ntmps := 82, results := [], body :=
  (.seq (.region [.op ⟨(some 3), none, (.n (.box (.t 1)))⟩])
  (.seq (.seq (.region [.op ⟨(some 7), none, (.r (.mv (.t 0)))⟩,
    .op ⟨(some 8), none, (.r (.nilck (.t 7)))⟩,
    .op ⟨(some 9), none, (.r (.faddr 17 (.t 8)))⟩,
    .op ⟨(some 10), none, (.r (.load false 1 (.t 9)))⟩,
    .op ⟨(some 11), none, (.r (.bin .geq (.t 10) (.c (.int .i64 (.ofNat 0)))))⟩,
    .op ⟨(some 12), none, (.r (.mv (.t 11)))⟩,
    .op ⟨(some 13), (some (12, true)), (.r (.mv (.t 0)))⟩,
    .op ⟨(some 14), (some (12, true)), (.r (.nilck (.t 13)))⟩,
    .op ⟨(some 15), (some (12, true)), (.r (.faddr 7 (.t 14)))⟩,
    .op ⟨(some 16), (some (12, true)), (.r (.load false 1 (.t 15)))⟩,
    .op ⟨(some 17), (some (12, true)), (.r (.mv (.t 0)))⟩,
    .op ⟨(some 18), (some (12, true)), (.r (.nilck (.t 17)))⟩,
    .op ⟨(some 19), (some (12, true)), (.r (.faddr 19 (.t 18)))⟩,
    .op ⟨(some 20), (some (12, true)), (.r (.load false 1 (.t 19)))⟩,
    .op ⟨(some 21), (some (12, true)), (.r (.lensl (.t 20)))⟩,
    .op ⟨(some 22), (some (12, true)), (.r (.mv (.t 0)))⟩,
    .op ⟨(some 23), (some (12, true)), (.r (.nilck (.t 22)))⟩,
    .op ⟨(some 24), (some (12, true)), (.r (.faddr 0 (.t 23)))⟩,
    .op ⟨(some 25), (some (12, true)), (.r (.faddr 3 (.t 24)))⟩,
    .op ⟨(some 26), (some (12, true)), (.r (.load false 1 (.t 25)))⟩,
    .op ⟨(some 27), (some (12, true)), (.r (.mv (.t 0)))⟩,
    .op ⟨(some 28), (some (12, true)), (.r (.nilck (.t 27)))⟩,
    .op ⟨(some 29), (some (12, true)), (.r (.faddr 17 (.t 28)))⟩,
    .op ⟨(some 30), (some (12, true)), (.r (.load false 1 (.t 29)))⟩,
    .op ⟨(some 31), (some (12, true)), (.e (.call n_place_Position [(.t 16), (.t 21), (.t 26), (.t 30)]))⟩,
    .op ⟨(some 32), (some (12, true)), (.r (.bin .lss (.t 31) (.c (.int .i64 (.ofNat 0)))))⟩,
    .op ⟨(some 33), none, (.r (.pick (.t 12) (.t 32) (.c (.bool false))))⟩])
  (.cond (.t 33)
   (.seq (.region [.op ⟨(some 34), none, (.r (.mv (.t 0)))⟩,
     .op ⟨(some 35), none, (.r (.load true 14 (.t 3)))⟩,
     .op ⟨(some 36), none, (.e (.call n_task_Task_refill [(.t 34), (.t 35), (.c .nils)]))⟩])
   .ret)
   .skip))
  (.seq (.region [.op ⟨(some 37), none, (.r (.mv (.t 0)))⟩,
    .op ⟨(some 38), none, (.e (.call n_task_Task_enter [(.t 37), (.c (.int .i64 (.ofNat 2)))]))⟩])
  (.seq (.region [.op ⟨(some 4), none, (.r (.mv (.c .nils)))⟩])
  (.seq (.seq (.region [.op ⟨(some 39), none, (.r (.mv (.t 0)))⟩,
    .op ⟨(some 40), none, (.r (.nilck (.t 39)))⟩,
    .op ⟨(some 41), none, (.r (.faddr 19 (.t 40)))⟩,
    .op ⟨(some 42), none, (.r (.load false 1 (.t 41)))⟩,
    .op ⟨(some 43), none, (.r (.lensl (.t 42)))⟩,
    .op ⟨(some 44), none, (.r (.mv (.c (.int .i64 (.ofNat 0)))))⟩])
  (.block 0 (.loop l0_task_Task_gather)))
  (.seq (.region [.op ⟨(some 60), none, (.r (.mv (.t 0)))⟩,
    .op ⟨(some 61), none, (.r (.mv (.t 0)))⟩,
    .op ⟨(some 62), none, (.r (.nilck (.t 61)))⟩,
    .op ⟨(some 63), none, (.r (.faddr 0 (.t 62)))⟩,
    .op ⟨(some 64), none, (.r (.faddr 0 (.t 63)))⟩,
    .op ⟨(some 65), none, (.r (.load false 1 (.t 64)))⟩,
    .op ⟨(some 66), none, (.r (.mv (.t 0)))⟩,
    .op ⟨(some 67), none, (.r (.nilck (.t 66)))⟩,
    .op ⟨(some 68), none, (.r (.faddr 0 (.t 67)))⟩,
    .op ⟨(some 69), none, (.r (.faddr 2 (.t 68)))⟩,
    .op ⟨(some 70), none, (.r (.load false 1 (.t 69)))⟩,
    .op ⟨(some 71), none, (.r (.mv (.t 4)))⟩,
    .op ⟨(some 72), none, (.e (.call n_gather_New [(.t 65), (.t 70), (.t 71)]))⟩,
    .op ⟨(some 59), none, (.r (.mv (.t 72)))⟩,
    .op ⟨(some 73), none, (.r (.ext 0 (.t 59)))⟩,
    .op ⟨(some 74), none, (.r (.ext 1 (.t 59)))⟩,
    .op ⟨(some 75), none, (.r (.nilck (.t 60)))⟩,
    .op ⟨(some 76), none, (.r (.faddr 44 (.t 75)))⟩,
    .op ⟨none, none, (.e (.store 1 (.t 76) (.t 73)))⟩])
  (.seq (.region [.op ⟨(some 77), none, (.r (.mv (.t 0)))⟩,
    .op ⟨(some 78), none, (.e (.call n_task_Task_more [(.t 77)]))⟩])
  (.region [.op ⟨(some 79), none, (.r (.mv (.t 0)))⟩,
    .op ⟨(some 80), none, (.r (.load true 14 (.t 3)))⟩,
    .op ⟨(some 81), none, (.e (.call n_task_Task_on [(.t 79), (.t 80)]))⟩])))))))) }
theorem tr_task_Task_gather : trF cx Tryd.f56 = pf_task_Task_gather := by kernel_rfl
/-- (*depot/task.Task).write -/
def pf_task_Task_write : PF := { ntmps := 26, results := [], body :=
  (.seq (.region [.op ⟨(some 3), none, (.n (.box (.t 1)))⟩])
  (.seq (.region [.op ⟨(some 4), none, (.r (.mv (.t 0)))⟩,
    .op ⟨(some 5), none, (.e (.call n_task_Task_enter [(.t 4), (.c (.int .i64 (.ofNat 4)))]))⟩])
  (.seq (.region [.op ⟨(some 6), none, (.r (.mv (.t 0)))⟩,
    .op ⟨(some 7), none, (.r (.load true 14 (.t 3)))⟩,
    .op ⟨(some 8), none, (.r (.mv (.t 0)))⟩,
    .op ⟨(some 9), none, (.r (.nilck (.t 8)))⟩,
    .op ⟨(some 10), none, (.r (.faddr 20 (.t 9)))⟩,
    .op ⟨(some 11), none, (.r (.load false 1 (.t 10)))⟩,
    .op ⟨(some 12), none, (.r (.mv (.t 0)))⟩,
    .op ⟨(some 13), none, (.r (.nilck (.t 12)))⟩,
    .op ⟨(some 14), none, (.r (.faddr 18 (.t 13)))⟩,
    .op ⟨(some 15), none, (.r (.load false 1 (.t 14)))⟩,
    .op ⟨(some 16), none, (.r (.mv (.t 0)))⟩,
    .op ⟨(some 17), none, (.r (.nilck (.t 16)))⟩,
    .op ⟨(some 18), none, (.r (.faddr 46 (.t 17)))⟩,
    .op ⟨(some 19), none, (.r (.load true 5 (.t 18)))⟩,
    .op ⟨(some 20), none, (.e (.call n_task_PutRecord [(.t 19)]))⟩,
    .again ⟨(some 15), none, (.r (.load false 1 (.t 14)))⟩,
    .again ⟨(some 11), none, (.r (.load false 1 (.t 10)))⟩,
    .again ⟨(some 7), none, (.r (.load true 14 (.t 3)))⟩,
    .op ⟨(some 21), none, (.r (.build [(.int .i64 (.ofNat 0)), (.int .i64 (.ofNat 0)), (.int .i64 (.ofNat 0)), (.int .i64 (.ofNat 0)), (.int .i64 (.ofNat 0)), (.int .i64 (.ofNat 0)), (.str []), (.int .i64 (.ofNat 0)), (.str [])] [(0, 1, (.c (.int .i64 (.ofNat 1)))), (5, 1, (.c (.int .i64 (.ofNat 1)))), (7, 1, (.t 15)), (8, 1, (.t 20))]))⟩,
    .op ⟨(some 22), none, (.e (.call n_task_Task_all [(.t 6), (.t 7), (.t 11), (.t 21)]))⟩])
  (.region [.op ⟨(some 23), none, (.r (.mv (.t 0)))⟩,
    .op ⟨(some 24), none, (.r (.load true 14 (.t 3)))⟩,
    .op ⟨(some 25), none, (.e (.call n_task_Task_on [(.t 23), (.t 24)]))⟩])))) }
theorem tr_task_Task_write : trF cx Tryd.f57 = pf_task_Task_write := by kernel_rfl
def l0_task_Task_all : PC :=
  (.seq (.region [.op ⟨(some 13), none, (.r (.bin .lss (.t 12) (.t 11)))⟩])
  (.seq (.cond (.t 13)
   .skip
   (.exit 0))
  (.seq (.block 1 (.seq (.region [.op ⟨(some 14), none, (.r (.iasl 1 (.t 10) (.t 12)))⟩,
     .op ⟨(some 15), none, (.r (.load false 1 (.t 14)))⟩,
     .op ⟨(some 9), none, (.r (.mv (.t 15)))⟩])
   (.seq (.region [.op ⟨(some 16), none, (.r (.mv (.t 9)))⟩,
     .op ⟨(some 17), none, (.r (.faddr 0 (.t 5)))⟩,
     .op ⟨(some 18), none, (.r (.iaarr 12 1 (.t 17) (.t 16)))⟩,
     .op ⟨(some 19), none, (.r (.load false 1 (.t 18)))⟩,
     .op ⟨(some 20), none, (.r (.bin .neq (.t 19) (.c (.int .i64 (.ofNat 0)))))⟩])
   (.cond (.t 20)
    (.region [.op ⟨(some 21), none, (.r (.mv (.t 0)))⟩,
      .op ⟨(some 22), none, (.r (.mv (.t 9)))⟩,
      .op ⟨(some 23), none, (.r (.load true 9 (.t 7)))⟩,
      .op ⟨(some 24), none, (.e (.call n_task_Task_ask [(.t 21), (.t 22), (.t 23)]))⟩])
    .skip))))
  (.region [.op ⟨(some 25), none, (.r (.bin .add (.t 12) (.c (.int .i64 (.ofNat 1)))))⟩,
    .op ⟨(some 12), none, (.r (.mv (.t 25)))⟩]))))
/-- (*depot/task.Task).all -/
def pf_task_Task_all : PF := { ntmps := 26, results := [], body :=
  (.seq (.region [.op ⟨(some 5), none, (.n (.box (.t 1)))⟩,
    .op ⟨(some 7), none, (.n (.box (.t 3)))⟩])
  (.seq (.region [.op ⟨(some 10), none, (.r (.mv (.t 2)))⟩,
    .op ⟨(some 11), none, (.r (.lensl (.t 10)))⟩,
    .op ⟨(some 12), none, (.r (.mv (.c (.int .i64 (.ofNat 0)))))⟩])
  (.block 0 (.loop l0_task_Task_all)))) }
theorem tr_task_Task_all : trF cx Tryd.f58 = pf_task_Task_all := by kernel_rfl
end Go.Proofs.YtjlfnolaifkakaaDoor
