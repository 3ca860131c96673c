/- The functions that this seat's laws reach, for the clean machine; each is what the translation makes of the given text. Conditions: none. Printed by program. -/
import Derived.Test.YtfcjmllbejpbbaaGreatDoorChecked
import Derived.KernelRfl
import Derived.Test.YtfcjmllbejpbbaaGreatDoorQsD
namespace Go.Proofs.YtfcjmllbejpbbaaGreatDoor
open Go.Dp
def nums : List Nat := [3, 4, 5, 6, 7, 8, 9, 10, 11, 12, 13, 14, 15, 16, 26, 27, 28, 29]
abbrev n_depotlaw21_TaskRecords : Nat := 3
abbrev n_task_PutRecord : Nat := 4
abbrev n_task_GetRecord : Nat := 5
abbrev n_depotref21_GetRecord : Nat := 6
abbrev n_depotref21_PutRecord : Nat := 7
abbrev n_depotlaw21_TaskRuns : Nat := 8
abbrev n_pack_Num : Nat := 9
abbrev n_pack_Read : Nat := 10
abbrev n_pack_Reader_Num : Nat := 11
abbrev n_pack_Reader_End : Nat := 12
abbrev n_task_within : Nat := 13
abbrev n_depotref1_Reader_Num : Nat := 14
abbrev n_depotref1_Reader_End : Nat := 15
abbrev n_depotref1_Num : Nat := 16
abbrev n_pack_num : Nat := 26
abbrev n_pack_grown : Nat := 27
abbrev n_pack_Reader_fail : Nat := 28
abbrev n_depotref1_Reader_fail : Nat := 29
noncomputable def cx : Cx := { P := Tryz.prog, fm := fmOf nums, gm := fun _ => none, ext := extOf [], bt := none }
/-- depot/depotlaw21.TaskRecords -/
def pf_depotlaw21_TaskRecords : PF := { ntmps := 72, results := [.tmp 4], body :=
  (.seq (.region [.op ⟨(some 2), none, (.n (.box (.t 0)))⟩,
    .op ⟨(some 4), none, (.r (.mv (.c (.bool false))))⟩])
  (.seq (.seq (.region [.op ⟨(some 14), none, (.r (.mv (.t 1)))⟩,
    .op ⟨(some 15), none, (.r (.lens (.t 14)))⟩,
    .op ⟨(some 16), none, (.r (.bin .gtr (.t 15) (.c (.int .i64 (.ofNat 200)))))⟩])
  (.cond (.t 16)
   (.region [.op ⟨(some 17), none, (.r (.mv (.t 1)))⟩,
     .op ⟨(some 18), none, (.r (.slstr (.t 17) none (some (.c (.int .i64 (.ofNat 200))))))⟩,
     .op ⟨(some 1), none, (.r (.mv (.t 18)))⟩])
   .skip))
  (.seq (.region [.op ⟨(some 19), none, (.r (.load true 5 (.t 2)))⟩,
    .op ⟨(some 20), none, (.e (.call n_task_PutRecord [(.t 19)]))⟩,
    .op ⟨(some 5), none, (.r (.mv (.t 20)))⟩])
  (.seq (.region [.op ⟨(some 22), none, (.r (.mv (.t 1)))⟩,
    .op ⟨(some 23), none, (.e (.call n_task_GetRecord [(.t 22)]))⟩,
    .op ⟨(some 21), none, (.r (.mv (.t 23)))⟩,
    .op ⟨(some 24), none, (.r (.ext 0 (.t 21)))⟩,
    .op ⟨(some 25), none, (.r (.ext 1 (.t 21)))⟩,
    .op ⟨(some 6), none, (.n (.new 0 [(.int .i64 (.ofNat 0)), (.int .i64 (.ofNat 0)), (.int .i64 (.ofNat 0)), (.int .i64 (.ofNat 0)), (.int .i64 (.ofNat 0))]))⟩,
    .op ⟨none, none, (.e (.store 5 (.t 6) (.t 24)))⟩,
    .op ⟨(some 7), none, (.r (.mv (.t 25)))⟩])
  (.seq (.region [.op ⟨(some 27), none, (.r (.mv (.t 1)))⟩,
    .op ⟨(some 28), none, (.e (.call n_depotref21_GetRecord [(.t 27)]))⟩,
    .op ⟨(some 26), none, (.r (.mv (.t 28)))⟩,
    .op ⟨(some 29), none, (.r (.ext 0 (.t 26)))⟩,
    .op ⟨(some 30), none, (.r (.ext 1 (.t 26)))⟩,
    .op ⟨(some 8), none, (.n (.new 0 [(.int .i64 (.ofNat 0)), (.int .i64 (.ofNat 0)), (.int .i64 (.ofNat 0)), (.int .i64 (.ofNat 0)), (.int .i64 (.ofNat 0))]))⟩,
    .op ⟨none, none, (.e (.store 5 (.t 8) (.t 29)))⟩,
    .op ⟨(some 9), none, (.r (.mv (.t 30)))⟩])
  (.seq (.region [.op ⟨(some 32), none, (.r (.mv (.t 5)))⟩,
    .op ⟨(some 33), none, (.e (.call n_task_GetRecord [(.t 32)]))⟩,
    .op ⟨(some 31), none, (.r (.mv (.t 33)))⟩,
    .op ⟨(some 34), none, (.r (.ext 0 (.t 31)))⟩,
    .op ⟨(some 35), none, (.r (.ext 1 (.t 31)))⟩,
    .op ⟨(some 10), none, (.n (.new 0 [(.int .i64 (.ofNat 0)), (.int .i64 (.ofNat 0)), (.int .i64 (.ofNat 0)), (.int .i64 (.ofNat 0)), (.int .i64 (.ofNat 0))]))⟩,
    .op ⟨none, none, (.e (.store 5 (.t 10) (.t 34)))⟩,
    .op ⟨(some 11), none, (.r (.mv (.t 35)))⟩])
  (.seq (.region [.op ⟨(some 37), none, (.r (.mv (.t 5)))⟩,
    .op ⟨(some 38), none, (.e (.call n_depotref21_GetRecord [(.t 37)]))⟩,
    .op ⟨(some 36), none, (.r (.mv (.t 38)))⟩,
    .op ⟨(some 39), none, (.r (.ext 0 (.t 36)))⟩,
    .op ⟨(some 40), none, (.r (.ext 1 (.t 36)))⟩,
    .op ⟨(some 12), none, (.n (.new 0 [(.int .i64 (.ofNat 0)), (.int .i64 (.ofNat 0)), (.int .i64 (.ofNat 0)), (.int .i64 (.ofNat 0)), (.int .i64 (.ofNat 0))]))⟩,
    .op ⟨none, none, (.e (.store 5 (.t 12) (.t 39)))⟩,
    .op ⟨(some 13), none, (.r (.mv (.t 40)))⟩])
  (.seq (.region [.op ⟨(some 41), none, (.r (.mv (.t 5)))⟩,
    .op ⟨(some 42), none, (.r (.load true 5 (.t 2)))⟩,
    .op ⟨(some 43), none, (.e (.call n_depotref21_PutRecord [(.t 42)]))⟩,
    .op ⟨(some 44), none, (.r (.bin .eql (.t 41) (.t 43)))⟩,
    .op ⟨(some 45), none, (.r (.mv (.t 44)))⟩,
    .op ⟨(some 46), (some (45, true)), (.r (.load true 5 (.t 6)))⟩,
    .op ⟨(some 47), (some (45, true)), (.r (.load true 5 (.t 8)))⟩,
    .op ⟨(some 48), (some (45, true)), (.r (.eqa false [(.i .i64), (.i .i64), (.i .i64), (.i .i64), (.i .i64)] (.t 46) (.t 47)))⟩,
    .op ⟨(some 49), none, (.r (.pick (.t 45) (.t 48) (.c (.bool false))))⟩,
    .op ⟨(some 50), none, (.r (.mv (.t 49)))⟩,
    .op ⟨(some 51), (some (50, true)), (.r (.mv (.t 7)))⟩,
    .op ⟨(some 52), (some (50, true)), (.r (.mv (.t 9)))⟩,
    .op ⟨(some 53), (some (50, true)), (.r (.eqv false .b (.t 51) (.t 52)))⟩,
    .op ⟨(some 54), none, (.r (.pick (.t 50) (.t 53) (.c (.bool false))))⟩,
    .op ⟨(some 55), none, (.r (.mv (.t 54)))⟩,
    .op ⟨(some 56), (some (55, true)), (.r (.mv (.t 11)))⟩,
    .op ⟨(some 57), (some (55, true)), (.r (.mv (.t 13)))⟩,
    .op ⟨(some 58), (some (55, true)), (.r (.eqv false .b (.t 56) (.t 57)))⟩,
    .op ⟨(some 59), none, (.r (.pick (.t 55) (.t 58) (.c (.bool false))))⟩,
    .op ⟨(some 60), none, (.r (.mv (.t 59)))⟩,
    .op ⟨(some 61), (some (60, true)), (.r (.mv (.t 11)))⟩,
    .op ⟨(some 62), (some (60, true)), (.r (.un .not (.t 61)))⟩,
    .op ⟨(some 63), (some (60, true)), (.r (.mv (.t 62)))⟩,
    .op ⟨(some 64), (some (63, false)), (.r (.load true 5 (.t 10)))⟩,
    .op ⟨(some 65), (some (63, false)), (.r (.load true 5 (.t 2)))⟩,
    .op ⟨(some 66), (some (63, false)), (.r (.eqa false [(.i .i64), (.i .i64), (.i .i64), (.i .i64), (.i .i64)] (.t 64) (.t 65)))⟩,
    .op ⟨(some 67), (some (60, true)), (.r (.pick (.t 63) (.c (.bool true)) (.t 66)))⟩,
    .op ⟨(some 68), none, (.r (.pick (.t 60) (.t 67) (.c (.bool false))))⟩,
    .op ⟨(some 69), none, (.r (.mv (.t 68)))⟩,
    .op ⟨(some 70), (some (69, true)), (.e (.call n_depotlaw21_TaskRuns []))⟩,
    .op ⟨(some 71), none, (.r (.pick (.t 69) (.t 70) (.c (.bool false))))⟩,
    .op ⟨(some 4), none, (.r (.mv (.t 71)))⟩])
  .ret)))))))) }
theorem tr_depotlaw21_TaskRecords : trF cx Tryz.f3 = pf_depotlaw21_TaskRecords := by kernel_rfl
def l0_task_PutRecord : PC :=
  (.seq (.region [.op ⟨(some 19), none, (.r (.bin .lss (.t 18) (.t 17)))⟩])
  (.seq (.cond (.t 19)
   .skip
   (.exit 0))
  (.seq (.block 1 (.seq (.region [.op ⟨(some 20), none, (.r (.iasl 1 (.t 16) (.t 18)))⟩,
     .op ⟨(some 21), none, (.r (.load false 1 (.t 20)))⟩,
     .op ⟨(some 5), none, (.r (.mv (.t 21)))⟩])
   (.region [.op ⟨(some 22), none, (.r (.mv (.t 3)))⟩,
     .op ⟨(some 23), none, (.r (.mv (.t 5)))⟩,
     .op ⟨(some 24), none, (.e (.call n_pack_Num [(.t 22), (.t 23)]))⟩,
     .op ⟨(some 3), none, (.r (.mv (.t 24)))⟩])))
  (.region [.op ⟨(some 25), none, (.r (.bin .add (.t 18) (.c (.int .i64 (.ofNat 1)))))⟩,
    .op ⟨(some 18), none, (.r (.mv (.t 25)))⟩]))))
/-- depot/task.PutRecord -/
def pf_task_PutRecord : PF := { ntmps := 28, results := [.tmp 2], body :=
  (.seq (.region [.op ⟨(some 1), none, (.n (.box (.t 0)))⟩,
    .op ⟨(some 2), none, (.r (.mv (.c (.str []))))⟩])
  (.seq (.region [.op ⟨(some 3), none, (.r (.mv (.c .nils)))⟩])
  (.seq (.seq (.region [.op ⟨(some 6), none, (.r (.faddr 0 (.t 1)))⟩,
    .op ⟨(some 7), none, (.r (.load false 1 (.t 6)))⟩,
    .op ⟨(some 8), none, (.r (.faddr 1 (.t 1)))⟩,
    .op ⟨(some 9), none, (.r (.load false 1 (.t 8)))⟩,
    .op ⟨(some 10), none, (.r (.faddr 2 (.t 1)))⟩,
    .op ⟨(some 11), none, (.r (.load false 1 (.t 10)))⟩,
    .op ⟨(some 12), none, (.r (.faddr 3 (.t 1)))⟩,
    .op ⟨(some 13), none, (.r (.load false 1 (.t 12)))⟩,
    .op ⟨(some 14), none, (.r (.faddr 4 (.t 1)))⟩,
    .op ⟨(some 15), none, (.r (.load false 1 (.t 14)))⟩,
    .op ⟨(some 16), none, (.n (.bslice 0 1 5 [(.int .i64 (.ofNat 0)), (.int .i64 (.ofNat 0)), (.int .i64 (.ofNat 0)), (.int .i64 (.ofNat 0)), (.int .i64 (.ofNat 0))] [(0, 1, (.t 7)), (1, 1, (.t 9)), (2, 1, (.t 11)), (3, 1, (.t 13)), (4, 1, (.t 15))]))⟩,
    .op ⟨(some 17), none, (.r (.lensl (.t 16)))⟩,
    .op ⟨(some 18), none, (.r (.mv (.c (.int .i64 (.ofNat 0)))))⟩])
  (.block 0 (.loop l0_task_PutRecord)))
  (.seq (.region [.op ⟨(some 26), none, (.r (.mv (.t 3)))⟩,
    .op ⟨(some 27), none, (.r (.b2s (.t 26)))⟩,
    .op ⟨(some 2), none, (.r (.mv (.t 27)))⟩])
  .ret)))) }
theorem tr_task_PutRecord : trF cx Tryz.f4 = pf_task_PutRecord := by kernel_rfl
def l0_task_GetRecord : PC :=
  (.seq (.region [.op ⟨(some 20), none, (.r (.bin .lss (.t 19) (.t 18)))⟩])
  (.seq (.cond (.t 20)
   .skip
   (.exit 0))
  (.seq (.block 1 (.seq (.region [.op ⟨(some 21), none, (.r (.iasl 1 (.t 17) (.t 19)))⟩,
     .op ⟨(some 22), none, (.r (.load false 1 (.t 21)))⟩,
     .op ⟨(some 7), none, (.r (.mv (.t 22)))⟩])
   (.region [.op ⟨(some 23), none, (.r (.mv (.t 7)))⟩,
     .op ⟨(some 24), none, (.r (.mv (.t 4)))⟩,
     .op ⟨(some 25), none, (.e (.call n_pack_Reader_Num [(.t 24)]))⟩,
     .op ⟨(some 26), none, (.r (.nilck (.t 23)))⟩,
     .op ⟨none, none, (.e (.store 1 (.t 26) (.t 25)))⟩])))
  (.region [.op ⟨(some 27), none, (.r (.bin .add (.t 19) (.c (.int .i64 (.ofNat 1)))))⟩,
    .op ⟨(some 19), none, (.r (.mv (.t 27)))⟩]))))
/-- depot/task.GetRecord -/
def pf_task_GetRecord : PF := { ntmps := 60, results := [.cell 2 true 5, .tmp 3], body :=
  (.seq (.region [.op ⟨(some 2), none, (.n (.new 0 [(.int .i64 (.ofNat 0)), (.int .i64 (.ofNat 0)), (.int .i64 (.ofNat 0)), (.int .i64 (.ofNat 0)), (.int .i64 (.ofNat 0))]))⟩,
    .op ⟨(some 3), none, (.r (.mv (.c (.bool false))))⟩])
  (.seq (.region [.op ⟨(some 9), none, (.r (.mv (.t 0)))⟩,
    .op ⟨(some 10), none, (.n (.s2b (.t 9)))⟩,
    .op ⟨(some 11), none, (.e (.call n_pack_Read [(.t 10)]))⟩,
    .op ⟨(some 4), none, (.r (.mv (.t 11)))⟩])
  (.seq (.region [.op ⟨(some 5), none, (.n (.new 0 [(.int .i64 (.ofNat 0)), (.int .i64 (.ofNat 0)), (.int .i64 (.ofNat 0)), (.int .i64 (.ofNat 0)), (.int .i64 (.ofNat 0))]))⟩])
  (.seq (.seq (.region [.op ⟨(some 12), none, (.r (.faddr 0 (.t 5)))⟩,
    .op ⟨(some 13), none, (.r (.faddr 1 (.t 5)))⟩,
    .op ⟨(some 14), none, (.r (.faddr 2 (.t 5)))⟩,
    .op ⟨(some 15), none, (.r (.faddr 3 (.t 5)))⟩,
    .op ⟨(some 16), none, (.r (.faddr 4 (.t 5)))⟩,
    .op ⟨(some 17), none, (.n (.bslice 0 1 5 [.nilp, .nilp, .nilp, .nilp, .nilp] [(0, 1, (.t 12)), (1, 1, (.t 13)), (2, 1, (.t 14)), (3, 1, (.t 15)), (4, 1, (.t 16))]))⟩,
    .op ⟨(some 18), none, (.r (.lensl (.t 17)))⟩,
    .op ⟨(some 19), none, (.r (.mv (.c (.int .i64 (.ofNat 0)))))⟩])
  (.block 0 (.loop l0_task_GetRecord)))
  (.seq (.region [.op ⟨(some 28), none, (.r (.mv (.t 4)))⟩,
    .op ⟨(some 29), none, (.e (.call n_pack_Reader_End [(.t 28)]))⟩,
    .op ⟨(some 30), none, (.r (.bin .eql (.t 29) (.c (.int .i64 (.ofNat 0)))))⟩,
    .op ⟨(some 31), none, (.r (.mv (.t 30)))⟩,
    .op ⟨(some 32), (some (31, true)), (.r (.faddr 0 (.t 5)))⟩,
    .op ⟨(some 33), (some (31, true)), (.r (.load false 1 (.t 32)))⟩,
    .op ⟨(some 34), (some (31, true)), (.e (.call n_task_within [(.t 33), (.c (.int .i64 (.ofNat 0))), (.c (.int .i64 (.ofNat 1099511627776)))]))⟩,
    .op ⟨(some 35), none, (.r (.pick (.t 31) (.t 34) (.c (.bool false))))⟩,
    .op ⟨(some 36), none, (.r (.mv (.t 35)))⟩,
    .op ⟨(some 37), (some (36, true)), (.r (.faddr 1 (.t 5)))⟩,
    .op ⟨(some 38), (some (36, true)), (.r (.load false 1 (.t 37)))⟩,
    .op ⟨(some 39), (some (36, true)), (.e (.call n_task_within [(.t 38), (.c (.int .i64 (.ofNat 0))), (.c (.int .i64 (.ofNat 1099511627776)))]))⟩,
    .op ⟨(some 40), none, (.r (.pick (.t 36) (.t 39) (.c (.bool false))))⟩,
    .op ⟨(some 41), none, (.r (.mv (.t 40)))⟩,
    .op ⟨(some 42), (some (41, true)), (.r (.faddr 2 (.t 5)))⟩,
    .op ⟨(some 43), (some (41, true)), (.r (.load false 1 (.t 42)))⟩,
    .op ⟨(some 44), (some (41, true)), (.e (.call n_task_within [(.t 43), (.c (.int .i64 (.ofNat 0))), (.c (.int .i64 (.ofNat 4294967295)))]))⟩,
    .op ⟨(some 45), none, (.r (.pick (.t 41) (.t 44) (.c (.bool false))))⟩,
    .op ⟨(some 46), none, (.r (.mv (.t 45)))⟩,
    .op ⟨(some 47), (some (46, true)), (.r (.faddr 3 (.t 5)))⟩,
    .op ⟨(some 48), (some (46, true)), (.r (.load false 1 (.t 47)))⟩,
    .op ⟨(some 49), (some (46, true)), (.e (.call n_task_within [(.t 48), (.c (.int .i64 (.negSucc 0))), (.c (.int .i64 (.ofNat 2199023255552)))]))⟩,
    .op ⟨(some 50), none, (.r (.pick (.t 46) (.t 49) (.c (.bool false))))⟩,
    .op ⟨(some 51), none, (.r (.mv (.t 50)))⟩,
    .op ⟨(some 52), (some (51, true)), (.r (.faddr 4 (.t 5)))⟩,
    .op ⟨(some 53), (some (51, true)), (.r (.load false 1 (.t 52)))⟩,
    .op ⟨(some 54), (some (51, true)), (.e (.call n_task_within [(.t 53), (.c (.int .i64 (.ofNat 0))), (.c (.int .i64 (.ofNat 1048576)))]))⟩,
    .op ⟨(some 55), none, (.r (.pick (.t 51) (.t 54) (.c (.bool false))))⟩,
    .op ⟨(some 8), none, (.r (.mv (.t 55)))⟩])
  (.seq (.seq (.region [.op ⟨(some 56), none, (.r (.mv (.t 8)))⟩,
    .op ⟨(some 57), none, (.r (.un .not (.t 56)))⟩])
  (.cond (.t 57)
   (.seq (.region [.op ⟨(some 58), none, (.r (.build [(.int .i64 (.ofNat 0)), (.int .i64 (.ofNat 0)), (.int .i64 (.ofNat 0)), (.int .i64 (.ofNat 0)), (.int .i64 (.ofNat 0))] []))⟩,
     .op ⟨none, none, (.e (.store 5 (.t 2) (.t 58)))⟩,
     .op ⟨(some 3), none, (.r (.mv (.c (.bool false))))⟩])
   .ret)
   .skip))
  (.seq (.region [.op ⟨(some 59), none, (.r (.load true 5 (.t 5)))⟩,
    .op ⟨none, none, (.e (.store 5 (.t 2) (.t 59)))⟩,
    .op ⟨(some 3), none, (.r (.mv (.c (.bool true))))⟩])
  .ret))))))) }
theorem tr_task_GetRecord : trF cx Tryz.f5 = pf_task_GetRecord := by kernel_rfl
def l0_depotref21_GetRecord : PC :=
  (.seq (.region [.op ⟨(some 20), none, (.r (.bin .lss (.t 19) (.t 18)))⟩])
  (.seq (.cond (.t 20)
   .skip
   (.exit 0))
  (.seq (.block 1 (.seq (.region [.op ⟨(some 21), none, (.r (.iasl 1 (.t 17) (.t 19)))⟩,
     .op ⟨(some 22), none, (.r (.load false 1 (.t 21)))⟩,
     .op ⟨(some 7), none, (.r (.mv (.t 22)))⟩])
   (.region [.op ⟨(some 23), none, (.r (.mv (.t 7)))⟩,
     .op ⟨(some 24), none, (.r (.mv (.t 4)))⟩,
     .op ⟨(some 25), none, (.e (.call n_depotref1_Reader_Num [(.t 24)]))⟩,
     .op ⟨(some 26), none, (.r (.nilck (.t 23)))⟩,
     .op ⟨none, none, (.e (.store 1 (.t 26) (.t 25)))⟩])))
  (.region [.op ⟨(some 27), none, (.r (.bin .add (.t 19) (.c (.int .i64 (.ofNat 1)))))⟩,
    .op ⟨(some 19), none, (.r (.mv (.t 27)))⟩]))))
/-- depot/depotref21.GetRecord -/
def pf_depotref21_GetRecord : PF := { ntmps := 83, results := [.cell 2 true 5, .tmp 3], body :=
  (.seq (.region [.op ⟨(some 2), none, (.n (.new 0 [(.int .i64 (.ofNat 0)), (.int .i64 (.ofNat 0)), (.int .i64 (.ofNat 0)), (.int .i64 (.ofNat 0)), (.int .i64 (.ofNat 0))]))⟩,
    .op ⟨(some 3), none, (.r (.mv (.c (.bool false))))⟩])
  (.seq (.region [.op ⟨(some 8), none, (.r (.mv (.t 0)))⟩,
    .op ⟨(some 9), none, (.n (.s2b (.t 8)))⟩,
    .op ⟨(some 10), none, (.r (.build [.nils, (.int .i64 (.ofNat 0)), (.int .i64 (.ofNat 0))] [(0, 1, (.t 9))]))⟩,
    .op ⟨(some 11), none, (.n (.box (.t 10)))⟩,
    .op ⟨(some 4), none, (.r (.mv (.t 11)))⟩])
  (.seq (.region [.op ⟨(some 5), none, (.n (.new 0 [(.int .i64 (.ofNat 0)), (.int .i64 (.ofNat 0)), (.int .i64 (.ofNat 0)), (.int .i64 (.ofNat 0)), (.int .i64 (.ofNat 0))]))⟩])
  (.seq (.seq (.region [.op ⟨(some 12), none, (.r (.faddr 0 (.t 5)))⟩,
    .op ⟨(some 13), none, (.r (.faddr 1 (.t 5)))⟩,
    .op ⟨(some 14), none, (.r (.faddr 2 (.t 5)))⟩,
    .op ⟨(some 15), none, (.r (.faddr 3 (.t 5)))⟩,
    .op ⟨(some 16), none, (.r (.faddr 4 (.t 5)))⟩,
    .op ⟨(some 17), none, (.n (.bslice 0 1 5 [.nilp, .nilp, .nilp, .nilp, .nilp] [(0, 1, (.t 12)), (1, 1, (.t 13)), (2, 1, (.t 14)), (3, 1, (.t 15)), (4, 1, (.t 16))]))⟩,
    .op ⟨(some 18), none, (.r (.lensl (.t 17)))⟩,
    .op ⟨(some 19), none, (.r (.mv (.c (.int .i64 (.ofNat 0)))))⟩])
  (.block 0 (.loop l0_depotref21_GetRecord)))
  (.seq (.seq (.region [.op ⟨(some 28), none, (.r (.mv (.t 4)))⟩,
    .op ⟨(some 29), none, (.e (.call n_depotref1_Reader_End [(.t 28)]))⟩,
    .op ⟨(some 30), none, (.r (.bin .neq (.t 29) (.c (.int .i64 (.ofNat 0)))))⟩,
    .op ⟨(some 31), none, (.r (.mv (.t 30)))⟩,
    .op ⟨(some 32), (some (31, false)), (.r (.faddr 0 (.t 5)))⟩,
    .op ⟨(some 33), (some (31, false)), (.r (.load false 1 (.t 32)))⟩,
    .op ⟨(some 34), (some (31, false)), (.r (.bin .lss (.t 33) (.c (.int .i64 (.ofNat 0)))))⟩,
    .op ⟨(some 35), none, (.r (.pick (.t 31) (.c (.bool true)) (.t 34)))⟩,
    .op ⟨(some 36), none, (.r (.mv (.t 35)))⟩,
    .op ⟨(some 37), (some (36, false)), (.r (.faddr 0 (.t 5)))⟩,
    .op ⟨(some 38), (some (36, false)), (.r (.load false 1 (.t 37)))⟩,
    .op ⟨(some 39), (some (36, false)), (.r (.bin .gtr (.t 38) (.c (.int .i64 (.ofNat 1099511627776)))))⟩,
    .op ⟨(some 40), none, (.r (.pick (.t 36) (.c (.bool true)) (.t 39)))⟩,
    .op ⟨(some 41), none, (.r (.mv (.t 40)))⟩,
    .op ⟨(some 42), (some (41, false)), (.r (.faddr 1 (.t 5)))⟩,
    .op ⟨(some 43), (some (41, false)), (.r (.load false 1 (.t 42)))⟩,
    .op ⟨(some 44), (some (41, false)), (.r (.bin .lss (.t 43) (.c (.int .i64 (.ofNat 0)))))⟩,
    .op ⟨(some 45), none, (.r (.pick (.t 41) (.c (.bool true)) (.t 44)))⟩,
    .op ⟨(some 46), none, (.r (.mv (.t 45)))⟩,
    .op ⟨(some 47), (some (46, false)), (.r (.faddr 1 (.t 5)))⟩,
    .op ⟨(some 48), (some (46, false)), (.r (.load false 1 (.t 47)))⟩,
    .op ⟨(some 49), (some (46, false)), (.r (.bin .gtr (.t 48) (.c (.int .i64 (.ofNat 1099511627776)))))⟩,
    .op ⟨(some 50), none, (.r (.pick (.t 46) (.c (.bool true)) (.t 49)))⟩,
    .op ⟨(some 51), none, (.r (.mv (.t 50)))⟩,
    .op ⟨(some 52), (some (51, false)), (.r (.faddr 2 (.t 5)))⟩,
    .op ⟨(some 53), (some (51, false)), (.r (.load false 1 (.t 52)))⟩,
    .op ⟨(some 54), (some (51, false)), (.r (.bin .lss (.t 53) (.c (.int .i64 (.ofNat 0)))))⟩,
    .op ⟨(some 55), none, (.r (.pick (.t 51) (.c (.bool true)) (.t 54)))⟩,
    .op ⟨(some 56), none, (.r (.mv (.t 55)))⟩,
    .op ⟨(some 57), (some (56, false)), (.r (.faddr 2 (.t 5)))⟩,
    .op ⟨(some 58), (some (56, false)), (.r (.load false 1 (.t 57)))⟩,
    .op ⟨(some 59), (some (56, false)), (.r (.bin .gtr (.t 58) (.c (.int .i64 (.ofNat 4294967295)))))⟩,
    .op ⟨(some 60), none, (.r (.pick (.t 56) (.c (.bool true)) (.t 59)))⟩,
    .op ⟨(some 61), none, (.r (.mv (.t 60)))⟩,
    .op ⟨(some 62), (some (61, false)), (.r (.faddr 3 (.t 5)))⟩,
    .op ⟨(some 63), (some (61, false)), (.r (.load false 1 (.t 62)))⟩,
    .op ⟨(some 64), (some (61, false)), (.r (.bin .lss (.t 63) (.c (.int .i64 (.negSucc 0)))))⟩,
    .op ⟨(some 65), none, (.r (.pick (.t 61) (.c (.bool true)) (.t 64)))⟩,
    .op ⟨(some 66), none, (.r (.mv (.t 65)))⟩,
    .op ⟨(some 67), (some (66, false)), (.r (.faddr 3 (.t 5)))⟩,
    .op ⟨(some 68), (some (66, false)), (.r (.load false 1 (.t 67)))⟩,
    .op ⟨(some 69), (some (66, false)), (.r (.bin .gtr (.t 68) (.c (.int .i64 (.ofNat 2199023255552)))))⟩,
    .op ⟨(some 70), none, (.r (.pick (.t 66) (.c (.bool true)) (.t 69)))⟩,
    .op ⟨(some 71), none, (.r (.mv (.t 70)))⟩,
    .op ⟨(some 72), (some (71, false)), (.r (.faddr 4 (.t 5)))⟩,
    .op ⟨(some 73), (some (71, false)), (.r (.load false 1 (.t 72)))⟩,
    .op ⟨(some 74), (some (71, false)), (.r (.bin .lss (.t 73) (.c (.int .i64 (.ofNat 0)))))⟩,
    .op ⟨(some 75), none, (.r (.pick (.t 71) (.c (.bool true)) (.t 74)))⟩,
    .op ⟨(some 76), none, (.r (.mv (.t 75)))⟩,
    .op ⟨(some 77), (some (76, false)), (.r (.faddr 4 (.t 5)))⟩,
    .op ⟨(some 78), (some (76, false)), (.r (.load false 1 (.t 77)))⟩,
    .op ⟨(some 79), (some (76, false)), (.r (.bin .gtr (.t 78) (.c (.int .i64 (.ofNat 1048576)))))⟩,
    .op ⟨(some 80), none, (.r (.pick (.t 76) (.c (.bool true)) (.t 79)))⟩])
  (.cond (.t 80)
   (.seq (.region [.op ⟨(some 81), none, (.r (.build [(.int .i64 (.ofNat 0)), (.int .i64 (.ofNat 0)), (.int .i64 (.ofNat 0)), (.int .i64 (.ofNat 0)), (.int .i64 (.ofNat 0))] []))⟩,
     .op ⟨none, none, (.e (.store 5 (.t 2) (.t 81)))⟩,
     .op ⟨(some 3), none, (.r (.mv (.c (.bool false))))⟩])
   .ret)
   .skip))
  (.seq (.region [.op ⟨(some 82), none, (.r (.load true 5 (.t 5)))⟩,
    .op ⟨none, none, (.e (.store 5 (.t 2) (.t 82)))⟩,
    .op ⟨(some 3), none, (.r (.mv (.c (.bool true))))⟩])
  .ret)))))) }
theorem tr_depotref21_GetRecord : trF cx Tryz.f6 = pf_depotref21_GetRecord := by kernel_rfl
def l0_depotref21_PutRecord : PC :=
  (.seq (.region [.op ⟨(some 19), none, (.r (.bin .lss (.t 18) (.t 17)))⟩])
  (.seq (.cond (.t 19)
   .skip
   (.exit 0))
  (.seq (.block 1 (.seq (.region [.op ⟨(some 20), none, (.r (.iasl 1 (.t 16) (.t 18)))⟩,
     .op ⟨(some 21), none, (.r (.load false 1 (.t 20)))⟩,
     .op ⟨(some 5), none, (.r (.mv (.t 21)))⟩])
   (.region [.op ⟨(some 22), none, (.r (.mv (.t 3)))⟩,
     .op ⟨(some 23), none, (.r (.mv (.t 5)))⟩,
     .op ⟨(some 24), none, (.e (.call n_depotref1_Num [(.t 22), (.t 23)]))⟩,
     .op ⟨(some 3), none, (.r (.mv (.t 24)))⟩])))
  (.region [.op ⟨(some 25), none, (.r (.bin .add (.t 18) (.c (.int .i64 (.ofNat 1)))))⟩,
    .op ⟨(some 18), none, (.r (.mv (.t 25)))⟩]))))
/-- depot/depotref21.PutRecord -/
def pf_depotref21_PutRecord : PF := { ntmps := 28, results := [.tmp 2], body :=
  (.seq (.region [.op ⟨(some 1), none, (.n (.box (.t 0)))⟩,
    .op ⟨(some 2), none, (.r (.mv (.c (.str []))))⟩])
  (.seq (.region [.op ⟨(some 3), none, (.r (.mv (.c .nils)))⟩])
  (.seq (.seq (.region [.op ⟨(some 6), none, (.r (.faddr 0 (.t 1)))⟩,
    .op ⟨(some 7), none, (.r (.load false 1 (.t 6)))⟩,
    .op ⟨(some 8), none, (.r (.faddr 1 (.t 1)))⟩,
    .op ⟨(some 9), none, (.r (.load false 1 (.t 8)))⟩,
    .op ⟨(some 10), none, (.r (.faddr 2 (.t 1)))⟩,
    .op ⟨(some 11), none, (.r (.load false 1 (.t 10)))⟩,
    .op ⟨(some 12), none, (.r (.faddr 3 (.t 1)))⟩,
    .op ⟨(some 13), none, (.r (.load false 1 (.t 12)))⟩,
    .op ⟨(some 14), none, (.r (.faddr 4 (.t 1)))⟩,
    .op ⟨(some 15), none, (.r (.load false 1 (.t 14)))⟩,
    .op ⟨(some 16), none, (.n (.bslice 0 1 5 [(.int .i64 (.ofNat 0)), (.int .i64 (.ofNat 0)), (.int .i64 (.ofNat 0)), (.int .i64 (.ofNat 0)), (.int .i64 (.ofNat 0))] [(0, 1, (.t 7)), (1, 1, (.t 9)), (2, 1, (.t 11)), (3, 1, (.t 13)), (4, 1, (.t 15))]))⟩,
    .op ⟨(some 17), none, (.r (.lensl (.t 16)))⟩,
    .op ⟨(some 18), none, (.r (.mv (.c (.int .i64 (.ofNat 0)))))⟩])
  (.block 0 (.loop l0_depotref21_PutRecord)))
  (.seq (.region [.op ⟨(some 26), none, (.r (.mv (.t 3)))⟩,
    .op ⟨(some 27), none, (.r (.b2s (.t 26)))⟩,
    .op ⟨(some 2), none, (.r (.mv (.t 27)))⟩])
  .ret)))) }
theorem tr_depotref21_PutRecord : trF cx Tryz.f7 = pf_depotref21_PutRecord := by kernel_rfl
/-- depot/pack.Num -/
def pf_pack_Num : PF := { ntmps := 9, results := [.tmp 4], body :=
  (.seq (.region [.op ⟨(some 4), none, (.r (.mv (.c .nils)))⟩])
  (.seq (.region [.op ⟨(some 5), none, (.r (.mv (.t 0)))⟩,
    .op ⟨(some 6), none, (.e (.call n_pack_grown [(.t 5), (.c (.int .i64 (.ofNat 10)))]))⟩,
    .op ⟨(some 7), none, (.r (.mv (.t 1)))⟩,
    .op ⟨(some 8), none, (.e (.call n_pack_num [(.t 6), (.t 7)]))⟩,
    .op ⟨(some 4), none, (.r (.mv (.t 8)))⟩])
  .ret)) }
theorem tr_pack_Num : trF cx Tryz.f9 = pf_pack_Num := by kernel_rfl
/-- depot/pack.Read -/
def pf_pack_Read : PF := { ntmps := 7, results := [.tmp 2], body :=
  (.seq (.region [.op ⟨(some 2), none, (.r (.mv (.c .nilp)))⟩])
  (.seq (.region [.op ⟨(some 3), none, (.r (.mv (.t 0)))⟩,
    .op ⟨(some 4), none, (.e (.call n_pack_grown [(.t 3), (.c (.int .i64 (.ofNat 0)))]))⟩,
    .op ⟨(some 5), none, (.r (.build [.nils, (.int .i64 (.ofNat 0)), (.int .i64 (.ofNat 0))] [(0, 1, (.t 4))]))⟩,
    .op ⟨(some 6), none, (.n (.box (.t 5)))⟩,
    .op ⟨(some 2), none, (.r (.mv (.t 6)))⟩])
  .ret)) }
theorem tr_pack_Read : trF cx Tryz.f10 = pf_pack_Read := by kernel_rfl
def l0_pack_Reader_Num : PC :=
  (.seq (.block 1 (.seq (.seq (.region [.op ⟨(some 18), none, (.r (.mv (.t 0)))⟩,
     .op ⟨(some 19), none, (.r (.nilck (.t 18)))⟩,
     .op ⟨(some 20), none, (.r (.faddr 1 (.t 19)))⟩,
     .op ⟨(some 21), none, (.r (.load false 1 (.t 20)))⟩,
     .op ⟨(some 22), none, (.r (.mv (.t 0)))⟩,
     .op ⟨(some 23), none, (.r (.nilck (.t 22)))⟩,
     .op ⟨(some 24), none, (.r (.faddr 0 (.t 23)))⟩,
     .op ⟨(some 25), none, (.r (.load false 1 (.t 24)))⟩,
     .op ⟨(some 26), none, (.r (.lensl (.t 25)))⟩,
     .op ⟨(some 27), none, (.r (.bin .eql (.t 21) (.t 26)))⟩])
   (.cond (.t 27)
    (.seq (.region [.op ⟨(some 28), none, (.r (.mv (.t 0)))⟩,
      .op ⟨(some 29), none, (.r (.mv (.t 3)))⟩,
      .op ⟨(some 30), none, (.e (.call n_pack_Reader_fail [(.t 28), (.t 29), (.c (.int .i64 (.ofNat 3)))]))⟩])
    (.seq (.region [.op ⟨(some 2), none, (.r (.mv (.c (.int .i64 (.ofNat 0)))))⟩])
    .ret))
    .skip))
   (.seq (.region [.op ⟨(some 31), none, (.r (.mv (.t 0)))⟩,
     .op ⟨(some 32), none, (.r (.nilck (.t 31)))⟩,
     .op ⟨(some 33), none, (.r (.faddr 0 (.t 32)))⟩,
     .op ⟨(some 34), none, (.r (.load false 1 (.t 33)))⟩,
     .op ⟨(some 35), none, (.r (.mv (.t 0)))⟩,
     .op ⟨(some 36), none, (.r (.nilck (.t 35)))⟩,
     .op ⟨(some 37), none, (.r (.faddr 1 (.t 36)))⟩,
     .op ⟨(some 38), none, (.r (.load false 1 (.t 37)))⟩,
     .op ⟨(some 39), none, (.r (.iasl 1 (.t 34) (.t 38)))⟩,
     .op ⟨(some 40), none, (.r (.load false 1 (.t 39)))⟩,
     .op ⟨(some 6), none, (.r (.mv (.t 40)))⟩])
   (.seq (.seq (.region [.op ⟨(some 41), none, (.r (.mv (.t 5)))⟩,
     .op ⟨(some 42), none, (.r (.bin .gtr (.t 41) (.c (.int .i64 (.ofNat 0)))))⟩,
     .op ⟨(some 43), none, (.r (.mv (.t 42)))⟩,
     .op ⟨(some 44), (some (43, true)), (.r (.mv (.t 6)))⟩,
     .op ⟨(some 45), (some (43, true)), (.r (.bin .eql (.t 44) (.c (.int .u8 (.ofNat 0)))))⟩,
     .op ⟨(some 46), none, (.r (.pick (.t 43) (.t 45) (.c (.bool false))))⟩,
     .op ⟨(some 47), none, (.r (.mv (.t 46)))⟩,
     .op ⟨(some 48), (some (47, false)), (.r (.mv (.t 5)))⟩,
     .op ⟨(some 49), (some (47, false)), (.r (.bin .eql (.t 48) (.c (.int .i64 (.ofNat 9)))))⟩,
     .op ⟨(some 50), (some (47, false)), (.r (.mv (.t 49)))⟩,
     .op ⟨(some 51), (some (50, true)), (.r (.mv (.t 6)))⟩,
     .op ⟨(some 52), (some (50, true)), (.r (.bin .gtr (.t 51) (.c (.int .u8 (.ofNat 1)))))⟩,
     .op ⟨(some 53), (some (47, false)), (.r (.pick (.t 50) (.t 52) (.c (.bool false))))⟩,
     .op ⟨(some 54), none, (.r (.pick (.t 47) (.c (.bool true)) (.t 53)))⟩])
   (.cond (.t 54)
    (.seq (.region [.op ⟨(some 55), none, (.r (.mv (.t 0)))⟩,
      .op ⟨(some 56), none, (.r (.mv (.t 3)))⟩,
      .op ⟨(some 57), none, (.e (.call n_pack_Reader_fail [(.t 55), (.t 56), (.c (.int .i64 (.ofNat 4)))]))⟩])
    (.seq (.region [.op ⟨(some 2), none, (.r (.mv (.c (.int .i64 (.ofNat 0)))))⟩])
    .ret))
    .skip))
   (.seq (.region [.op ⟨(some 58), none, (.r (.mv (.t 0)))⟩,
     .op ⟨(some 59), none, (.r (.nilck (.t 58)))⟩,
     .op ⟨(some 60), none, (.r (.faddr 1 (.t 59)))⟩,
     .op ⟨(some 61), none, (.r (.load false 1 (.t 60)))⟩,
     .op ⟨(some 62), none, (.r (.bin .add (.t 61) (.c (.int .i64 (.ofNat 1)))))⟩,
     .op ⟨(some 63), none, (.r (.nilck (.t 58)))⟩,
     .op ⟨(some 64), none, (.r (.faddr 1 (.t 63)))⟩,
     .op ⟨none, none, (.e (.store 1 (.t 64) (.t 62)))⟩])
   (.seq (.region [.op ⟨(some 65), none, (.r (.mv (.t 4)))⟩,
     .op ⟨(some 66), none, (.r (.mv (.t 6)))⟩,
     .op ⟨(some 67), none, (.r (.bin .and (.t 66) (.c (.int .u8 (.ofNat 127)))))⟩,
     .op ⟨(some 68), none, (.r (.cint .u64 (.t 67)))⟩,
     .op ⟨(some 69), none, (.r (.mv (.t 5)))⟩,
     .op ⟨(some 70), none, (.r (.bin .mul (.c (.int .i64 (.ofNat 7))) (.t 69)))⟩,
     .op ⟨(some 71), none, (.r (.cint .u64 (.t 70)))⟩,
     .op ⟨(some 72), none, (.r (.bin .shl (.t 68) (.t 71)))⟩,
     .op ⟨(some 73), none, (.r (.bin .or (.t 65) (.t 72)))⟩,
     .op ⟨(some 4), none, (.r (.mv (.t 73)))⟩])
   (.seq (.region [.op ⟨(some 74), none, (.r (.mv (.t 6)))⟩,
     .op ⟨(some 75), none, (.r (.bin .lss (.t 74) (.c (.int .u8 (.ofNat 128)))))⟩])
   (.cond (.t 75)
    (.seq (.region [.op ⟨(some 76), none, (.r (.mv (.t 4)))⟩,
      .op ⟨(some 77), none, (.r (.bin .shr (.t 76) (.c (.int .u64 (.ofNat 1)))))⟩,
      .op ⟨(some 78), none, (.r (.cint .i64 (.t 77)))⟩,
      .op ⟨(some 79), none, (.r (.mv (.t 4)))⟩,
      .op ⟨(some 80), none, (.r (.bin .and (.t 79) (.c (.int .u64 (.ofNat 1)))))⟩,
      .op ⟨(some 81), none, (.r (.cint .i64 (.t 80)))⟩,
      .op ⟨(some 82), none, (.r (.un .neg (.t 81)))⟩,
      .op ⟨(some 83), none, (.r (.bin .xor (.t 78) (.t 82)))⟩,
      .op ⟨(some 2), none, (.r (.mv (.t 83)))⟩])
    .ret)
    .skip))))))))
  (.region [.op ⟨(some 16), none, (.r (.mv (.t 5)))⟩,
    .op ⟨(some 17), none, (.r (.bin .add (.t 16) (.c (.int .i64 (.ofNat 1)))))⟩,
    .op ⟨(some 5), none, (.r (.mv (.t 17)))⟩]))
/-- (*depot/pack.Reader).Num -/
def pf_pack_Reader_Num : PF := { ntmps := 84, results := [.tmp 2], body :=
  (.seq (.region [.op ⟨(some 2), none, (.r (.mv (.c (.int .i64 (.ofNat 0)))))⟩])
  (.seq (.seq (.region [.op ⟨(some 7), none, (.r (.mv (.t 0)))⟩,
    .op ⟨(some 8), none, (.r (.nilck (.t 7)))⟩,
    .op ⟨(some 9), none, (.r (.faddr 2 (.t 8)))⟩,
    .op ⟨(some 10), none, (.r (.load false 1 (.t 9)))⟩,
    .op ⟨(some 11), none, (.r (.bin .neq (.t 10) (.c (.int .i64 (.ofNat 0)))))⟩])
  (.cond (.t 11)
   (.seq (.region [.op ⟨(some 2), none, (.r (.mv (.c (.int .i64 (.ofNat 0)))))⟩])
   .ret)
   .skip))
  (.seq (.region [.op ⟨(some 12), none, (.r (.mv (.t 0)))⟩,
    .op ⟨(some 13), none, (.r (.nilck (.t 12)))⟩,
    .op ⟨(some 14), none, (.r (.faddr 1 (.t 13)))⟩,
    .op ⟨(some 15), none, (.r (.load false 1 (.t 14)))⟩,
    .op ⟨(some 3), none, (.r (.mv (.t 15)))⟩,
    .op ⟨(some 4), none, (.r (.mv (.c (.int .u64 (.ofNat 0)))))⟩])
  (.seq (.region [.op ⟨(some 5), none, (.r (.mv (.c (.int .i64 (.ofNat 0)))))⟩])
  (.block 0 (.loop l0_pack_Reader_Num)))))) }
theorem tr_pack_Reader_Num : trF cx Tryz.f11 = pf_pack_Reader_Num := by kernel_rfl
/-- (*depot/pack.Reader).End -/
def pf_pack_Reader_End : PF := { ntmps := 27, results := [.tmp 2], body :=
  (.seq (.region [.op ⟨(some 2), none, (.r (.mv (.c (.int .i64 (.ofNat 0)))))⟩])
  (.seq (.seq (.region [.op ⟨(some 3), none, (.r (.mv (.t 0)))⟩,
    .op ⟨(some 4), none, (.r (.nilck (.t 3)))⟩,
    .op ⟨(some 5), none, (.r (.faddr 2 (.t 4)))⟩,
    .op ⟨(some 6), none, (.r (.load false 1 (.t 5)))⟩,
    .op ⟨(some 7), none, (.r (.bin .eql (.t 6) (.c (.int .i64 (.ofNat 0)))))⟩,
    .op ⟨(some 8), none, (.r (.mv (.t 7)))⟩,
    .op ⟨(some 9), (some (8, true)), (.r (.mv (.t 0)))⟩,
    .op ⟨(some 10), (some (8, true)), (.r (.nilck (.t 9)))⟩,
    .op ⟨(some 11), (some (8, true)), (.r (.faddr 1 (.t 10)))⟩,
    .op ⟨(some 12), (some (8, true)), (.r (.load false 1 (.t 11)))⟩,
    .op ⟨(some 13), (some (8, true)), (.r (.mv (.t 0)))⟩,
    .op ⟨(some 14), (some (8, true)), (.r (.nilck (.t 13)))⟩,
    .op ⟨(some 15), (some (8, true)), (.r (.faddr 0 (.t 14)))⟩,
    .op ⟨(some 16), (some (8, true)), (.r (.load false 1 (.t 15)))⟩,
    .op ⟨(some 17), (some (8, true)), (.r (.lensl (.t 16)))⟩,
    .op ⟨(some 18), (some (8, true)), (.r (.bin .lss (.t 12) (.t 17)))⟩,
    .op ⟨(some 19), none, (.r (.pick (.t 8) (.t 18) (.c (.bool false))))⟩])
  (.cond (.t 19)
   (.region [.op ⟨(some 20), none, (.r (.mv (.t 0)))⟩,
     .op ⟨(some 21), none, (.r (.nilck (.t 20)))⟩,
     .op ⟨(some 22), none, (.r (.faddr 2 (.t 21)))⟩,
     .op ⟨none, none, (.e (.store 1 (.t 22) (.c (.int .i64 (.ofNat 5)))))⟩])
   .skip))
  (.seq (.region [.op ⟨(some 23), none, (.r (.mv (.t 0)))⟩,
    .op ⟨(some 24), none, (.r (.nilck (.t 23)))⟩,
    .op ⟨(some 25), none, (.r (.faddr 2 (.t 24)))⟩,
    .op ⟨(some 26), none, (.r (.load false 1 (.t 25)))⟩,
    .op ⟨(some 2), none, (.r (.mv (.t 26)))⟩])
  .ret))) }
theorem tr_pack_Reader_End : trF cx Tryz.f12 = pf_pack_Reader_End := by kernel_rfl
/-- depot/task.within -/
def pf_task_within : PF := { ntmps := 15, results := [.tmp 6], body :=
  (.seq (.region [.op ⟨(some 6), none, (.r (.mv (.c (.bool false))))⟩])
  (.seq (.region [.op ⟨(some 7), none, (.r (.mv (.t 0)))⟩,
    .op ⟨(some 8), none, (.r (.mv (.t 1)))⟩,
    .op ⟨(some 9), none, (.r (.bin .geq (.t 7) (.t 8)))⟩,
    .op ⟨(some 10), none, (.r (.mv (.t 9)))⟩,
    .op ⟨(some 11), (some (10, true)), (.r (.mv (.t 0)))⟩,
    .op ⟨(some 12), (some (10, true)), (.r (.mv (.t 2)))⟩,
    .op ⟨(some 13), (some (10, true)), (.r (.bin .leq (.t 11) (.t 12)))⟩,
    .op ⟨(some 14), none, (.r (.pick (.t 10) (.t 13) (.c (.bool false))))⟩,
    .op ⟨(some 6), none, (.r (.mv (.t 14)))⟩])
  .ret)) }
theorem tr_task_within : trF cx Tryz.f13 = pf_task_within := by kernel_rfl
def l0_depotref1_Reader_Num : PC :=
  (.seq (.block 1 (.seq (.seq (.region [.op ⟨(some 13), none, (.r (.mv (.t 0)))⟩,
     .op ⟨(some 14), none, (.r (.nilck (.t 13)))⟩,
     .op ⟨(some 15), none, (.r (.faddr 1 (.t 14)))⟩,
     .op ⟨(some 16), none, (.r (.load false 1 (.t 15)))⟩,
     .op ⟨(some 17), none, (.r (.mv (.t 4)))⟩,
     .op ⟨(some 18), none, (.r (.bin .add (.t 16) (.t 17)))⟩,
     .op ⟨(some 19), none, (.r (.mv (.t 0)))⟩,
     .op ⟨(some 20), none, (.r (.nilck (.t 19)))⟩,
     .op ⟨(some 21), none, (.r (.faddr 0 (.t 20)))⟩,
     .op ⟨(some 22), none, (.r (.load false 1 (.t 21)))⟩,
     .op ⟨(some 23), none, (.r (.lensl (.t 22)))⟩,
     .op ⟨(some 24), none, (.r (.bin .geq (.t 18) (.t 23)))⟩])
   (.cond (.t 24)
    (.seq (.region [.op ⟨(some 25), none, (.r (.mv (.t 0)))⟩,
      .op ⟨(some 26), none, (.e (.call n_depotref1_Reader_fail [(.t 25), (.c (.int .i64 (.ofNat 3)))]))⟩])
    (.seq (.region [.op ⟨(some 2), none, (.r (.mv (.c (.int .i64 (.ofNat 0)))))⟩])
    .ret))
    .skip))
   (.seq (.region [.op ⟨(some 27), none, (.r (.mv (.t 0)))⟩,
     .op ⟨(some 28), none, (.r (.nilck (.t 27)))⟩,
     .op ⟨(some 29), none, (.r (.faddr 0 (.t 28)))⟩,
     .op ⟨(some 30), none, (.r (.load false 1 (.t 29)))⟩,
     .op ⟨(some 31), none, (.r (.mv (.t 0)))⟩,
     .op ⟨(some 32), none, (.r (.nilck (.t 31)))⟩,
     .op ⟨(some 33), none, (.r (.faddr 1 (.t 32)))⟩,
     .op ⟨(some 34), none, (.r (.load false 1 (.t 33)))⟩,
     .op ⟨(some 35), none, (.r (.mv (.t 4)))⟩,
     .op ⟨(some 36), none, (.r (.bin .add (.t 34) (.t 35)))⟩,
     .op ⟨(some 37), none, (.r (.iasl 1 (.t 30) (.t 36)))⟩,
     .op ⟨(some 38), none, (.r (.load false 1 (.t 37)))⟩,
     .op ⟨(some 5), none, (.r (.mv (.t 38)))⟩])
   (.seq (.seq (.region [.op ⟨(some 39), none, (.r (.mv (.t 4)))⟩,
     .op ⟨(some 40), none, (.r (.bin .eql (.t 39) (.c (.int .i64 (.ofNat 9)))))⟩,
     .op ⟨(some 41), none, (.r (.mv (.t 40)))⟩,
     .op ⟨(some 42), (some (41, true)), (.r (.mv (.t 5)))⟩,
     .op ⟨(some 43), (some (41, true)), (.r (.bin .gtr (.t 42) (.c (.int .u8 (.ofNat 1)))))⟩,
     .op ⟨(some 44), none, (.r (.pick (.t 41) (.t 43) (.c (.bool false))))⟩,
     .op ⟨(some 45), none, (.r (.mv (.t 44)))⟩,
     .op ⟨(some 46), (some (45, false)), (.r (.mv (.t 4)))⟩,
     .op ⟨(some 47), (some (45, false)), (.r (.bin .gtr (.t 46) (.c (.int .i64 (.ofNat 0)))))⟩,
     .op ⟨(some 48), (some (45, false)), (.r (.mv (.t 47)))⟩,
     .op ⟨(some 49), (some (48, true)), (.r (.mv (.t 5)))⟩,
     .op ⟨(some 50), (some (48, true)), (.r (.bin .eql (.t 49) (.c (.int .u8 (.ofNat 0)))))⟩,
     .op ⟨(some 51), (some (45, false)), (.r (.pick (.t 48) (.t 50) (.c (.bool false))))⟩,
     .op ⟨(some 52), none, (.r (.pick (.t 45) (.c (.bool true)) (.t 51)))⟩])
   (.cond (.t 52)
    (.seq (.region [.op ⟨(some 53), none, (.r (.mv (.t 0)))⟩,
      .op ⟨(some 54), none, (.e (.call n_depotref1_Reader_fail [(.t 53), (.c (.int .i64 (.ofNat 4)))]))⟩])
    (.seq (.region [.op ⟨(some 2), none, (.r (.mv (.c (.int .i64 (.ofNat 0)))))⟩])
    .ret))
    .skip))
   (.seq (.region [.op ⟨(some 55), none, (.r (.mv (.t 3)))⟩,
     .op ⟨(some 56), none, (.r (.mv (.t 5)))⟩,
     .op ⟨(some 57), none, (.r (.bin .and (.t 56) (.c (.int .u8 (.ofNat 127)))))⟩,
     .op ⟨(some 58), none, (.r (.cint .u64 (.t 57)))⟩,
     .op ⟨(some 59), none, (.r (.mv (.t 4)))⟩,
     .op ⟨(some 60), none, (.r (.bin .mul (.c (.int .i64 (.ofNat 7))) (.t 59)))⟩,
     .op ⟨(some 61), none, (.r (.bin .shl (.t 58) (.t 60)))⟩,
     .op ⟨(some 62), none, (.r (.bin .or (.t 55) (.t 61)))⟩,
     .op ⟨(some 3), none, (.r (.mv (.t 62)))⟩])
   (.seq (.region [.op ⟨(some 63), none, (.r (.mv (.t 5)))⟩,
     .op ⟨(some 64), none, (.r (.bin .lss (.t 63) (.c (.int .u8 (.ofNat 128)))))⟩])
   (.cond (.t 64)
    (.seq (.region [.op ⟨(some 65), none, (.r (.mv (.t 0)))⟩,
      .op ⟨(some 66), none, (.r (.mv (.t 0)))⟩,
      .op ⟨(some 67), none, (.r (.nilck (.t 66)))⟩,
      .op ⟨(some 68), none, (.r (.faddr 1 (.t 67)))⟩,
      .op ⟨(some 69), none, (.r (.load false 1 (.t 68)))⟩,
      .op ⟨(some 70), none, (.r (.mv (.t 4)))⟩,
      .op ⟨(some 71), none, (.r (.bin .add (.t 69) (.t 70)))⟩,
      .op ⟨(some 72), none, (.r (.bin .add (.t 71) (.c (.int .i64 (.ofNat 1)))))⟩,
      .op ⟨(some 73), none, (.r (.nilck (.t 65)))⟩,
      .op ⟨(some 74), none, (.r (.faddr 1 (.t 73)))⟩,
      .op ⟨none, none, (.e (.store 1 (.t 74) (.t 72)))⟩])
    (.seq (.seq (.region [.op ⟨(some 75), none, (.r (.mv (.t 3)))⟩,
      .op ⟨(some 76), none, (.r (.bin .and (.t 75) (.c (.int .u64 (.ofNat 1)))))⟩,
      .op ⟨(some 77), none, (.r (.bin .eql (.t 76) (.c (.int .u64 (.ofNat 1)))))⟩])
    (.cond (.t 77)
     (.seq (.region [.op ⟨(some 78), none, (.r (.mv (.t 3)))⟩,
       .op ⟨(some 79), none, (.r (.bin .shr (.t 78) (.c (.int .u64 (.ofNat 1)))))⟩,
       .op ⟨(some 80), none, (.r (.cint .i64 (.t 79)))⟩,
       .op ⟨(some 81), none, (.r (.un .xor (.t 80)))⟩,
       .op ⟨(some 2), none, (.r (.mv (.t 81)))⟩])
     .ret)
     .skip))
    (.seq (.region [.op ⟨(some 82), none, (.r (.mv (.t 3)))⟩,
      .op ⟨(some 83), none, (.r (.bin .shr (.t 82) (.c (.int .u64 (.ofNat 1)))))⟩,
      .op ⟨(some 84), none, (.r (.cint .i64 (.t 83)))⟩,
      .op ⟨(some 2), none, (.r (.mv (.t 84)))⟩])
    .ret)))
    .skip)))))))
  (.region [.op ⟨(some 11), none, (.r (.mv (.t 4)))⟩,
    .op ⟨(some 12), none, (.r (.bin .add (.t 11) (.c (.int .i64 (.ofNat 1)))))⟩,
    .op ⟨(some 4), none, (.r (.mv (.t 12)))⟩]))
/-- (*depot/depotref1.Reader).Num -/
def pf_depotref1_Reader_Num : PF := { ntmps := 85, results := [.tmp 2], body :=
  (.seq (.region [.op ⟨(some 2), none, (.r (.mv (.c (.int .i64 (.ofNat 0)))))⟩])
  (.seq (.seq (.region [.op ⟨(some 6), none, (.r (.mv (.t 0)))⟩,
    .op ⟨(some 7), none, (.r (.nilck (.t 6)))⟩,
    .op ⟨(some 8), none, (.r (.faddr 2 (.t 7)))⟩,
    .op ⟨(some 9), none, (.r (.load false 1 (.t 8)))⟩,
    .op ⟨(some 10), none, (.r (.bin .neq (.t 9) (.c (.int .i64 (.ofNat 0)))))⟩])
  (.cond (.t 10)
   (.seq (.region [.op ⟨(some 2), none, (.r (.mv (.c (.int .i64 (.ofNat 0)))))⟩])
   .ret)
   .skip))
  (.seq (.region [.op ⟨(some 3), none, (.r (.mv (.c (.int .u64 (.ofNat 0)))))⟩])
  (.seq (.region [.op ⟨(some 4), none, (.r (.mv (.c (.int .i64 (.ofNat 0)))))⟩])
  (.block 0 (.loop l0_depotref1_Reader_Num)))))) }
theorem tr_depotref1_Reader_Num : trF cx Tryz.f14 = pf_depotref1_Reader_Num := by kernel_rfl
/-- (*depot/depotref1.Reader).End -/
def pf_depotref1_Reader_End : PF := { ntmps := 26, results := [.tmp 2], body :=
  (.seq (.region [.op ⟨(some 2), none, (.r (.mv (.c (.int .i64 (.ofNat 0)))))⟩])
  (.seq (.seq (.region [.op ⟨(some 3), none, (.r (.mv (.t 0)))⟩,
    .op ⟨(some 4), none, (.r (.nilck (.t 3)))⟩,
    .op ⟨(some 5), none, (.r (.faddr 2 (.t 4)))⟩,
    .op ⟨(some 6), none, (.r (.load false 1 (.t 5)))⟩,
    .op ⟨(some 7), none, (.r (.bin .eql (.t 6) (.c (.int .i64 (.ofNat 0)))))⟩,
    .op ⟨(some 8), none, (.r (.mv (.t 7)))⟩,
    .op ⟨(some 9), (some (8, true)), (.r (.mv (.t 0)))⟩,
    .op ⟨(some 10), (some (8, true)), (.r (.nilck (.t 9)))⟩,
    .op ⟨(some 11), (some (8, true)), (.r (.faddr 1 (.t 10)))⟩,
    .op ⟨(some 12), (some (8, true)), (.r (.load false 1 (.t 11)))⟩,
    .op ⟨(some 13), (some (8, true)), (.r (.mv (.t 0)))⟩,
    .op ⟨(some 14), (some (8, true)), (.r (.nilck (.t 13)))⟩,
    .op ⟨(some 15), (some (8, true)), (.r (.faddr 0 (.t 14)))⟩,
    .op ⟨(some 16), (some (8, true)), (.r (.load false 1 (.t 15)))⟩,
    .op ⟨(some 17), (some (8, true)), (.r (.lensl (.t 16)))⟩,
    .op ⟨(some 18), (some (8, true)), (.r (.bin .lss (.t 12) (.t 17)))⟩,
    .op ⟨(some 19), none, (.r (.pick (.t 8) (.t 18) (.c (.bool false))))⟩])
  (.cond (.t 19)
   (.region [.op ⟨(some 20), none, (.r (.mv (.t 0)))⟩,
     .op ⟨(some 21), none, (.e (.call n_depotref1_Reader_fail [(.t 20), (.c (.int .i64 (.ofNat 5)))]))⟩])
   .skip))
  (.seq (.region [.op ⟨(some 22), none, (.r (.mv (.t 0)))⟩,
    .op ⟨(some 23), none, (.r (.nilck (.t 22)))⟩,
    .op ⟨(some 24), none, (.r (.faddr 2 (.t 23)))⟩,
    .op ⟨(some 25), none, (.r (.load false 1 (.t 24)))⟩,
    .op ⟨(some 2), none, (.r (.mv (.t 25)))⟩])
  .ret))) }
theorem tr_depotref1_Reader_End : trF cx Tryz.f15 = pf_depotref1_Reader_End := by kernel_rfl
def l0_depotref1_Num : PC :=
  (.seq (.seq (.region [.op ⟨(some 20), none, (.r (.mv (.t 6)))⟩,
    .op ⟨(some 21), none, (.r (.bin .geq (.t 20) (.c (.int .u64 (.ofNat 128)))))⟩])
  (.cond (.t 21)
   .skip
   (.exit 0)))
  (.block 1 (.seq (.region [.op ⟨(some 22), none, (.r (.mv (.t 5)))⟩,
     .op ⟨(some 23), none, (.r (.mv (.t 6)))⟩,
     .op ⟨(some 24), none, (.r (.bin .and (.t 23) (.c (.int .u64 (.ofNat 127)))))⟩,
     .op ⟨(some 25), none, (.r (.cint .u8 (.t 24)))⟩,
     .op ⟨(some 26), none, (.r (.bin .or (.t 25) (.c (.int .u8 (.ofNat 128)))))⟩,
     .op ⟨(some 27), none, (.n (.bslice 2 1 1 [(.int .u8 (.ofNat 0))] [(0, 1, (.t 26))]))⟩,
     .op ⟨(some 28), none, (.e (.app 2 1 1 (.t 22) (.t 27)))⟩,
     .op ⟨(some 5), none, (.r (.mv (.t 28)))⟩])
   (.region [.op ⟨(some 29), none, (.r (.mv (.t 6)))⟩,
     .op ⟨(some 30), none, (.r (.bin .shr (.t 29) (.c (.int .u64 (.ofNat 7)))))⟩,
     .op ⟨(some 6), none, (.r (.mv (.t 30)))⟩]))))
/-- depot/depotref1.Num -/
def pf_depotref1_Num : PF := { ntmps := 36, results := [.tmp 4], body :=
  (.seq (.region [.op ⟨(some 4), none, (.r (.mv (.c .nils)))⟩])
  (.seq (.region [.op ⟨(some 7), none, (.n (.bslice 2 1 0 [] []))⟩,
    .op ⟨(some 8), none, (.r (.mv (.t 0)))⟩,
    .op ⟨(some 9), none, (.e (.app 2 1 1 (.t 7) (.t 8)))⟩,
    .op ⟨(some 5), none, (.r (.mv (.t 9)))⟩])
  (.seq (.region [.op ⟨(some 10), none, (.r (.mv (.t 1)))⟩,
    .op ⟨(some 11), none, (.r (.cint .u64 (.t 10)))⟩,
    .op ⟨(some 12), none, (.r (.bin .shl (.t 11) (.c (.int .u64 (.ofNat 1)))))⟩,
    .op ⟨(some 6), none, (.r (.mv (.t 12)))⟩])
  (.seq (.seq (.region [.op ⟨(some 13), none, (.r (.mv (.t 1)))⟩,
    .op ⟨(some 14), none, (.r (.bin .lss (.t 13) (.c (.int .i64 (.ofNat 0)))))⟩])
  (.cond (.t 14)
   (.region [.op ⟨(some 15), none, (.r (.mv (.t 1)))⟩,
     .op ⟨(some 16), none, (.r (.un .xor (.t 15)))⟩,
     .op ⟨(some 17), none, (.r (.cint .u64 (.t 16)))⟩,
     .op ⟨(some 18), none, (.r (.bin .shl (.t 17) (.c (.int .u64 (.ofNat 1)))))⟩,
     .op ⟨(some 19), none, (.r (.bin .or (.t 18) (.c (.int .u64 (.ofNat 1)))))⟩,
     .op ⟨(some 6), none, (.r (.mv (.t 19)))⟩])
   .skip))
  (.seq (.block 0 (.loop l0_depotref1_Num))
  (.seq (.region [.op ⟨(some 31), none, (.r (.mv (.t 5)))⟩,
    .op ⟨(some 32), none, (.r (.mv (.t 6)))⟩,
    .op ⟨(some 33), none, (.r (.cint .u8 (.t 32)))⟩,
    .op ⟨(some 34), none, (.n (.bslice 2 1 1 [(.int .u8 (.ofNat 0))] [(0, 1, (.t 33))]))⟩,
    .op ⟨(some 35), none, (.e (.app 2 1 1 (.t 31) (.t 34)))⟩,
    .op ⟨(some 4), none, (.r (.mv (.t 35)))⟩])
  .ret)))))) }
theorem tr_depotref1_Num : trF cx Tryz.f16 = pf_depotref1_Num := by kernel_rfl
def l0_pack_num : PC :=
  (.seq (.seq (.region [.op ⟨(some 13), none, (.r (.mv (.t 5)))⟩,
    .op ⟨(some 14), none, (.r (.bin .geq (.t 13) (.c (.int .u64 (.ofNat 128)))))⟩])
  (.cond (.t 14)
   .skip
   (.exit 0)))
  (.block 1 (.seq (.region [.op ⟨(some 15), none, (.r (.mv (.t 0)))⟩,
     .op ⟨(some 16), none, (.r (.mv (.t 5)))⟩,
     .op ⟨(some 17), none, (.r (.cint .u8 (.t 16)))⟩,
     .op ⟨(some 18), none, (.r (.bin .or (.t 17) (.c (.int .u8 (.ofNat 128)))))⟩,
     .op ⟨(some 19), none, (.n (.bslice 2 1 1 [(.int .u8 (.ofNat 0))] [(0, 1, (.t 18))]))⟩,
     .op ⟨(some 20), none, (.e (.app 2 1 1 (.t 15) (.t 19)))⟩,
     .op ⟨(some 0), none, (.r (.mv (.t 20)))⟩])
   (.region [.op ⟨(some 21), none, (.r (.mv (.t 5)))⟩,
     .op ⟨(some 22), none, (.r (.bin .shr (.t 21) (.c (.int .u64 (.ofNat 7)))))⟩,
     .op ⟨(some 5), none, (.r (.mv (.t 22)))⟩]))))
/-- depot/pack.num -/
def pf_pack_num : PF := { ntmps := 28, results := [.tmp 4], body :=
  (.seq (.region [.op ⟨(some 4), none, (.r (.mv (.c .nils)))⟩])
  (.seq (.region [.op ⟨(some 6), none, (.r (.mv (.t 1)))⟩,
    .op ⟨(some 7), none, (.r (.cint .u64 (.t 6)))⟩,
    .op ⟨(some 8), none, (.r (.bin .shl (.t 7) (.c (.int .u64 (.ofNat 1)))))⟩,
    .op ⟨(some 9), none, (.r (.mv (.t 1)))⟩,
    .op ⟨(some 10), none, (.r (.bin .shr (.t 9) (.c (.int .u64 (.ofNat 63)))))⟩,
    .op ⟨(some 11), none, (.r (.cint .u64 (.t 10)))⟩,
    .op ⟨(some 12), none, (.r (.bin .xor (.t 8) (.t 11)))⟩,
    .op ⟨(some 5), none, (.r (.mv (.t 12)))⟩])
  (.seq (.block 0 (.loop l0_pack_num))
  (.seq (.region [.op ⟨(some 23), none, (.r (.mv (.t 0)))⟩,
    .op ⟨(some 24), none, (.r (.mv (.t 5)))⟩,
    .op ⟨(some 25), none, (.r (.cint .u8 (.t 24)))⟩,
    .op ⟨(some 26), none, (.n (.bslice 2 1 1 [(.int .u8 (.ofNat 0))] [(0, 1, (.t 25))]))⟩,
    .op ⟨(some 27), none, (.e (.app 2 1 1 (.t 23) (.t 26)))⟩,
    .op ⟨(some 4), none, (.r (.mv (.t 27)))⟩])
  .ret)))) }
theorem tr_pack_num : trF cx Tryz.f26 = pf_pack_num := by kernel_rfl
/-- depot/pack.grown -/
def pf_pack_grown : PF := { ntmps := 12, results := [.tmp 4], body :=
  (.seq (.region [.op ⟨(some 4), none, (.r (.mv (.c .nils)))⟩])
  (.seq (.region [.op ⟨(some 5), none, (.r (.mv (.t 0)))⟩,
    .op ⟨(some 6), none, (.r (.lensl (.t 5)))⟩,
    .op ⟨(some 7), none, (.r (.mv (.t 1)))⟩,
    .op ⟨(some 8), none, (.r (.bin .add (.t 6) (.t 7)))⟩,
    .op ⟨(some 9), none, (.n (.mksl 2 1 1 [(.int .u8 (.ofNat 0))] (.c (.int .i64 (.ofNat 0))) (.t 8)))⟩,
    .op ⟨(some 10), none, (.r (.mv (.t 0)))⟩,
    .op ⟨(some 11), none, (.e (.app 2 1 1 (.t 9) (.t 10)))⟩,
    .op ⟨(some 4), none, (.r (.mv (.t 11)))⟩])
  .ret)) }
theorem tr_pack_grown : trF cx Tryz.f27 = pf_pack_grown := by kernel_rfl
/-- (*depot/pack.Reader).fail -/
def pf_pack_Reader_fail : PF := { ntmps := 14, results := [], body :=
  (.region [.op ⟨(some 6), none, (.r (.mv (.t 0)))⟩,
    .op ⟨(some 7), none, (.r (.mv (.t 0)))⟩,
    .op ⟨(some 8), none, (.r (.mv (.t 1)))⟩,
    .op ⟨(some 9), none, (.r (.mv (.t 2)))⟩,
    .op ⟨(some 10), none, (.r (.nilck (.t 6)))⟩,
    .op ⟨(some 11), none, (.r (.faddr 1 (.t 10)))⟩,
    .op ⟨none, none, (.e (.store 1 (.t 11) (.t 8)))⟩,
    .op ⟨(some 12), none, (.r (.nilck (.t 7)))⟩,
    .op ⟨(some 13), none, (.r (.faddr 2 (.t 12)))⟩,
    .op ⟨none, none, (.e (.store 1 (.t 13) (.t 9)))⟩]) }
theorem tr_pack_Reader_fail : trF cx Tryz.f28 = pf_pack_Reader_fail := by kernel_rfl
/-- (*depot/depotref1.Reader).fail -/
def pf_depotref1_Reader_fail : PF := { ntmps := 13, results := [], body :=
  (.seq (.region [.op ⟨(some 4), none, (.r (.mv (.t 0)))⟩,
    .op ⟨(some 5), none, (.r (.nilck (.t 4)))⟩,
    .op ⟨(some 6), none, (.r (.faddr 2 (.t 5)))⟩,
    .op ⟨(some 7), none, (.r (.load false 1 (.t 6)))⟩,
    .op ⟨(some 8), none, (.r (.bin .eql (.t 7) (.c (.int .i64 (.ofNat 0)))))⟩])
  (.cond (.t 8)
   (.region [.op ⟨(some 9), none, (.r (.mv (.t 0)))⟩,
     .op ⟨(some 10), none, (.r (.mv (.t 1)))⟩,
     .op ⟨(some 11), none, (.r (.nilck (.t 9)))⟩,
     .op ⟨(some 12), none, (.r (.faddr 2 (.t 11)))⟩,
     .op ⟨none, none, (.e (.store 1 (.t 12) (.t 10)))⟩])
   .skip)) }
theorem tr_depotref1_Reader_fail : trF cx Tryz.f29 = pf_depotref1_Reader_fail := by kernel_rfl
end Go.Proofs.YtfcjmllbejpbbaaGreatDoor
