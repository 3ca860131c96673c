/- The functions that this seat's laws reach, for the clean machine; each is what the translation makes of the given text. Conditions: none. Printed by program. -/
import Derived.Test.YtobnlhfgebfebaaGreatDoorLibIA
namespace Go.Proofs.YtobnlhfgebfebaaGreatDoor
open Go.Dp
/-- (*depot/slab.Slab).Read -/
def pf_slab_Slab_Read : PF := { ntmps := 39, results := [.tmp 4, .tmp 5], body :=
  (.seq (.region [qn 3 (.box (.t 1)),
    qo 4 (.mv (.c (.str []))),
    qo 5 (.mv (.c (.bool false)))])
  (.seq (.seq (.region [qo 8 (.faddr 0 (.t 3)),
    qo 9 (.load false 1 (.t 8)),
    qo 10 (.bin .lss (.t 9) (.c (.int .i64 (.ofNat 0)))),
    qm 11 10,
    qh 12 11 false (.faddr 0 (.t 3)),
    qh 13 11 false (.load false 1 (.t 12)),
    qg 14 11 false 0,
    qh 15 11 false (.nilck (.t 14)),
    qh 16 11 false (.faddr 3 (.t 15)),
    qh 17 11 false (.load false 1 (.t 16)),
    qh 18 11 false (.lensl (.t 17)),
    qh 19 11 false (.bin .geq (.t 13) (.t 18)),
    qo 20 (.pick (.t 11) (.c (.bool true)) (.t 19))])
  (.cond (.t 20)
   (.seq (.region [qo 4 (.mv (.c (.str []))),
     qo 5 (.mv (.c (.bool false)))])
   .ret)
   .skip))
  (.seq (.region [qm 22 0,
    qo 23 (.nilck (.t 22)),
    qo 24 (.faddr 3 (.t 23)),
    qo 25 (.load false 1 (.t 24)),
    qo 26 (.faddr 0 (.t 3)),
    qo 27 (.load false 1 (.t 26)),
    qo 28 (.iasl 4 (.t 25) (.t 27)),
    qo 29 (.faddr 2 (.t 28)),
    qo 30 (.load false 1 (.t 29)),
    qo 31 (.faddr 1 (.t 3)),
    qo 32 (.load false 1 (.t 31)),
    qo 33 (.look false (.str []) true (.t 30) (.t 32)),
    qm 21 33,
    qo 34 (.ext 0 (.t 21)),
    qo 35 (.ext 1 (.t 21)),
    qm 6 34,
    qm 7 35])
  (.seq (.seq (.region [qm 36 7,
    qo 37 (.un .not (.t 36))])
  (.cond (.t 37)
   (.seq (.region [qo 4 (.mv (.c (.str []))),
     qo 5 (.mv (.c (.bool false)))])
   .ret)
   .skip))
  (.seq (.region [qm 38 6,
    qm 4 38,
    qo 5 (.mv (.c (.bool true)))])
  .ret))))) }
theorem tr_slab_Slab_Read : trF cx Tryz.f269 = pf_slab_Slab_Read := by kernel_rfl
def l0_rs_Code_chosen : PC :=
  (.seq (.region [qo 12 (.bin .lss (.t 11) (.t 10))])
  (.seq (.cond (.t 12)
   .skip
   (.exit 0))
  (.seq (.block 1 (.seq (.region [qo 13 (.iasl 2 (.t 9) (.t 11)),
     qo 14 (.load true 2 (.t 13)),
     qn 8 (.new 0 [(.int .i64 (.ofNat 0)), (.str [])]),
     qx (.store 2 (.t 8) (.t 14))])
   (.seq (.seq (.region [qo 15 (.faddr 0 (.t 8)),
     qo 16 (.load false 1 (.t 15)),
     qo 17 (.iaarr 12 1 (.t 6) (.t 16)),
     qo 18 (.load false 1 (.t 17)),
     qo 19 (.bin .gtr (.t 18) (.c (.int .i64 (.ofNat 0))))])
   (.cond (.t 19)
    (.exit 1)
    .skip))
   (.seq (.region [qo 20 (.faddr 0 (.t 8)),
     qo 21 (.load false 1 (.t 20)),
     qo 22 (.iaarr 12 1 (.t 6) (.t 21)),
     qx (.store 1 (.t 22) (.c (.int .i64 (.ofNat 1))))])
   (.seq (.region [qm 23 4,
     qm 24 0,
     qo 25 (.nilck (.t 24)),
     qo 26 (.faddr 768 (.t 25)),
     qo 27 (.load false 1 (.t 26)),
     qo 28 (.faddr 0 (.t 8)),
     qo 29 (.load false 1 (.t 28)),
     qo 30 (.iasl 1 (.t 27) (.t 29)),
     qo 31 (.load false 1 (.t 30)),
     qn 32 (.bslice 0 1 1 [.nils] [(0, 1, (.t 31))]),
     qm 34 5,
     qo 35 (.faddr 1 (.t 8)),
     qo 36 (.load false 1 (.t 35)),
     qn 37 (.s2b (.t 36)),
     qn 38 (.bslice 0 1 1 [.nils] [(0, 1, (.t 37))]),
     qe 33 (.app 0 1 24 (.t 23) (.t 32)),
     .again ⟨(some 36), none, (.r (.load false 1 (.t 35)))⟩,
     qe 39 (.app 0 1 24 (.t 34) (.t 38)),
     qm 4 33,
     qm 5 39])
   (.seq (.region [qm 40 4,
     qo 41 (.lensl (.t 40)),
     qm 42 0,
     qo 43 (.nilck (.t 42)),
     qo 44 (.faddr 0 (.t 43)),
     qo 45 (.load false 1 (.t 44)),
     qo 46 (.bin .eql (.t 41) (.t 45))])
   (.cond (.t 46)
    (.exit 0)
    .skip)))))))
  (.region [qo 47 (.bin .add (.t 11) (.c (.int .i64 (.ofNat 1)))),
    qm 11 47]))))
/-- (*depot/rs.Code).chosen -/
def pf_rs_Code_chosen : PF := { ntmps := 50, results := [.tmp 4, .tmp 5], body :=
  (.seq (.region [qo 4 (.mv (.c .nils)),
    qo 5 (.mv (.c .nils))])
  (.scope (.seq (.region [qn 6 (.new 0 (rep 12 [(.int .i64 (.ofNat 0))]))])
   (.seq .skip
   (.seq (.seq (.region [qm 9 1,
     qo 10 (.lensl (.t 9)),
     qo 11 (.mv (.c (.int .i64 (.ofNat 0))))])
   (.block 0 (.loop l0_rs_Code_chosen)))
   (.seq (.region [qm 48 4,
     qm 49 5,
     qm 4 48,
     qm 5 49])
   .ret)))))) }
theorem tr_rs_Code_chosen : trF cx Tryz.f271 = pf_rs_Code_chosen := by kernel_rfl
def l0_matrix_Invert : PC :=
  (.seq (.region [qo 31 (.bin .lss (.t 30) (.t 29))])
  (.seq (.cond (.t 31)
   .skip
   (.exit 0))
  (.seq (.block 1 (.seq (.region [qm 32 30,
     qo 33 (.iasl 1 (.t 28) (.t 30)),
     qo 34 (.load false 1 (.t 33)),
     qm 8 32,
     qm 9 34])
   (.region [qm 35 7,
     qm 36 8,
     qm 37 7,
     qm 38 8,
     qo 39 (.iasl 1 (.t 37) (.t 38)),
     qo 40 (.load false 1 (.t 39)),
     qm 41 9,
     qe 42 (.app 2 1 1 (.t 40) (.t 41)),
     qo 43 (.iasl 1 (.t 35) (.t 36)),
     qx (.store 1 (.t 43) (.t 42))])))
  (.region [qo 44 (.bin .add (.t 30) (.c (.int .i64 (.ofNat 1)))),
    qm 30 44]))))
def l1_matrix_Invert : PC :=
  (.seq (.region [qo 54 (.bin .lss (.t 53) (.t 52))])
  (.seq (.cond (.t 54)
   .skip
   (.exit 2))
  (.seq (.block 3 (.seq (.region [qm 55 53,
     qm 10 55])
   (.region [qm 56 7,
     qm 57 10,
     qm 58 7,
     qm 59 10,
     qo 60 (.iasl 1 (.t 58) (.t 59)),
     qo 61 (.load false 1 (.t 60)),
     qm 62 6,
     qo 63 (.slsl 1 (.t 61) (some (.t 62)) none none),
     qe 64 (.call 293 [(.t 63)]),
     qo 65 (.iasl 1 (.t 56) (.t 57)),
     qx (.store 1 (.t 65) (.t 64))])))
  (.region [qo 66 (.bin .add (.t 53) (.c (.int .i64 (.ofNat 1)))),
    qm 53 66]))))
/-- depot/matrix.Invert -/
def pf_matrix_Invert : PF := { ntmps := 68, results := [.tmp 4, .tmp 5], body :=
  (.seq (.region [qo 4 (.mv (.c .nils)),
    qo 5 (.mv (.c (.bool false)))])
  (.seq (.seq (.region [qm 11 1,
    qe 12 (.call 290 [(.t 11)]),
    qo 13 (.un .not (.t 12)),
    qm 14 13,
    qg 15 14 false 1,
    qh 16 14 false (.lensl (.t 15)),
    qg 17 14 false 1,
    qh 18 14 false (.iasl 1 (.t 17) (.c (.int .i64 (.ofNat 0)))),
    qh 19 14 false (.load false 1 (.t 18)),
    qh 20 14 false (.lensl (.t 19)),
    qh 21 14 false (.bin .neq (.t 16) (.t 20)),
    qo 22 (.pick (.t 14) (.c (.bool true)) (.t 21))])
  (.cond (.t 22)
   (.seq (.region [qo 4 (.mv (.c .nils)),
     qo 5 (.mv (.c (.bool false)))])
   .ret)
   .skip))
  (.seq (.region [qm 23 1,
    qo 24 (.lensl (.t 23)),
    qm 6 24])
  (.seq (.region [qm 25 1,
    qe 26 (.call 291 [(.t 25)]),
    qm 7 26])
  (.seq (.seq (.region [qm 27 6,
    qe 28 (.call 123 [(.t 27)]),
    qo 29 (.lensl (.t 28)),
    qo 30 (.mv (.c (.int .i64 (.ofNat 0))))])
  (.block 0 (.loop l0_matrix_Invert)))
  (.seq (.seq (.region [qm 45 0,
    qm 46 7,
    qm 47 6,
    qe 48 (.call 292 [(.t 45), (.t 46), (.t 47)]),
    qm 49 6,
    qo 50 (.bin .lss (.t 48) (.t 49))])
  (.cond (.t 50)
   (.seq (.region [qo 4 (.mv (.c .nils)),
     qo 5 (.mv (.c (.bool false)))])
   .ret)
   .skip))
  (.seq (.seq (.region [qm 51 7,
    qo 52 (.lensl (.t 51)),
    qo 53 (.mv (.c (.int .i64 (.ofNat 0))))])
  (.block 2 (.loop l1_matrix_Invert)))
  (.seq (.region [qm 67 7,
    qm 4 67,
    qo 5 (.mv (.c (.bool true)))])
  .ret)))))))) }
theorem tr_matrix_Invert : trF cx Tryz.f272 = pf_matrix_Invert := by kernel_rfl
def l0_rs_Code_mix : PC :=
  (.seq (.region [qo 31 (.bin .lss (.t 30) (.t 29))])
  (.seq (.cond (.t 31)
   .skip
   (.exit 2))
  (.seq (.block 3 (.seq (.region [qm 32 30,
     qo 33 (.iasl 1 (.t 28) (.t 30)),
     qo 34 (.load false 1 (.t 33)),
     qm 12 32,
     qm 13 34])
   (.region [qm 35 9,
     qm 36 12,
     qo 37 (.iasl 1 (.t 35) (.t 36)),
     qo 38 (.load false 1 (.t 37)),
     qm 39 0,
     qo 40 (.nilck (.t 39)),
     qo 41 (.faddr 2 (.t 40)),
     qm 42 11,
     qm 43 13,
     qe 44 (.call 294 [(.t 41), (.t 42), (.t 43)]),
     .again ⟨(some 38), none, (.r (.load false 1 (.t 37)))⟩,
     qo 45 (.bin .xor (.t 38) (.t 44)),
     qo 46 (.iasl 1 (.t 35) (.t 36)),
     qx (.store 1 (.t 46) (.t 45))])))
  (.region [qo 47 (.bin .add (.t 30) (.c (.int .i64 (.ofNat 1)))),
    qm 30 47]))))
def l1_rs_Code_mix : PC :=
  (.seq (.region [qo 19 (.bin .lss (.t 18) (.t 17))])
  (.seq (.cond (.t 19)
   .skip
   (.exit 0))
  (.seq (.block 1 (.seq (.region [qm 20 18,
     qo 21 (.iasl 1 (.t 16) (.t 18)),
     qo 22 (.load false 1 (.t 21)),
     qm 10 20,
     qm 11 22])
   (.seq (.seq (.region [qm 23 11,
     qo 24 (.bin .eql (.t 23) (.c (.int .u8 (.ofNat 0))))])
   (.cond (.t 24)
    (.exit 1)
    .skip))
   (.seq (.region [qm 25 2,
     qm 26 10,
     qo 27 (.iasl 1 (.t 25) (.t 26)),
     qo 28 (.load false 1 (.t 27)),
     qo 29 (.lensl (.t 28)),
     qo 30 (.mv (.c (.int .i64 (.ofNat 0))))])
   (.block 2 (.loop l0_rs_Code_mix))))))
  (.region [qo 48 (.bin .add (.t 18) (.c (.int .i64 (.ofNat 1)))),
    qm 18 48]))))
/-- (*depot/rs.Code).mix -/
def pf_rs_Code_mix : PF := { ntmps := 50, results := [.tmp 8], body :=
  (.seq (.region [qo 8 (.mv (.c .nils))])
  (.seq (.region [qm 14 3,
    qn 15 (.mksl 2 1 1 [(.int .u8 (.ofNat 0))] (.t 14) (.t 14)),
    qm 9 15])
  (.seq (.seq (.region [qm 16 1,
    qo 17 (.lensl (.t 16)),
    qo 18 (.mv (.c (.int .i64 (.ofNat 0))))])
  (.block 0 (.loop l1_rs_Code_mix)))
  (.seq (.region [qm 49 9,
    qm 8 49])
  .ret)))) }
theorem tr_rs_Code_mix : trF cx Tryz.f273 = pf_rs_Code_mix := by kernel_rfl
/-- slices.Clone[[]depot/api.Part,depot/api.Part] -/
def pf_slices_Clone_api_Part_api_Part : PF := { ntmps := 8, results := [.tmp 2], body :=
  (.seq (.region [qo 2 (.mv (.c .nils))])
  (.seq (.seq (.region [qm 3 0,
    qo 4 (.eqv false .s (.t 3) (.c .nils))])
  (.cond (.t 4)
   (.seq (.region [qo 2 (.mv (.c .nils))])
   .ret)
   .skip))
  (.seq (.region [qn 5 (.bslice 0 2 0 [] []),
    qm 6 0,
    qe 7 (.app 0 2 24 (.t 5) (.t 6)),
    qm 2 7])
  .ret))) }
theorem tr_slices_Clone_api_Part_api_Part : trF cx Tryz.f274 = pf_slices_Clone_api_Part_api_Part := by kernel_rfl
def l0_task_PutRecord : PC :=
  (.seq (.region [qo 19 (.bin .lss (.t 18) (.t 17))])
  (.seq (.cond (.t 19)
   .skip
   (.exit 0))
  (.seq (.block 1 (.seq (.region [qo 20 (.iasl 1 (.t 16) (.t 18)),
     qo 21 (.load false 1 (.t 20)),
     qm 5 21])
   (.region [qm 22 3,
     qm 23 5,
     qe 24 (.call 115 [(.t 22), (.t 23)]),
     qm 3 24])))
  (.region [qo 25 (.bin .add (.t 18) (.c (.int .i64 (.ofNat 1)))),
    qm 18 25]))))
/-- depot/task.PutRecord -/
def pf_task_PutRecord : PF := { ntmps := 28, results := [.tmp 2], body :=
  (.seq (.region [qn 1 (.box (.t 0)),
    qo 2 (.mv (.c (.str [])))])
  (.seq (.region [qo 3 (.mv (.c .nils))])
  (.seq (.seq (.region [qo 6 (.faddr 0 (.t 1)),
    qo 7 (.load false 1 (.t 6)),
    qo 8 (.faddr 1 (.t 1)),
    qo 9 (.load false 1 (.t 8)),
    qo 10 (.faddr 2 (.t 1)),
    qo 11 (.load false 1 (.t 10)),
    qo 12 (.faddr 3 (.t 1)),
    qo 13 (.load false 1 (.t 12)),
    qo 14 (.faddr 4 (.t 1)),
    qo 15 (.load false 1 (.t 14)),
    qn 16 (.bslice 0 1 5 [(.int .i64 (.ofNat 0)), (.int .i64 (.ofNat 0)), (.int .i64 (.ofNat 0)), (.int .i64 (.ofNat 0)), (.int .i64 (.ofNat 0))] [(0, 1, (.t 7)), (1, 1, (.t 9)), (2, 1, (.t 11)), (3, 1, (.t 13)), (4, 1, (.t 15))]),
    qo 17 (.lensl (.t 16)),
    qo 18 (.mv (.c (.int .i64 (.ofNat 0))))])
  (.block 0 (.loop l0_task_PutRecord)))
  (.seq (.region [qm 26 3,
    qo 27 (.b2s (.t 26)),
    qm 2 27])
  .ret)))) }
theorem tr_task_PutRecord : trF cx Tryz.f275 = pf_task_PutRecord := by kernel_rfl
def l0_gather_New : PC :=
  (.seq (.region [qo 32 (.bin .lss (.t 31) (.t 30))])
  (.seq (.cond (.t 32)
   .skip
   (.exit 0))
  (.seq (.block 1 (.seq (.region [qm 33 31,
     qo 34 (.iasl 1 (.t 29) (.t 31)),
     qo 35 (.load false 1 (.t 34)),
     qm 8 33,
     qm 9 35])
   (.seq (.region [qm 36 9,
     qo 37 (.bin .lss (.t 36) (.c (.int .i64 (.ofNat 0)))),
     qm 38 37,
     qg 39 38 false 9,
     qh 40 38 false (.bin .geq (.t 39) (.c (.int .i64 (.ofNat 12)))),
     qo 41 (.pick (.t 38) (.c (.bool true)) (.t 40)),
     qm 42 41,
     qg 43 42 false 2,
     qg 44 42 false 8,
     qh 45 42 false (.slsl 1 (.t 43) none (some (.t 44)) none),
     qg 46 42 false 9,
     .op ⟨(some 47), (some (42, false)), (.e (.call 78 [(.t 45), (.t 46)]))⟩,
     qo 48 (.pick (.t 42) (.c (.bool true)) (.t 47))])
   (.cond (.t 48)
    (.seq (.region [qo 6 (.mv (.c .nilp)),
      qo 7 (.mv (.c (.int .i64 (.ofNat 1))))])
    .ret)
    .skip))))
  (.region [qo 49 (.bin .add (.t 31) (.c (.int .i64 (.ofNat 1)))),
    qm 31 49]))))
/-- depot/gather.New -/
def pf_gather_New : PF := { ntmps := 56, results := [.tmp 6, .tmp 7], body :=
  (.seq (.region [qo 6 (.mv (.c .nilp)),
    qo 7 (.mv (.c (.int .i64 (.ofNat 0))))])
  (.seq (.seq (.region [qm 10 0,
    qo 11 (.bin .lss (.t 10) (.c (.int .i64 (.ofNat 1)))),
    qm 12 11,
    qg 13 12 false 0,
    qh 14 12 false (.bin .gtr (.t 13) (.c (.int .i64 (.ofNat 8)))),
    qo 15 (.pick (.t 12) (.c (.bool true)) (.t 14)),
    qm 16 15,
    qg 17 16 false 1,
    qh 18 16 false (.bin .lss (.t 17) (.c (.int .i64 (.ofNat 0)))),
    qo 19 (.pick (.t 16) (.c (.bool true)) (.t 18)),
    qm 20 19,
    qg 21 20 false 1,
    qh 22 20 false (.bin .gtr (.t 21) (.c (.int .i64 (.ofNat 12)))),
    qo 23 (.pick (.t 20) (.c (.bool true)) (.t 22)),
    qm 24 23,
    qg 25 24 false 2,
    qh 26 24 false (.lensl (.t 25)),
    qh 27 24 false (.bin .gtr (.t 26) (.c (.int .i64 (.ofNat 12)))),
    qo 28 (.pick (.t 24) (.c (.bool true)) (.t 27))])
  (.cond (.t 28)
   (.seq (.region [qo 6 (.mv (.c .nilp)),
     qo 7 (.mv (.c (.int .i64 (.ofNat 1))))])
   .ret)
   .skip))
  (.seq (.seq (.region [qm 29 2,
    qo 30 (.lensl (.t 29)),
    qo 31 (.mv (.c (.int .i64 (.ofNat 0))))])
  (.block 0 (.loop l0_gather_New)))
  (.seq (.region [qm 50 0,
    qm 51 1,
    qm 52 2,
    qe 53 (.call 128 [(.t 52)]),
    qo 54 (.build [(.int .i64 (.ofNat 0)), (.int .i64 (.ofNat 0)), .nils, (.int .i64 (.ofNat 0)), (.int .i64 (.ofNat 0)), .nils] [(0, 1, (.t 50)), (1, 1, (.t 51)), (2, 1, (.t 53))]),
    qn 55 (.box (.t 54)),
    qm 6 55,
    qo 7 (.mv (.c (.int .i64 (.ofNat 0))))])
  .ret)))) }
theorem tr_gather_New : trF cx Tryz.f276 = pf_gather_New := by kernel_rfl
/-- depot/when.Deadline -/
def pf_when_Deadline : PF := { ntmps := 20, results := [.tmp 4], body :=
  (.seq (.region [qo 4 (.mv (.c (.int .i64 (.ofNat 0))))])
  (.seq (.block 0 (.seq (.region [qm 6 0,
     qo 7 (.bin .eql (.t 6) (.c (.int .i64 (.ofNat 0)))),
     qm 5 7])
   (.cond (.t 5)
    (.seq (.region [qo 4 (.mv (.c (.int .i64 (.ofNat 0))))])
    .ret)
    (.seq (.region [qm 9 0,
      qo 10 (.bin .lss (.t 9) (.c (.int .i64 (.ofNat 0)))),
      qm 8 10])
    (.cond (.t 8)
     (.seq (.region [qo 4 (.mv (.c (.int .i64 (.negSucc 0))))])
     .ret)
     (.seq (.region [qm 12 0,
       qo 13 (.bin .leq (.t 12) (.c (.int .i64 (.ofNat 2592000)))),
       qm 11 13])
     (.cond (.t 11)
      (.seq (.region [qm 14 0,
        qm 15 1,
        qo 16 (.bad),
        qo 17 (.bin .add (.t 14) (.t 16)),
        qm 4 17])
      .ret)
      .skip)))))))
  (.seq (.region [qm 18 0,
    qo 19 (.bad),
    qm 4 19])
  .ret))) }
theorem tr_when_Deadline : trF cx Tryz.f277 = pf_when_Deadline := by kernel_rfl
/-- depot/model.Next$1 -/
def pf_model_Next_1 : PF := { ntmps := 5, results := [.cell 2 true 9], body :=
  (.seq (.region [qn 2 (.new 0 [(.int .i64 (.ofNat 0)), .nils, (.bool false), (.int .u64 (.ofNat 0)), (.str []), (.int .i64 (.ofNat 0)), (.int .i64 (.ofNat 0)), (.int .i64 (.ofNat 0)), (.int .i64 (.ofNat 0))])])
  (.seq (.region [qm 3 0,
    qo 4 (.build [(.int .i64 (.ofNat 0)), .nils, (.bool false), (.int .u64 (.ofNat 0)), (.str []), (.int .i64 (.ofNat 0)), (.int .i64 (.ofNat 0)), (.int .i64 (.ofNat 0)), (.int .i64 (.ofNat 0))] [(0, 1, (.t 3))]),
    qx (.store 9 (.t 2) (.t 4))])
  .ret)) }
theorem tr_model_Next_1 : trF cx Tryz.f278 = pf_model_Next_1 := by kernel_rfl
/-- internal/stringslite.CutPrefix -/
def pf_internal_stringslite_CutPrefix : PF := { ntmps := 15, results := [.tmp 4, .tmp 5], body :=
  (.seq (.region [qo 4 (.mv (.c (.str []))),
    qo 5 (.mv (.c (.bool false)))])
  (.seq (.seq (.region [qm 6 0,
    qm 7 1,
    qe 8 (.call 155 [(.t 6), (.t 7)]),
    qo 9 (.un .not (.t 8))])
  (.cond (.t 9)
   (.seq (.region [qm 10 0,
     qm 4 10,
     qo 5 (.mv (.c (.bool false)))])
   .ret)
   .skip))
  (.seq (.region [qm 11 0,
    qm 12 1,
    qo 13 (.lens (.t 12)),
    qo 14 (.slstr (.t 11) (some (.t 13)) none),
    qm 4 14,
    qo 5 (.mv (.c (.bool true)))])
  .ret))) }
theorem tr_internal_stringslite_CutPrefix : trF cx Tryz.f285 = pf_internal_stringslite_CutPrefix := by kernel_rfl
def l0_matrix_Right : PC :=
  (.seq (.region [qo 30 (.bin .lss (.t 29) (.t 28))])
  (.seq (.cond (.t 30)
   .skip
   (.exit 0))
  (.seq (.block 1 (.seq (.region [qo 31 (.iasl 1 (.t 27) (.t 29)),
     qo 32 (.load false 1 (.t 31)),
     qm 4 32])
   (.seq (.region [qm 33 4,
     qo 34 (.lensl (.t 33)),
     qm 35 0,
     qo 36 (.iasl 1 (.t 35) (.c (.int .i64 (.ofNat 0)))),
     qo 37 (.load false 1 (.t 36)),
     qo 38 (.lensl (.t 37)),
     qo 39 (.bin .neq (.t 34) (.t 38))])
   (.cond (.t 39)
    (.seq (.region [qo 2 (.mv (.c (.bool false)))])
    .ret)
    .skip))))
  (.region [qo 40 (.bin .add (.t 29) (.c (.int .i64 (.ofNat 1)))),
    qm 29 40]))))
/-- depot/matrix.Right -/
def pf_matrix_Right : PF := { ntmps := 41, results := [.tmp 2], body :=
  (.seq (.region [qo 2 (.mv (.c (.bool false)))])
  (.seq (.seq (.region [qm 5 0,
    qo 6 (.lensl (.t 5)),
    qo 7 (.bin .lss (.t 6) (.c (.int .i64 (.ofNat 1)))),
    qm 8 7,
    qg 9 8 false 0,
    qh 10 8 false (.lensl (.t 9)),
    qh 11 8 false (.bin .gtr (.t 10) (.c (.int .i64 (.ofNat 12)))),
    qo 12 (.pick (.t 8) (.c (.bool true)) (.t 11)),
    qm 13 12,
    qg 14 13 false 0,
    qh 15 13 false (.iasl 1 (.t 14) (.c (.int .i64 (.ofNat 0)))),
    qh 16 13 false (.load false 1 (.t 15)),
    qh 17 13 false (.lensl (.t 16)),
    qh 18 13 false (.bin .lss (.t 17) (.c (.int .i64 (.ofNat 1)))),
    qo 19 (.pick (.t 13) (.c (.bool true)) (.t 18)),
    qm 20 19,
    qg 21 20 false 0,
    qh 22 20 false (.iasl 1 (.t 21) (.c (.int .i64 (.ofNat 0)))),
    qh 23 20 false (.load false 1 (.t 22)),
    qh 24 20 false (.lensl (.t 23)),
    qh 25 20 false (.bin .gtr (.t 24) (.c (.int .i64 (.ofNat 12)))),
    qo 26 (.pick (.t 20) (.c (.bool true)) (.t 25))])
  (.cond (.t 26)
   (.seq (.region [qo 2 (.mv (.c (.bool false)))])
   .ret)
   .skip))
  (.seq (.seq (.region [qm 27 0,
    qo 28 (.lensl (.t 27)),
    qo 29 (.mv (.c (.int .i64 (.ofNat 0))))])
  (.block 0 (.loop l0_matrix_Right)))
  (.seq (.region [qo 2 (.mv (.c (.bool true)))])
  .ret)))) }
theorem tr_matrix_Right : trF cx Tryz.f290 = pf_matrix_Right := by kernel_rfl
def l0_matrix_copied : PC :=
  (.seq (.region [qo 11 (.bin .lss (.t 10) (.t 9))])
  (.seq (.cond (.t 11)
   .skip
   (.exit 0))
  (.seq (.block 1 (.seq (.region [qm 12 10,
     qm 4 12])
   (.region [qm 13 3,
     qm 14 4,
     qm 15 0,
     qm 16 4,
     qo 17 (.iasl 1 (.t 15) (.t 16)),
     qo 18 (.load false 1 (.t 17)),
     qe 19 (.call 293 [(.t 18)]),
     qo 20 (.iasl 1 (.t 13) (.t 14)),
     qx (.store 1 (.t 20) (.t 19))])))
  (.region [qo 21 (.bin .add (.t 10) (.c (.int .i64 (.ofNat 1)))),
    qm 10 21]))))
/-- depot/matrix.copied -/
def pf_matrix_copied : PF := { ntmps := 23, results := [.tmp 2], body :=
  (.seq (.region [qo 2 (.mv (.c .nils))])
  (.seq (.region [qm 5 0,
    qo 6 (.lensl (.t 5)),
    qn 7 (.mksl 0 1 24 [.nils] (.t 6) (.t 6)),
    qm 3 7])
  (.seq (.seq (.region [qm 8 0,
    qo 9 (.lensl (.t 8)),
    qo 10 (.mv (.c (.int .i64 (.ofNat 0))))])
  (.block 0 (.loop l0_matrix_copied)))
  (.seq (.region [qm 22 3,
    qm 2 22])
  .ret)))) }
theorem tr_matrix_copied : trF cx Tryz.f291 = pf_matrix_copied := by kernel_rfl
def l0_matrix_reduce : PC :=
  (.seq (.region [qo 61 (.bin .lss (.t 60) (.t 59))])
  (.seq (.cond (.t 61)
   .skip
   (.exit 4))
  (.seq (.block 5 (.seq (.region [qm 62 60,
     qm 11 62])
   (.region [qm 63 1,
     qm 64 7,
     qo 65 (.iasl 1 (.t 63) (.t 64)),
     qo 66 (.load false 1 (.t 65)),
     qm 67 11,
     qm 68 0,
     qm 69 1,
     qm 70 7,
     qo 71 (.iasl 1 (.t 69) (.t 70)),
     qo 72 (.load false 1 (.t 71)),
     qm 73 11,
     qo 74 (.iasl 1 (.t 72) (.t 73)),
     qo 75 (.load false 1 (.t 74)),
     qm 76 10,
     qe 77 (.call 294 [(.t 68), (.t 75), (.t 76)]),
     .again ⟨(some 66), none, (.r (.load false 1 (.t 65)))⟩,
     qo 78 (.iasl 1 (.t 66) (.t 67)),
     qx (.store 1 (.t 78) (.t 77))])))
  (.region [qo 79 (.bin .add (.t 60) (.c (.int .i64 (.ofNat 1)))),
    qm 60 79]))))
def l1_matrix_reduce : PC :=
  (.seq (.region [qo 83 (.bin .lss (.t 82) (.t 81))])
  (.seq (.cond (.t 83)
   .skip
   (.exit 6))
  (.seq (.block 7 (.seq (.region [qm 84 82,
     qm 12 84])
   (.seq (.region [qm 85 12,
     qm 86 7,
     qo 87 (.bin .neq (.t 85) (.t 86))])
   (.cond (.t 87)
    (.region [qm 88 0,
      qm 89 1,
      qm 90 12,
      qo 91 (.iasl 1 (.t 89) (.t 90)),
      qo 92 (.load false 1 (.t 91)),
      qm 93 1,
      qm 94 7,
      qo 95 (.iasl 1 (.t 93) (.t 94)),
      qo 96 (.load false 1 (.t 95)),
      qm 97 1,
      qm 98 12,
      qo 99 (.iasl 1 (.t 97) (.t 98)),
      qo 100 (.load false 1 (.t 99)),
      qm 101 8,
      qo 102 (.iasl 1 (.t 100) (.t 101)),
      qo 103 (.load false 1 (.t 102)),
      qo 104 (.bad)])
    .skip))))
  (.region [qo 105 (.bin .add (.t 82) (.c (.int .i64 (.ofNat 1)))),
    qm 82 105]))))
def l2_matrix_reduce : PC :=
  (.seq (.seq (.region [qm 18 9,
    qm 19 1,
    qo 20 (.lensl (.t 19)),
    qo 21 (.bin .lss (.t 18) (.t 20))])
  (.cond (.t 21)
   .skip
   (.exit 2)))
  (.seq (.block 3 (.seq (.seq (.region [qm 24 1,
     qm 25 9,
     qo 26 (.iasl 1 (.t 24) (.t 25)),
     qo 27 (.load false 1 (.t 26)),
     qm 28 8,
     qo 29 (.iasl 1 (.t 27) (.t 28)),
     qo 30 (.load false 1 (.t 29)),
     qo 31 (.bin .eql (.t 30) (.c (.int .u8 (.ofNat 0))))])
   (.cond (.t 31)
    (.exit 3)
    .skip))
   (.seq (.region [qm 32 1,
     qm 33 7,
     qm 34 1,
     qm 35 9,
     qm 36 1,
     qm 37 9,
     qo 38 (.iasl 1 (.t 36) (.t 37)),
     qo 39 (.load false 1 (.t 38)),
     qm 40 1,
     qm 41 7,
     qo 42 (.iasl 1 (.t 40) (.t 41)),
     qo 43 (.load false 1 (.t 42)),
     qo 44 (.iasl 1 (.t 32) (.t 33)),
     qx (.store 1 (.t 44) (.t 39)),
     qo 45 (.iasl 1 (.t 34) (.t 35)),
     qx (.store 1 (.t 45) (.t 43))])
   (.seq (.region [qm 46 0,
     qm 47 1,
     qm 48 7,
     qo 49 (.iasl 1 (.t 47) (.t 48)),
     qo 50 (.load false 1 (.t 49)),
     qm 51 8,
     qo 52 (.iasl 1 (.t 50) (.t 51)),
     qo 53 (.load false 1 (.t 52)),
     qe 54 (.call 124 [(.t 46), (.t 53)]),
     qm 10 54])
   (.seq (.seq (.region [qm 55 1,
     qm 56 7,
     qo 57 (.iasl 1 (.t 55) (.t 56)),
     qo 58 (.load false 1 (.t 57)),
     qo 59 (.lensl (.t 58)),
     qo 60 (.mv (.c (.int .i64 (.ofNat 0))))])
   (.block 4 (.loop l0_matrix_reduce)))
   (.seq (.seq (.region [qm 80 1,
     qo 81 (.lensl (.t 80)),
     qo 82 (.mv (.c (.int .i64 (.ofNat 0))))])
   (.block 6 (.loop l1_matrix_reduce)))
   (.seq (.region [qm 106 7,
     qo 107 (.bin .add (.t 106) (.c (.int .i64 (.ofNat 1)))),
     qm 7 107])
   (.exit 1))))))))
  (.region [qm 22 9,
    qo 23 (.bin .add (.t 22) (.c (.int .i64 (.ofNat 1)))),
    qm 9 23])))
def l3_matrix_reduce : PC :=
  (.seq (.region [qo 15 (.bin .lss (.t 14) (.t 13))])
  (.seq (.cond (.t 15)
   .skip
   (.exit 0))
  (.seq (.block 1 (.seq (.region [qm 16 14,
     qm 8 16])
   (.seq (.region [qm 17 7,
     qm 9 17])
   (.block 2 (.loop l2_matrix_reduce)))))
  (.region [qo 108 (.bin .add (.t 14) (.c (.int .i64 (.ofNat 1)))),
    qm 14 108]))))
/-- depot/matrix.reduce -/
def pf_matrix_reduce : PF := { ntmps := 110, results := [.tmp 6], body :=
  (.seq (.region [qo 6 (.mv (.c (.int .i64 (.ofNat 0))))])
  (.scope (.seq (.region [qo 7 (.mv (.c (.int .i64 (.ofNat 0))))])
   (.seq .skip
   (.seq (.seq (.region [qm 13 2,
     qo 14 (.mv (.c (.int .i64 (.ofNat 0))))])
   (.block 0 (.loop l3_matrix_reduce)))
   (.seq (.region [qm 109 7,
     qm 6 109])
   .ret)))))) }
theorem tr_matrix_reduce : trF cx Tryz.f292 = pf_matrix_reduce := by kernel_rfl
/-- slices.Clone[[]byte,byte] -/
def pf_slices_Clone_byte_byte : PF := { ntmps := 8, results := [.tmp 2], body :=
  (.seq (.region [qo 2 (.mv (.c .nils))])
  (.seq (.seq (.region [qm 3 0,
    qo 4 (.eqv false .s (.t 3) (.c .nils))])
  (.cond (.t 4)
   (.seq (.region [qo 2 (.mv (.c .nils))])
   .ret)
   .skip))
  (.seq (.region [qn 5 (.bslice 2 1 0 [] []),
    qm 6 0,
    qe 7 (.app 2 1 1 (.t 5) (.t 6)),
    qm 2 7])
  .ret))) }
theorem tr_slices_Clone_byte_byte : trF cx Tryz.f293 = pf_slices_Clone_byte_byte := by kernel_rfl
/-- depot/gf.Mul -/
def pf_gf_Mul : PF := { ntmps := 33, results := [.tmp 6], body :=
  (.seq (.region [qo 6 (.mv (.c (.int .u8 (.ofNat 0))))])
  (.seq (.seq (.region [qm 7 1,
    qo 8 (.bin .eql (.t 7) (.c (.int .u8 (.ofNat 0)))),
    qm 9 8,
    qg 10 9 false 2,
    qh 11 9 false (.bin .eql (.t 10) (.c (.int .u8 (.ofNat 0)))),
    qo 12 (.pick (.t 9) (.c (.bool true)) (.t 11))])
  (.cond (.t 12)
   (.seq (.region [qo 6 (.mv (.c (.int .u8 (.ofNat 0))))])
   .ret)
   .skip))
  (.seq (.region [qm 13 0,
    qm 14 0,
    qm 15 1,
    qo 16 (.nilck (.t 14)),
    qo 17 (.faddr 510 (.t 16)),
    qo 18 (.iaarr 256 1 (.t 17) (.t 15)),
    qo 19 (.load false 1 (.t 18)),
    qo 20 (.cint .i64 (.t 19)),
    qm 21 0,
    qm 22 2,
    qo 23 (.nilck (.t 21)),
    qo 24 (.faddr 510 (.t 23)),
    qo 25 (.iaarr 256 1 (.t 24) (.t 22)),
    qo 26 (.load false 1 (.t 25)),
    qo 27 (.cint .i64 (.t 26)),
    qo 28 (.bin .add (.t 20) (.t 27)),
    qo 29 (.nilck (.t 13)),
    qo 30 (.faddr 0 (.t 29)),
    qo 31 (.iaarr 510 1 (.t 30) (.t 28)),
    qo 32 (.load false 1 (.t 31)),
    qm 6 32])
  .ret))) }
theorem tr_gf_Mul : trF cx Tryz.f294 = pf_gf_Mul := by kernel_rfl
end Go.Proofs.YtobnlhfgebfebaaGreatDoor
