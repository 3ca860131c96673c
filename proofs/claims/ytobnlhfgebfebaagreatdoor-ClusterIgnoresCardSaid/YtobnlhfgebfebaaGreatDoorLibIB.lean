/- The functions that this seat's laws reach, for the clean machine; each is what the translation makes of the given text. Conditions: none. Printed by program. -/
import Derived.Test.YtobnlhfgebfebaaGreatDoorLibIA
namespace Go.Proofs.YtobnlhfgebfebaaGreatDoor
open Go.Dp
/-- (*depot/parse.Parser).say -/
def pf_parse_Parser_say : PF := { ntmps := 19, results := [], body :=
  (.region [qm 6 0,
    qm 7 0,
    qo 8 (.nilck (.t 7)),
    qo 9 (.faddr 13 (.t 8)),
    qo 10 (.load false 1 (.t 9)),
    qm 11 1,
    qm 12 2,
    qo 13 (.build [(.int .i64 (.ofNat 0)), .nils, (.bool false), (.int .u64 (.ofNat 0)), (.str []), (.int .i64 (.ofNat 0)), (.int .i64 (.ofNat 0)), (.int .i64 (.ofNat 0)), (.int .i64 (.ofNat 0))] [(0, 1, (.t 11)), (4, 1, (.t 12))]),
    qo 14 (.build [(.int .i64 (.ofNat 0)), .nils, (.int .i64 (.ofNat 0)), (.int .i64 (.ofNat 0)), (.int .i64 (.ofNat 0)), (.int .i64 (.ofNat 0)), (.int .u64 (.ofNat 0)), (.bool false), (.str []), (.int .i64 (.ofNat 0)), .nils, (.bool false), (.int .u64 (.ofNat 0)), (.str []), (.int .i64 (.ofNat 0)), (.int .i64 (.ofNat 0)), (.int .i64 (.ofNat 0)), (.int .i64 (.ofNat 0))] [(9, 9, (.t 13))]),
    qn 15 (.bslice 0 18 1 [(.int .i64 (.ofNat 0)), .nils, (.int .i64 (.ofNat 0)), (.int .i64 (.ofNat 0)), (.int .i64 (.ofNat 0)), (.int .i64 (.ofNat 0)), (.int .u64 (.ofNat 0)), (.bool false), (.str []), (.int .i64 (.ofNat 0)), .nils, (.bool false), (.int .u64 (.ofNat 0)), (.str []), (.int .i64 (.ofNat 0)), (.int .i64 (.ofNat 0)), (.int .i64 (.ofNat 0)), (.int .i64 (.ofNat 0))] [(0, 18, (.t 14))]),
    qe 16 (.app 0 18 192 (.t 10) (.t 15)),
    qo 17 (.nilck (.t 6)),
    qo 18 (.faddr 13 (.t 17)),
    qx (.store 1 (.t 18) (.t 16))]) }
theorem tr_parse_Parser_say : trF cx Tryz.f101 = pf_parse_Parser_say := by kernel_rfl
/-- strings.HasPrefix -/
def pf_strings_HasPrefix : PF := { ntmps := 8, results := [.tmp 4], body :=
  (.seq (.region [qo 4 (.mv (.c (.bool false)))])
  (.seq (.region [qm 5 0,
    qm 6 1,
    qe 7 (.call 155 [(.t 5), (.t 6)]),
    qm 4 7])
  .ret)) }
theorem tr_strings_HasPrefix : trF cx Tryz.f102 = pf_strings_HasPrefix := by kernel_rfl
/-- depot/router.within -/
def pf_router_within : PF := { ntmps := 15, results := [.tmp 6], body :=
  (.seq (.region [qo 6 (.mv (.c (.bool false)))])
  (.seq (.region [qm 7 0,
    qm 8 1,
    qo 9 (.bin .geq (.t 7) (.t 8)),
    qm 10 9,
    qg 11 10 true 0,
    qg 12 10 true 2,
    qh 13 10 true (.bin .leq (.t 11) (.t 12)),
    qo 14 (.pick (.t 10) (.t 13) (.c (.bool false))),
    qm 6 14])
  .ret)) }
theorem tr_router_within : trF cx Tryz.f104 = pf_router_within := by kernel_rfl
def l0_words_Key : PC :=
  (.seq (.region [qo 15 (.bin .lss (.t 14) (.t 13))])
  (.seq (.cond (.t 15)
   .skip
   (.exit 0))
  (.seq (.block 1 (.seq (.region [qm 16 14,
     qm 3 16])
   (.seq (.region [qm 17 0,
     qm 18 3,
     qo 19 (.ixstr (.t 17) (.t 18)),
     qo 20 (.bin .leq (.t 19) (.c (.int .u8 (.ofNat 32)))),
     qm 21 20,
     qg 22 21 false 0,
     qg 23 21 false 3,
     qh 24 21 false (.ixstr (.t 22) (.t 23)),
     qh 25 21 false (.bin .eql (.t 24) (.c (.int .u8 (.ofNat 127)))),
     qo 26 (.pick (.t 21) (.c (.bool true)) (.t 25))])
   (.cond (.t 26)
    (.seq (.region [qo 2 (.mv (.c (.bool false)))])
    .ret)
    .skip))))
  (.region [qo 27 (.bin .add (.t 14) (.c (.int .i64 (.ofNat 1)))),
    qm 14 27]))))
/-- depot/words.Key -/
def pf_words_Key : PF := { ntmps := 28, results := [.tmp 2], body :=
  (.seq (.region [qo 2 (.mv (.c (.bool false)))])
  (.seq (.seq (.region [qm 4 0,
    qo 5 (.lens (.t 4)),
    qo 6 (.bin .lss (.t 5) (.c (.int .i64 (.ofNat 1)))),
    qm 7 6,
    qg 8 7 false 0,
    qh 9 7 false (.lens (.t 8)),
    qh 10 7 false (.bin .gtr (.t 9) (.c (.int .i64 (.ofNat 250)))),
    qo 11 (.pick (.t 7) (.c (.bool true)) (.t 10))])
  (.cond (.t 11)
   (.seq (.region [qo 2 (.mv (.c (.bool false)))])
   .ret)
   .skip))
  (.seq (.seq (.region [qm 12 0,
    qo 13 (.lens (.t 12)),
    qo 14 (.mv (.c (.int .i64 (.ofNat 0))))])
  (.block 0 (.loop l0_words_Key)))
  (.seq (.region [qo 2 (.mv (.c (.bool true)))])
  .ret)))) }
theorem tr_words_Key : trF cx Tryz.f105 = pf_words_Key := by kernel_rfl
/-- (*depot/router.Router).begin -/
def pf_router_Router_begin : PF := { ntmps := 66, results := [], body :=
  (.seq (.region [qn 3 (.box (.t 1))])
  (.seq (.region [qm 7 0,
    qo 8 (.nilck (.t 7)),
    qo 9 (.faddr 10 (.t 8)),
    qo 10 (.load false 1 (.t 9)),
    qo 11 (.bin .add (.t 10) (.c (.int .i64 (.ofNat 1)))),
    qo 12 (.nilck (.t 7)),
    qo 13 (.faddr 10 (.t 12)),
    qx (.store 1 (.t 13) (.t 11))])
  (.seq (.region [qm 14 0,
    qo 15 (.nilck (.t 14)),
    qo 16 (.faddr 28 (.t 15)),
    qo 17 (.load false 1 (.t 16)),
    qo 18 (.bin .add (.t 17) (.c (.int .i64 (.ofNat 1)))),
    qo 19 (.nilck (.t 14)),
    qo 20 (.faddr 28 (.t 19)),
    qx (.store 1 (.t 20) (.t 18))])
  (.seq (.region [qm 22 0,
    qo 23 (.nilck (.t 22)),
    qo 24 (.faddr 0 (.t 23)),
    qo 25 (.load true 6 (.t 24)),
    qo 26 (.faddr 0 (.t 3)),
    qo 27 (.load false 1 (.t 26)),
    qo 28 (.faddr 1 (.t 3)),
    qo 29 (.load true 9 (.t 28)),
    qo 30 (.faddr 12 (.t 3)),
    qo 31 (.load false 1 (.t 30)),
    qm 32 0,
    qo 33 (.nilck (.t 32)),
    qo 34 (.faddr 10 (.t 33)),
    qo 35 (.load false 1 (.t 34)),
    qe 36 (.call 156 [(.t 25), (.t 27), (.t 29), (.t 31), (.t 35)]),
    qm 21 36,
    qo 37 (.ext 0 (.t 21)),
    qo 38 (.ext 1 (.t 21)),
    qm 4 37,
    qm 5 38])
  (.seq (.seq (.region [qm 39 5,
    qo 40 (.bin .neq (.t 39) (.c (.int .i64 (.ofNat 0))))])
  (.cond (.t 40)
   .ret
   .skip))
  (.seq (.region [qm 41 0,
    qo 42 (.nilck (.t 41)),
    qo 43 (.faddr 28 (.t 42)),
    qo 44 (.load false 1 (.t 43)),
    qo 45 (.load true 14 (.t 3)),
    qm 46 4,
    qo 47 (.build [(.int .i64 (.ofNat 0)), (.str []), (.int .i64 (.ofNat 0)), .nils, (.int .i64 (.ofNat 0)), (.int .i64 (.ofNat 0)), (.int .i64 (.ofNat 0)), (.int .i64 (.ofNat 0)), (.int .u64 (.ofNat 0)), (.bool false), (.str []), (.int .i64 (.ofNat 0)), (.int .i64 (.ofNat 0)), (.int .i64 (.ofNat 0)), (.int .i64 (.ofNat 0)), .nilp, (.bool false)] [(0, 1, (.t 44)), (1, 14, (.t 45)), (15, 1, (.t 46))]),
    qn 48 (.box (.t 47)),
    qm 6 48])
  (.seq (.region [qm 49 0,
    qm 50 0,
    qo 51 (.nilck (.t 50)),
    qo 52 (.faddr 11 (.t 51)),
    qo 53 (.load false 1 (.t 52)),
    qm 54 6,
    qn 55 (.bslice 0 1 1 [.nilp] [(0, 1, (.t 54))]),
    qe 56 (.app 0 1 8 (.t 53) (.t 55)),
    qo 57 (.nilck (.t 49)),
    qo 58 (.faddr 11 (.t 57)),
    qx (.store 1 (.t 58) (.t 56))])
  (.seq (.region [qm 59 4,
    qm 60 0,
    qe 61 (.call 81 [(.t 60)]),
    qe 62 (.call 157 [(.t 59), (.t 61)])])
  (.region [qm 63 0,
    qm 64 6,
    qe 65 (.call 89 [(.t 63), (.t 64)])]))))))))) }
theorem tr_router_Router_begin : trF cx Tryz.f106 = pf_router_Router_begin := by kernel_rfl
/-- slices.Delete[[]depot/ask.open,depot/ask.open] -/
def pf_slices_Delete_ask_open_ask_open : PF := { ntmps := 33, results := [.tmp 6], body :=
  (.seq (.region [qo 6 (.mv (.c .nils))])
  (.seq (.region [qm 8 0,
    qm 9 1,
    qm 10 2,
    qm 11 0,
    qo 12 (.lensl (.t 11)),
    qo 13 (.slsl 10 (.t 8) (some (.t 9)) (some (.t 10)) (some (.t 12)))])
  (.seq (.seq (.region [qm 14 1,
    qm 15 2,
    qo 16 (.bin .eql (.t 14) (.t 15))])
  (.cond (.t 16)
   (.seq (.region [qm 17 0,
     qm 6 17])
   .ret)
   .skip))
  (.seq (.region [qm 18 0,
    qo 19 (.lensl (.t 18)),
    qm 7 19])
  (.seq (.region [qm 20 0,
    qm 21 1,
    qo 22 (.slsl 10 (.t 20) none (some (.t 21)) none),
    qm 23 0,
    qm 24 2,
    qo 25 (.slsl 10 (.t 23) (some (.t 24)) none none),
    qe 26 (.app 0 10 96 (.t 22) (.t 25)),
    qm 0 26])
  (.seq (.region [qm 27 0,
    qm 28 0,
    qo 29 (.lensl (.t 28)),
    qm 30 7,
    qo 31 (.slsl 10 (.t 27) (some (.t 29)) (some (.t 30)) none),
    qx (.clear [(.int .i64 (.ofNat 0)), (.int .i64 (.ofNat 0)), (.int .i64 (.ofNat 0)), (.int .i64 (.ofNat 0)), (.int .i64 (.ofNat 0)), (.int .i64 (.ofNat 0)), (.str []), (.int .i64 (.ofNat 0)), (.str []), (.int .i64 (.ofNat 0))] (.t 31))])
  (.seq (.region [qm 32 0,
    qm 6 32])
  .ret))))))) }
theorem tr_slices_Delete_ask_open_ask_open : trF cx Tryz.f107 = pf_slices_Delete_ask_open_ask_open := by kernel_rfl
/-- depot/wire.within -/
def pf_wire_within : PF := { ntmps := 12, results := [.tmp 4], body :=
  (.seq (.region [qo 4 (.mv (.c (.bool false)))])
  (.seq (.region [qm 5 0,
    qo 6 (.bin .geq (.t 5) (.c (.int .i64 (.ofNat 0)))),
    qm 7 6,
    qg 8 7 true 0,
    qg 9 7 true 1,
    qh 10 7 true (.bin .leq (.t 8) (.t 9)),
    qo 11 (.pick (.t 7) (.t 10) (.c (.bool false))),
    qm 4 11])
  .ret)) }
theorem tr_wire_within : trF cx Tryz.f108 = pf_wire_within := by kernel_rfl
/-- depot/wire.role -/
def pf_wire_role : PF := { ntmps := 30, results := [.tmp 4], body :=
  (.seq (.region [qo 4 (.mv (.c (.bool false)))])
  (.seq (.seq (.region [qm 5 0])
  (.block 0 (.seq (.seq (.region [qo 7 (.bin .eql (.t 5) (.c (.int .i64 (.ofNat 4)))),
     qm 6 7])
   (.cond (.t 6)
    .skip
    (.seq (.region [qo 8 (.bin .eql (.t 5) (.c (.int .i64 (.ofNat 5)))),
      qm 6 8])
    (.cond (.t 6)
     .skip
     (.region [qo 9 (.bin .eql (.t 5) (.c (.int .i64 (.ofNat 7)))),
       qm 6 9])))))
   (.cond (.t 6)
    (.seq (.region [qm 10 1,
      qo 11 (.bin .eql (.t 10) (.c (.int .i64 (.ofNat 0)))),
      qm 4 11])
    .ret)
    (.seq (.region [qo 13 (.bin .eql (.t 5) (.c (.int .i64 (.ofNat 6)))),
      qm 12 13])
    (.cond (.t 12)
     (.seq (.region [qm 14 1,
       qo 15 (.bin .eql (.t 14) (.c (.int .i64 (.ofNat 0)))),
       qm 16 15,
       qg 17 16 false 1,
       qh 18 16 false (.bin .eql (.t 17) (.c (.int .i64 (.ofNat 1)))),
       qo 19 (.pick (.t 16) (.c (.bool true)) (.t 18)),
       qm 20 19,
       qg 21 20 false 1,
       qh 22 20 false (.bin .eql (.t 21) (.c (.int .i64 (.ofNat 2)))),
       qo 23 (.pick (.t 20) (.c (.bool true)) (.t 22)),
       qm 4 23])
     .ret)
     .skip))))))
  (.seq (.region [qm 24 1,
    qo 25 (.bin .eql (.t 24) (.c (.int .i64 (.ofNat 1)))),
    qm 26 25,
    qg 27 26 false 1,
    qh 28 26 false (.bin .eql (.t 27) (.c (.int .i64 (.ofNat 2)))),
    qo 29 (.pick (.t 26) (.c (.bool true)) (.t 28)),
    qm 4 29])
  .ret))) }
theorem tr_wire_role : trF cx Tryz.f109 = pf_wire_role := by kernel_rfl
def l0_slices_IndexFunc_slot_did_slot_did : PC :=
  (.seq (.region [qo 9 (.bin .lss (.t 8) (.t 7))])
  (.seq (.cond (.t 9)
   .skip
   (.exit 0))
  (.seq (.block 1 (.seq (.region [qm 10 8,
     qm 5 10])
   (.seq (.region [qm 11 1,
     qm 12 0,
     qm 13 5,
     qo 14 (.iasl 10 (.t 12) (.t 13)),
     qo 15 (.load true 10 (.t 14)),
     qe 16 (.callv (.t 11) [(.t 15)])])
   (.cond (.t 16)
    (.seq (.region [qm 17 5,
      qm 4 17])
    .ret)
    .skip))))
  (.region [qo 18 (.bin .add (.t 8) (.c (.int .i64 (.ofNat 1)))),
    qm 8 18]))))
/-- slices.IndexFunc[[]depot/slot.did,depot/slot.did] -/
def pf_slices_IndexFunc_slot_did_slot_did : PF := { ntmps := 19, results := [.tmp 4], body :=
  (.seq (.region [qo 4 (.mv (.c (.int .i64 (.ofNat 0))))])
  (.seq (.seq (.region [qm 6 0,
    qo 7 (.lensl (.t 6)),
    qo 8 (.mv (.c (.int .i64 (.ofNat 0))))])
  (.block 0 (.loop l0_slices_IndexFunc_slot_did_slot_did)))
  (.seq (.region [qo 4 (.mv (.c (.int .i64 (.negSucc 0))))])
  .ret))) }
theorem tr_slices_IndexFunc_slot_did_slot_did : trF cx Tryz.f110 = pf_slices_IndexFunc_slot_did_slot_did := by kernel_rfl
/-- (*depot/slot.Slot).stands -/
def pf_slot_Slot_stands : PF := { ntmps := 33, results := [.tmp 4, .tmp 5, .tmp 6], body :=
  (.seq (.region [qn 3 (.box (.t 1)),
    qo 4 (.mv (.c (.int .i64 (.ofNat 0)))),
    qo 5 (.mv (.c (.str []))),
    qo 6 (.mv (.c (.bool false)))])
  (.seq (.region [qm 12 0,
    qo 13 (.nilck (.t 12)),
    qo 14 (.faddr 6 (.t 13)),
    qo 15 (.load false 1 (.t 14)),
    qo 16 (.load true 9 (.t 3)),
    qe 17 (.call 114 [(.t 16)]),
    .again ⟨(some 15), none, (.r (.load false 1 (.t 14)))⟩,
    qe 18 (.call 161 [(.t 15), (.t 17)]),
    qm 11 18,
    qo 19 (.ext 0 (.t 11)),
    qo 20 (.ext 1 (.t 11)),
    qm 7 19,
    qm 8 20])
  (.seq (.seq (.region [qm 21 8,
    qo 22 (.un .not (.t 21))])
  (.cond (.t 22)
   (.seq (.region [qo 4 (.mv (.c (.int .i64 (.ofNat 0)))),
     qo 5 (.mv (.c (.str []))),
     qo 6 (.mv (.c (.bool false)))])
   .ret)
   .skip))
  (.seq (.region [qm 23 7,
    qn 24 (.s2b (.t 23)),
    qe 25 (.call 140 [(.t 24)]),
    qm 9 25])
  (.seq (.region [qm 26 9,
    qe 27 (.call 162 [(.t 26)]),
    qm 10 27])
  (.seq (.region [qm 28 10,
    qm 29 7,
    qm 30 9,
    qe 31 (.call 141 [(.t 30)]),
    qo 32 (.slstr (.t 29) (some (.t 31)) none),
    qm 4 28,
    qm 5 32,
    qo 6 (.mv (.c (.bool true)))])
  .ret)))))) }
theorem tr_slot_Slot_stands : trF cx Tryz.f112 = pf_slot_Slot_stands := by kernel_rfl
def l0_item_Store_Put : PC :=
  (.seq (.seq (.region [qm 43 13,
    qo 44 (.bin .eql (.t 43) (.c (.int .i64 (.ofNat 6))))])
  (.cond (.t 44)
   .skip
   (.exit 0)))
  (.block 1 (.seq (.region [qm 45 0,
     qm 46 10,
     qo 47 (.bad),
     qm 14 47])
   (.seq (.seq (.region [qm 48 14,
     qo 49 (.bin .eql (.t 48) (.c (.int .i64 (.ofNat 0))))])
   (.cond (.t 49)
    (.seq (.region [qm 50 11,
      qm 8 50,
      qo 9 (.mv (.c (.int .i64 (.ofNat 6))))])
    .ret)
    .skip))
   (.seq (.region [qm 51 11,
     qm 52 0,
     qo 53 (.nilck (.t 52)),
     qo 54 (.faddr 2 (.t 53)),
     qo 55 (.load false 1 (.t 54)),
     qm 56 14,
     qo 57 (.iasl 6 (.t 55) (.t 56)),
     qo 58 (.faddr 0 (.t 57)),
     qo 59 (.load false 1 (.t 58)),
     qn 60 (.bslice 0 1 1 [(.str [])] [(0, 1, (.t 59))]),
     qe 61 (.app 0 1 16 (.t 51) (.t 60)),
     qm 11 61])
   (.seq (.region [qm 62 0,
     qm 63 14,
     qo 64 (.bad)])
   (.region [qm 66 0,
     qo 67 (.nilck (.t 66)),
     qo 68 (.faddr 0 (.t 67)),
     qo 69 (.load false 1 (.t 68)),
     qm 70 1,
     qm 71 2,
     qo 72 (.bin .add (.t 70) (.t 71)),
     qe 73 (.call 164 [(.t 69), (.t 72)]),
     qm 65 73,
     qo 74 (.ext 0 (.t 65)),
     qo 75 (.ext 1 (.t 65)),
     qx (.store 2 (.t 12) (.t 74)),
     qm 13 75])))))))
/-- (*depot/item.Store).Put -/
def pf_item_Store_Put : PF := { ntmps := 137, results := [.tmp 8, .tmp 9], body :=
  (.seq (.region [qo 8 (.mv (.c .nils)),
    qo 9 (.mv (.c (.int .i64 (.ofNat 0))))])
  (.seq (.region [qm 17 0,
    qm 18 1,
    qe 19 (.call 116 [(.t 17), (.t 18)])])
  (.seq (.region [qm 20 0,
    qo 21 (.nilck (.t 20)),
    qo 22 (.faddr 0 (.t 21)),
    qo 23 (.load false 1 (.t 22)),
    qm 24 1,
    qo 25 (.lens (.t 24)),
    qm 26 2,
    qo 27 (.lens (.t 26)),
    qo 28 (.bin .add (.t 25) (.t 27)),
    qe 29 (.call 163 [(.t 23), (.t 28)]),
    qm 10 29])
  (.seq (.seq (.region [qm 30 10,
    qo 31 (.bin .lss (.t 30) (.c (.int .i64 (.ofNat 0))))])
  (.cond (.t 31)
   (.seq (.region [qo 8 (.mv (.c .nils)),
     qo 9 (.mv (.c (.int .i64 (.ofNat 2))))])
   .ret)
   .skip))
  (.seq (.region [qo 11 (.mv (.c .nils))])
  (.seq (.region [qm 33 0,
    qo 34 (.nilck (.t 33)),
    qo 35 (.faddr 0 (.t 34)),
    qo 36 (.load false 1 (.t 35)),
    qm 37 1,
    qm 38 2,
    qo 39 (.bin .add (.t 37) (.t 38)),
    qe 40 (.call 164 [(.t 36), (.t 39)]),
    qm 32 40,
    qo 41 (.ext 0 (.t 32)),
    qo 42 (.ext 1 (.t 32)),
    qn 12 (.new 0 [(.int .i64 (.ofNat 0)), (.int .i64 (.ofNat 0))]),
    qx (.store 2 (.t 12) (.t 41)),
    qm 13 42])
  (.seq (.block 0 (.loop l0_item_Store_Put))
  (.seq (.region [qm 76 0,
    qo 77 (.nilck (.t 76)),
    qo 78 (.faddr 2 (.t 77)),
    qo 79 (.load false 1 (.t 78)),
    qo 80 (.lensl (.t 79)),
    qm 15 80])
  (.seq (.seq (.region [qm 81 0,
    qo 82 (.nilck (.t 81)),
    qo 83 (.faddr 3 (.t 82)),
    qo 84 (.load false 1 (.t 83)),
    qo 85 (.lensl (.t 84)),
    qm 16 85])
  (.seq (.region [qm 86 16,
    qo 87 (.bin .gtr (.t 86) (.c (.int .i64 (.ofNat 0))))])
  (.cond (.t 87)
   (.region [qm 88 0,
     qm 89 0,
     qo 90 (.nilck (.t 89)),
     qo 91 (.faddr 3 (.t 90)),
     qo 92 (.load false 1 (.t 91)),
     qm 93 16,
     qo 94 (.bin .sub (.t 93) (.c (.int .i64 (.ofNat 1)))),
     qo 95 (.iasl 1 (.t 92) (.t 94)),
     qo 96 (.load false 1 (.t 95)),
     qm 97 0,
     qo 98 (.nilck (.t 97)),
     qo 99 (.faddr 3 (.t 98)),
     qo 100 (.load false 1 (.t 99)),
     qm 101 16,
     qo 102 (.bin .sub (.t 101) (.c (.int .i64 (.ofNat 1)))),
     qo 103 (.slsl 1 (.t 100) none (some (.t 102)) none),
     qm 15 96,
     qo 104 (.nilck (.t 88)),
     qo 105 (.faddr 3 (.t 104)),
     qx (.store 1 (.t 105) (.t 103))])
   (.region [qm 106 0,
     qm 107 0,
     qo 108 (.nilck (.t 107)),
     qo 109 (.faddr 2 (.t 108)),
     qo 110 (.load false 1 (.t 109)),
     qo 111 (.build [(.str []), (.int .i64 (.ofNat 0)), (.int .i64 (.ofNat 0)), (.bool false), (.int .i64 (.ofNat 0)), (.int .i64 (.ofNat 0))] []),
     qn 112 (.bslice 0 6 1 [(.str []), (.int .i64 (.ofNat 0)), (.int .i64 (.ofNat 0)), (.bool false), (.int .i64 (.ofNat 0)), (.int .i64 (.ofNat 0))] [(0, 6, (.t 111))]),
     qe 113 (.app 0 6 56 (.t 110) (.t 112)),
     qo 114 (.nilck (.t 106)),
     qo 115 (.faddr 2 (.t 114)),
     qx (.store 1 (.t 115) (.t 113))]))))
  (.seq (.region [qm 116 0,
    qo 117 (.nilck (.t 116)),
    qo 118 (.faddr 2 (.t 117)),
    qo 119 (.load false 1 (.t 118)),
    qm 120 15,
    qm 121 1,
    qo 122 (.load true 2 (.t 12)),
    qm 123 3,
    qo 124 (.build [(.str []), (.int .i64 (.ofNat 0)), (.int .i64 (.ofNat 0)), (.bool false), (.int .i64 (.ofNat 0)), (.int .i64 (.ofNat 0))] [(0, 1, (.t 121)), (1, 2, (.t 122)), (3, 1, (.t 123))]),
    qo 125 (.iasl 6 (.t 119) (.t 120)),
    qx (.store 6 (.t 125) (.t 124))])
  (.seq (.region [qm 126 0,
    qm 127 15,
    qe 128 (.call 167 [(.t 126), (.t 127)])])
  (.seq (.region [qm 129 0,
    qo 130 (.nilck (.t 129)),
    qo 131 (.faddr 1 (.t 130)),
    qo 132 (.load false 1 (.t 131)),
    qm 133 1,
    qm 134 15,
    qe 135 (.call 168 [(.t 132), (.t 133), (.t 134)])])
  (.seq (.region [qm 136 11,
    qm 8 136,
    qo 9 (.mv (.c (.int .i64 (.ofNat 0))))])
  .ret))))))))))))) }
theorem tr_item_Store_Put : trF cx Tryz.f113 = pf_item_Store_Put := by kernel_rfl
/-- depot/slot.name -/
def pf_slot_name : PF := { ntmps := 18, results := [.tmp 2], body :=
  (.seq (.region [qn 1 (.box (.t 0)),
    qo 2 (.mv (.c (.str [])))])
  (.seq (.seq (.region [qo 3 (.faddr 5 (.t 1)),
    qo 4 (.load false 1 (.t 3)),
    qo 5 (.bin .eql (.t 4) (.c (.int .i64 (.ofNat 1))))])
  (.cond (.t 5)
   (.seq (.region [qo 6 (.faddr 6 (.t 1)),
     qo 7 (.load false 1 (.t 6)),
     qo 8 (.bin .add (.c (.str [109])) (.t 7)),
     qm 2 8])
   .ret)
   .skip))
  (.seq (.region [qn 9 (.bslice 2 1 1 [(.int .u8 (.ofNat 0))] [(0, 1, (.c (.int .u8 (.ofNat 112))))]),
    qo 11 (.faddr 7 (.t 1)),
    qo 12 (.load false 1 (.t 11)),
    qo 15 (.faddr 6 (.t 1)),
    qo 16 (.load false 1 (.t 15)),
    qe 10 (.mark (.t 9)),
    .again ⟨(some 16), none, (.r (.load false 1 (.t 15)))⟩,
    .again ⟨(some 12), none, (.r (.load false 1 (.t 11)))⟩,
    qe 13 (.call 115 [(.t 10), (.t 12)]),
    .again ⟨(some 16), none, (.r (.load false 1 (.t 15)))⟩,
    qo 14 (.b2s (.t 13)),
    qo 17 (.bin .add (.t 14) (.t 16)),
    qm 2 17])
  .ret))) }
theorem tr_slot_name : trF cx Tryz.f114 = pf_slot_name := by kernel_rfl
/-- depot/pack.Num -/
def pf_pack_Num : PF := { ntmps := 9, results := [.tmp 4], body :=
  (.seq (.region [qo 4 (.mv (.c .nils))])
  (.seq (.region [qm 5 0,
    qe 6 (.call 170 [(.t 5), (.c (.int .i64 (.ofNat 10)))]),
    qm 7 1,
    qe 8 (.call 169 [(.t 6), (.t 7)]),
    qm 4 8])
  .ret)) }
theorem tr_pack_Num : trF cx Tryz.f115 = pf_pack_Num := by kernel_rfl
/-- (*depot/item.Store).Drop -/
def pf_item_Store_Drop : PF := { ntmps := 21, results := [.tmp 4], body :=
  (.seq (.region [qo 4 (.mv (.c (.bool false)))])
  (.seq (.region [qm 8 0,
    qo 9 (.nilck (.t 8)),
    qo 10 (.faddr 1 (.t 9)),
    qo 11 (.load false 1 (.t 10)),
    qm 12 1,
    qe 13 (.call 171 [(.t 11), (.t 12)]),
    qm 7 13,
    qo 14 (.ext 0 (.t 7)),
    qo 15 (.ext 1 (.t 7)),
    qm 5 14,
    qm 6 15])
  (.seq (.seq (.region [qm 16 6])
  (.cond (.t 16)
   (.region [qm 17 0,
     qm 18 5,
     qo 19 (.bad)])
   .skip))
  (.seq (.region [qm 20 6,
    qm 4 20])
  .ret)))) }
theorem tr_item_Store_Drop : trF cx Tryz.f116 = pf_item_Store_Drop := by kernel_rfl
def l0_slices_Index_int_int : PC :=
  (.seq (.region [qo 9 (.bin .lss (.t 8) (.t 7))])
  (.seq (.cond (.t 9)
   .skip
   (.exit 0))
  (.seq (.block 1 (.seq (.region [qm 10 8,
     qm 5 10])
   (.seq (.region [qm 11 1,
     qm 12 0,
     qm 13 5,
     qo 14 (.iasl 1 (.t 12) (.t 13)),
     qo 15 (.load false 1 (.t 14)),
     qo 16 (.bin .eql (.t 11) (.t 15))])
   (.cond (.t 16)
    (.seq (.region [qm 17 5,
      qm 4 17])
    .ret)
    .skip))))
  (.region [qo 18 (.bin .add (.t 8) (.c (.int .i64 (.ofNat 1)))),
    qm 8 18]))))
/-- slices.Index[[]int,int] -/
def pf_slices_Index_int_int : PF := { ntmps := 19, results := [.tmp 4], body :=
  (.seq (.region [qo 4 (.mv (.c (.int .i64 (.ofNat 0))))])
  (.seq (.seq (.region [qm 6 0,
    qo 7 (.lensl (.t 6)),
    qo 8 (.mv (.c (.int .i64 (.ofNat 0))))])
  (.block 0 (.loop l0_slices_Index_int_int)))
  (.seq (.region [qo 4 (.mv (.c (.int .i64 (.negSucc 0))))])
  .ret))) }
theorem tr_slices_Index_int_int : trF cx Tryz.f117 = pf_slices_Index_int_int := by kernel_rfl
def l0_fill_Fill_key : PC :=
  (.seq (.seq (.region [qm 5 0,
    qo 6 (.nilck (.t 5)),
    qo 7 (.faddr 12 (.t 6)),
    qo 8 (.load false 1 (.t 7)),
    qo 9 (.lensl (.t 8)),
    qo 10 (.bin .gtr (.t 9) (.c (.int .i64 (.ofNat 0))))])
  (.cond (.t 10)
   .skip
   (.exit 0)))
  (.block 1 (.seq (.region [qm 11 0,
     qo 12 (.nilck (.t 11)),
     qo 13 (.faddr 12 (.t 12)),
     qo 14 (.load false 1 (.t 13)),
     qo 15 (.iasl 1 (.t 14) (.c (.int .i64 (.ofNat 0)))),
     qo 16 (.load false 1 (.t 15)),
     qm 4 16])
   (.seq (.region [qm 17 0,
     qm 18 0,
     qo 19 (.nilck (.t 18)),
     qo 20 (.faddr 12 (.t 19)),
     qo 21 (.load false 1 (.t 20)),
     qo 22 (.slsl 1 (.t 21) (some (.c (.int .i64 (.ofNat 1)))) none none),
     qo 23 (.nilck (.t 17)),
     qo 24 (.faddr 12 (.t 23)),
     qx (.store 1 (.t 24) (.t 22))])
   (.seq (.seq (.region [qm 25 4,
     qm 26 0,
     qo 27 (.nilck (.t 26)),
     qo 28 (.faddr 0 (.t 27)),
     qo 29 (.faddr 0 (.t 28)),
     qo 30 (.load false 1 (.t 29)),
     qm 31 0,
     qo 32 (.nilck (.t 31)),
     qo 33 (.faddr 0 (.t 32)),
     qo 34 (.faddr 1 (.t 33)),
     qo 35 (.load false 1 (.t 34)),
     qo 36 (.bin .add (.t 30) (.t 35)),
     qm 37 0,
     qo 38 (.nilck (.t 37)),
     qo 39 (.faddr 0 (.t 38)),
     qo 40 (.faddr 3 (.t 39)),
     qo 41 (.load false 1 (.t 40)),
     qm 42 0,
     qo 43 (.nilck (.t 42)),
     qo 44 (.faddr 6 (.t 43)),
     qo 45 (.load false 1 (.t 44)),
     qe 46 (.call 130 [(.t 25), (.t 36), (.t 41), (.t 45)]),
     qo 47 (.bin .lss (.t 46) (.c (.int .i64 (.ofNat 0))))])
   (.cond (.t 47)
    (.exit 1)
    .skip))
   (.seq (.region [qm 48 4,
     qm 2 48,
     qo 3 (.mv (.c (.bool true)))])
   .ret))))))
/-- (*depot/fill.Fill).key -/
def pf_fill_Fill_key : PF := { ntmps := 49, results := [.tmp 2, .tmp 3], body :=
  (.seq (.region [qo 2 (.mv (.c (.str []))),
    qo 3 (.mv (.c (.bool false)))])
  (.scope (.seq .skip
   (.seq (.block 0 (.loop l0_fill_Fill_key))
   (.seq (.region [qo 2 (.mv (.c (.str []))),
     qo 3 (.mv (.c (.bool false)))])
   .ret))))) }
theorem tr_fill_Fill_key : trF cx Tryz.f120 = pf_fill_Fill_key := by kernel_rfl
/-- (*depot/view.View).State -/
def pf_view_View_State : PF := { ntmps := 9, results := [.tmp 4], body :=
  (.seq (.region [qo 4 (.mv (.c (.int .i64 (.ofNat 0))))])
  (.seq (.region [qm 5 0,
    qm 6 1,
    qe 7 (.call 122 [(.t 5), (.t 6)]),
    qo 8 (.fld false 1 0 (.t 7)),
    qm 4 8])
  .ret)) }
theorem tr_view_View_State : trF cx Tryz.f121 = pf_view_View_State := by kernel_rfl
/-- (*depot/view.View).of -/
def pf_view_View_of : PF := { ntmps := 24, results := [.cell 4 true 2], body :=
  (.seq (.region [qn 4 (.new 0 [(.int .i64 (.ofNat 0)), (.int .i64 (.ofNat 0))])])
  (.seq (.seq (.region [qm 5 1,
    qo 6 (.bin .lss (.t 5) (.c (.int .i64 (.ofNat 0)))),
    qm 7 6,
    qg 8 7 false 1,
    qg 9 7 false 0,
    qh 10 7 false (.nilck (.t 9)),
    qh 11 7 false (.faddr 0 (.t 10)),
    qh 12 7 false (.load false 1 (.t 11)),
    qh 13 7 false (.lensl (.t 12)),
    qh 14 7 false (.bin .geq (.t 8) (.t 13)),
    qo 15 (.pick (.t 7) (.c (.bool true)) (.t 14))])
  (.cond (.t 15)
   (.seq (.region [qo 16 (.build [(.int .i64 (.ofNat 0)), (.int .i64 (.ofNat 0))] []),
     qx (.store 2 (.t 4) (.t 16))])
   .ret)
   .skip))
  (.seq (.region [qm 17 0,
    qo 18 (.nilck (.t 17)),
    qo 19 (.faddr 0 (.t 18)),
    qo 20 (.load false 1 (.t 19)),
    qm 21 1,
    qo 22 (.iasl 2 (.t 20) (.t 21)),
    qo 23 (.load true 2 (.t 22)),
    qx (.store 2 (.t 4) (.t 23))])
  .ret))) }
theorem tr_view_View_of : trF cx Tryz.f122 = pf_view_View_of := by kernel_rfl
def l0_matrix_Identity : PC :=
  (.seq (.region [qo 16 (.bin .lss (.t 15) (.t 14))])
  (.seq (.cond (.t 16)
   .skip
   (.exit 0))
  (.seq (.block 1 (.seq (.region [qm 17 15,
     qm 4 17])
   (.seq (.region [qm 18 3,
     qm 19 4,
     qm 20 0,
     qn 21 (.mksl 2 1 1 [(.int .u8 (.ofNat 0))] (.t 20) (.t 20)),
     qo 22 (.iasl 1 (.t 18) (.t 19)),
     qx (.store 1 (.t 22) (.t 21))])
   (.region [qm 23 3,
     qm 24 4,
     qo 25 (.iasl 1 (.t 23) (.t 24)),
     qo 26 (.load false 1 (.t 25)),
     qm 27 4,
     qo 28 (.iasl 1 (.t 26) (.t 27)),
     qx (.store 1 (.t 28) (.c (.int .u8 (.ofNat 1))))]))))
  (.region [qo 29 (.bin .add (.t 15) (.c (.int .i64 (.ofNat 1)))),
    qm 15 29]))))
/-- depot/matrix.Identity -/
def pf_matrix_Identity : PF := { ntmps := 31, results := [.tmp 2], body :=
  (.seq (.region [qo 2 (.mv (.c .nils))])
  (.seq (.seq (.region [qm 5 0,
    qo 6 (.bin .lss (.t 5) (.c (.int .i64 (.ofNat 1)))),
    qm 7 6,
    qg 8 7 false 0,
    qh 9 7 false (.bin .gtr (.t 8) (.c (.int .i64 (.ofNat 12)))),
    qo 10 (.pick (.t 7) (.c (.bool true)) (.t 9))])
  (.cond (.t 10)
   (.seq (.region [qo 2 (.mv (.c .nils))])
   .ret)
   .skip))
  (.seq (.region [qm 11 0,
    qn 12 (.mksl 0 1 24 [.nils] (.t 11) (.t 11)),
    qm 3 12])
  (.seq (.seq (.region [qm 13 3,
    qo 14 (.lensl (.t 13)),
    qo 15 (.mv (.c (.int .i64 (.ofNat 0))))])
  (.block 0 (.loop l0_matrix_Identity)))
  (.seq (.region [qm 30 3,
    qm 2 30])
  .ret))))) }
theorem tr_matrix_Identity : trF cx Tryz.f123 = pf_matrix_Identity := by kernel_rfl
/-- depot/gf.Inv -/
def pf_gf_Inv : PF := { ntmps := 20, results := [.tmp 4], body :=
  (.seq (.region [qo 4 (.mv (.c (.int .u8 (.ofNat 0))))])
  (.seq (.seq (.region [qm 5 1,
    qo 6 (.bin .eql (.t 5) (.c (.int .u8 (.ofNat 0))))])
  (.cond (.t 6)
   (.seq (.region [qo 4 (.mv (.c (.int .u8 (.ofNat 0))))])
   .ret)
   .skip))
  (.seq (.region [qm 7 0,
    qm 8 0,
    qm 9 1,
    qo 10 (.nilck (.t 8)),
    qo 11 (.faddr 510 (.t 10)),
    qo 12 (.iaarr 256 1 (.t 11) (.t 9)),
    qo 13 (.load false 1 (.t 12)),
    qo 14 (.cint .i64 (.t 13)),
    qo 15 (.bin .sub (.c (.int .i64 (.ofNat 255))) (.t 14)),
    qo 16 (.nilck (.t 7)),
    qo 17 (.faddr 0 (.t 16)),
    qo 18 (.iaarr 510 1 (.t 17) (.t 15)),
    qo 19 (.load false 1 (.t 18)),
    qm 4 19])
  .ret))) }
theorem tr_gf_Inv : trF cx Tryz.f124 = pf_gf_Inv := by kernel_rfl
def l0_slices_IndexFunc_router_owner_router_owner : PC :=
  (.seq (.region [qo 9 (.bin .lss (.t 8) (.t 7))])
  (.seq (.cond (.t 9)
   .skip
   (.exit 0))
  (.seq (.block 1 (.seq (.region [qm 10 8,
     qm 5 10])
   (.seq (.region [qm 11 1,
     qm 12 0,
     qm 13 5,
     qo 14 (.iasl 6 (.t 12) (.t 13)),
     qo 15 (.load true 6 (.t 14)),
     qe 16 (.callv (.t 11) [(.t 15)])])
   (.cond (.t 16)
    (.seq (.region [qm 17 5,
      qm 4 17])
    .ret)
    .skip))))
  (.region [qo 18 (.bin .add (.t 8) (.c (.int .i64 (.ofNat 1)))),
    qm 8 18]))))
/-- slices.IndexFunc[[]depot/router.owner,depot/router.owner] -/
def pf_slices_IndexFunc_router_owner_router_owner : PF := { ntmps := 19, results := [.tmp 4], body :=
  (.seq (.region [qo 4 (.mv (.c (.int .i64 (.ofNat 0))))])
  (.seq (.seq (.region [qm 6 0,
    qo 7 (.lensl (.t 6)),
    qo 8 (.mv (.c (.int .i64 (.ofNat 0))))])
  (.block 0 (.loop l0_slices_IndexFunc_router_owner_router_owner)))
  (.seq (.region [qo 4 (.mv (.c (.int .i64 (.negSucc 0))))])
  .ret))) }
theorem tr_slices_IndexFunc_router_owner_router_owner : trF cx Tryz.f125 = pf_slices_IndexFunc_router_owner_router_owner := by kernel_rfl
/-- (*depot/router.Router).owned$1 -/
def pf_router_Router_owned_1 : PF := { ntmps := 8, results := [.tmp 3], body :=
  (.seq (.region [qn 2 (.box (.t 0)),
    qo 3 (.mv (.c (.bool false)))])
  (.seq (.region [qo 4 (.faddr 0 (.t 2)),
    qo 5 (.load false 1 (.t 4)),
    qo 6 (.load false 1 (.t 1)),
    qo 7 (.bin .eql (.t 5) (.t 6)),
    qm 3 7])
  .ret)) }
theorem tr_router_Router_owned_1 : trF cx Tryz.f126 = pf_router_Router_owned_1 := by kernel_rfl
/-- slices.Delete[[]depot/router.owner,depot/router.owner] -/
def pf_slices_Delete_router_owner_router_owner : PF := { ntmps := 33, results := [.tmp 6], body :=
  (.seq (.region [qo 6 (.mv (.c .nils))])
  (.seq (.region [qm 8 0,
    qm 9 1,
    qm 10 2,
    qm 11 0,
    qo 12 (.lensl (.t 11)),
    qo 13 (.slsl 6 (.t 8) (some (.t 9)) (some (.t 10)) (some (.t 12)))])
  (.seq (.seq (.region [qm 14 1,
    qm 15 2,
    qo 16 (.bin .eql (.t 14) (.t 15))])
  (.cond (.t 16)
   (.seq (.region [qm 17 0,
     qm 6 17])
   .ret)
   .skip))
  (.seq (.region [qm 18 0,
    qo 19 (.lensl (.t 18)),
    qm 7 19])
  (.seq (.region [qm 20 0,
    qm 21 1,
    qo 22 (.slsl 6 (.t 20) none (some (.t 21)) none),
    qm 23 0,
    qm 24 2,
    qo 25 (.slsl 6 (.t 23) (some (.t 24)) none none),
    qe 26 (.app 0 6 48 (.t 22) (.t 25)),
    qm 0 26])
  (.seq (.region [qm 27 0,
    qm 28 0,
    qo 29 (.lensl (.t 28)),
    qm 30 7,
    qo 31 (.slsl 6 (.t 27) (some (.t 29)) (some (.t 30)) none),
    qx (.clear [(.int .i64 (.ofNat 0)), (.int .i64 (.ofNat 0)), (.int .i64 (.ofNat 0)), (.bool false), (.int .i64 (.ofNat 0)), (.int .i64 (.ofNat 0))] (.t 31))])
  (.seq (.region [qm 32 0,
    qm 6 32])
  .ret))))))) }
theorem tr_slices_Delete_router_owner_router_owner : trF cx Tryz.f127 = pf_slices_Delete_router_owner_router_owner := by kernel_rfl
/-- slices.Clone[[]int,int] -/
def pf_slices_Clone_int_int : PF := { ntmps := 8, results := [.tmp 2], body :=
  (.seq (.region [qo 2 (.mv (.c .nils))])
  (.seq (.seq (.region [qm 3 0,
    qo 4 (.eqv false .s (.t 3) (.c .nils))])
  (.cond (.t 4)
   (.seq (.region [qo 2 (.mv (.c .nils))])
   .ret)
   .skip))
  (.seq (.region [qn 5 (.bslice 0 1 0 [] []),
    qm 6 0,
    qe 7 (.app 0 1 8 (.t 5) (.t 6)),
    qm 2 7])
  .ret))) }
theorem tr_slices_Clone_int_int : trF cx Tryz.f128 = pf_slices_Clone_int_int := by kernel_rfl
def l0_task_GetRecord : PC :=
  (.seq (.region [qo 20 (.bin .lss (.t 19) (.t 18))])
  (.seq (.cond (.t 20)
   .skip
   (.exit 0))
  (.seq (.block 1 (.seq (.region [qo 21 (.iasl 1 (.t 17) (.t 19)),
     qo 22 (.load false 1 (.t 21)),
     qm 7 22])
   (.region [qm 23 7,
     qm 24 4,
     qe 25 (.call 162 [(.t 24)]),
     qo 26 (.nilck (.t 23)),
     qx (.store 1 (.t 26) (.t 25))])))
  (.region [qo 27 (.bin .add (.t 19) (.c (.int .i64 (.ofNat 1)))),
    qm 19 27]))))
/-- depot/task.GetRecord -/
def pf_task_GetRecord : PF := { ntmps := 60, results := [.cell 2 true 5, .tmp 3], body :=
  (.seq (.region [qn 2 (.new 0 [(.int .i64 (.ofNat 0)), (.int .i64 (.ofNat 0)), (.int .i64 (.ofNat 0)), (.int .i64 (.ofNat 0)), (.int .i64 (.ofNat 0))]),
    qo 3 (.mv (.c (.bool false)))])
  (.seq (.region [qm 9 0,
    qn 10 (.s2b (.t 9)),
    qe 11 (.call 140 [(.t 10)]),
    qm 4 11])
  (.seq (.region [qn 5 (.new 0 [(.int .i64 (.ofNat 0)), (.int .i64 (.ofNat 0)), (.int .i64 (.ofNat 0)), (.int .i64 (.ofNat 0)), (.int .i64 (.ofNat 0))])])
  (.seq (.seq (.region [qo 12 (.faddr 0 (.t 5)),
    qo 13 (.faddr 1 (.t 5)),
    qo 14 (.faddr 2 (.t 5)),
    qo 15 (.faddr 3 (.t 5)),
    qo 16 (.faddr 4 (.t 5)),
    qn 17 (.bslice 0 1 5 [.nilp, .nilp, .nilp, .nilp, .nilp] [(0, 1, (.t 12)), (1, 1, (.t 13)), (2, 1, (.t 14)), (3, 1, (.t 15)), (4, 1, (.t 16))]),
    qo 18 (.lensl (.t 17)),
    qo 19 (.mv (.c (.int .i64 (.ofNat 0))))])
  (.block 0 (.loop l0_task_GetRecord)))
  (.seq (.region [qm 28 4,
    qe 29 (.call 183 [(.t 28)]),
    qo 30 (.bin .eql (.t 29) (.c (.int .i64 (.ofNat 0)))),
    qm 31 30,
    qh 32 31 true (.faddr 0 (.t 5)),
    qh 33 31 true (.load false 1 (.t 32)),
    .op ⟨(some 34), (some (31, true)), (.e (.call 51 [(.t 33), (.c (.int .i64 (.ofNat 0))), (.c (.int .i64 (.ofNat 1099511627776)))]))⟩,
    qo 35 (.pick (.t 31) (.t 34) (.c (.bool false))),
    qm 36 35,
    qh 37 36 true (.faddr 1 (.t 5)),
    qh 38 36 true (.load false 1 (.t 37)),
    .op ⟨(some 39), (some (36, true)), (.e (.call 51 [(.t 38), (.c (.int .i64 (.ofNat 0))), (.c (.int .i64 (.ofNat 1099511627776)))]))⟩,
    qo 40 (.pick (.t 36) (.t 39) (.c (.bool false))),
    qm 41 40,
    qh 42 41 true (.faddr 2 (.t 5)),
    qh 43 41 true (.load false 1 (.t 42)),
    .op ⟨(some 44), (some (41, true)), (.e (.call 51 [(.t 43), (.c (.int .i64 (.ofNat 0))), (.c (.int .i64 (.ofNat 4294967295)))]))⟩,
    qo 45 (.pick (.t 41) (.t 44) (.c (.bool false))),
    qm 46 45,
    qh 47 46 true (.faddr 3 (.t 5)),
    qh 48 46 true (.load false 1 (.t 47)),
    .op ⟨(some 49), (some (46, true)), (.e (.call 51 [(.t 48), (.c (.int .i64 (.negSucc 0))), (.c (.int .i64 (.ofNat 2199023255552)))]))⟩,
    qo 50 (.pick (.t 46) (.t 49) (.c (.bool false))),
    qm 51 50,
    qh 52 51 true (.faddr 4 (.t 5)),
    qh 53 51 true (.load false 1 (.t 52)),
    .op ⟨(some 54), (some (51, true)), (.e (.call 51 [(.t 53), (.c (.int .i64 (.ofNat 0))), (.c (.int .i64 (.ofNat 1048576)))]))⟩,
    qo 55 (.pick (.t 51) (.t 54) (.c (.bool false))),
    qm 8 55])
  (.seq (.seq (.region [qm 56 8,
    qo 57 (.un .not (.t 56))])
  (.cond (.t 57)
   (.seq (.region [qo 58 (.build [(.int .i64 (.ofNat 0)), (.int .i64 (.ofNat 0)), (.int .i64 (.ofNat 0)), (.int .i64 (.ofNat 0)), (.int .i64 (.ofNat 0))] []),
     qx (.store 5 (.t 2) (.t 58)),
     qo 3 (.mv (.c (.bool false)))])
   .ret)
   .skip))
  (.seq (.region [qo 59 (.load true 5 (.t 5)),
    qx (.store 5 (.t 2) (.t 59)),
    qo 3 (.mv (.c (.bool true)))])
  .ret))))))) }
theorem tr_task_GetRecord : trF cx Tryz.f129 = pf_task_GetRecord := by kernel_rfl
def l0_place_Position : PC :=
  (.seq (.region [qo 18 (.bin .lss (.t 17) (.t 16))])
  (.seq (.cond (.t 18)
   .skip
   (.exit 0))
  (.seq (.block 1 (.seq (.region [qm 19 17,
     qo 20 (.iasl 1 (.t 15) (.t 17)),
     qo 21 (.load false 1 (.t 20)),
     qm 10 19,
     qm 11 21])
   (.seq (.region [qm 22 11,
     qm 23 3,
     qo 24 (.bin .eql (.t 22) (.t 23))])
   (.cond (.t 24)
    (.seq (.region [qm 25 10,
      qm 9 25])
    (.exit 0))
    .skip))))
  (.region [qo 26 (.bin .add (.t 17) (.c (.int .i64 (.ofNat 1)))),
    qm 17 26]))))
/-- depot/place.Position -/
def pf_place_Position : PF := { ntmps := 28, results := [.tmp 8], body :=
  (.seq (.region [qo 8 (.mv (.c (.int .i64 (.ofNat 0))))])
  (.scope (.seq (.region [qo 9 (.mv (.c (.int .i64 (.negSucc 0))))])
   (.seq .skip
   (.seq (.seq (.region [qm 12 0,
     qm 13 1,
     qm 14 2,
     qe 15 (.call 184 [(.t 12), (.t 13), (.t 14)]),
     qo 16 (.lensl (.t 15)),
     qo 17 (.mv (.c (.int .i64 (.ofNat 0))))])
   (.block 0 (.loop l0_place_Position)))
   (.seq (.region [qm 27 9,
     qm 8 27])
   .ret)))))) }
theorem tr_place_Position : trF cx Tryz.f130 = pf_place_Position := by kernel_rfl
/-- (*depot/gather.Gather).Got -/
def pf_gather_Gather_Got : PF := { ntmps := 60, results := [.tmp 8], body :=
  (.seq (.region [qo 8 (.mv (.c (.bool false)))])
  (.seq (.seq (.region [qm 9 0,
    qo 10 (.nilck (.t 9)),
    qo 11 (.faddr 2 (.t 10)),
    qo 12 (.load false 1 (.t 11)),
    qm 13 0,
    qo 14 (.nilck (.t 13)),
    qo 15 (.faddr 3 (.t 14)),
    qo 16 (.load false 1 (.t 15)),
    qo 17 (.slsl 1 (.t 12) none (some (.t 16)) none),
    qm 18 1,
    qe 19 (.call 78 [(.t 17), (.t 18)]),
    qo 20 (.un .not (.t 19)),
    qm 21 20,
    qg 22 21 false 0,
    qh 23 21 false (.nilck (.t 22)),
    qh 24 21 false (.faddr 4 (.t 23)),
    qh 25 21 false (.load false 1 (.t 24)),
    qh 26 21 false (.bin .eql (.t 25) (.c (.int .i64 (.ofNat 0)))),
    qo 27 (.pick (.t 21) (.c (.bool true)) (.t 26))])
  (.cond (.t 27)
   (.seq (.region [qo 8 (.mv (.c (.bool false)))])
   .ret)
   .skip))
  (.seq (.region [qm 28 0,
    qo 29 (.nilck (.t 28)),
    qo 30 (.faddr 4 (.t 29)),
    qo 31 (.load false 1 (.t 30)),
    qo 32 (.bin .sub (.t 31) (.c (.int .i64 (.ofNat 1)))),
    qo 33 (.nilck (.t 28)),
    qo 34 (.faddr 4 (.t 33)),
    qx (.store 1 (.t 34) (.t 32))])
  (.seq (.seq (.region [qm 35 2,
    qm 36 35,
    qg 37 36 true 0,
    qh 38 36 true (.nilck (.t 37)),
    qh 39 36 true (.faddr 5 (.t 38)),
    qh 40 36 true (.load false 1 (.t 39)),
    qh 41 36 true (.lensl (.t 40)),
    qg 42 36 true 0,
    qh 43 36 true (.nilck (.t 42)),
    qh 44 36 true (.faddr 0 (.t 43)),
    qh 45 36 true (.load false 1 (.t 44)),
    qh 46 36 true (.bin .lss (.t 41) (.t 45)),
    qo 47 (.pick (.t 36) (.t 46) (.c (.bool false)))])
  (.cond (.t 47)
   (.region [qm 48 0,
     qm 49 0,
     qo 50 (.nilck (.t 49)),
     qo 51 (.faddr 5 (.t 50)),
     qo 52 (.load false 1 (.t 51)),
     qm 53 1,
     qm 54 3,
     qo 55 (.build [(.int .i64 (.ofNat 0)), (.str [])] [(0, 1, (.t 53)), (1, 1, (.t 54))]),
     qn 56 (.bslice 0 2 1 [(.int .i64 (.ofNat 0)), (.str [])] [(0, 2, (.t 55))]),
     qe 57 (.app 0 2 24 (.t 52) (.t 56)),
     qo 58 (.nilck (.t 48)),
     qo 59 (.faddr 5 (.t 58)),
     qx (.store 1 (.t 59) (.t 57))])
   .skip))
  (.seq (.region [qo 8 (.mv (.c (.bool true)))])
  .ret))))) }
theorem tr_gather_Gather_Got : trF cx Tryz.f131 = pf_gather_Gather_Got := by kernel_rfl
/-- (*depot/rs.Code).Size -/
def pf_rs_Code_Size : PF := { ntmps := 24, results := [.tmp 4], body :=
  (.seq (.region [qo 4 (.mv (.c (.int .i64 (.ofNat 0))))])
  (.seq (.seq (.region [qm 6 1,
    qo 7 (.bin .leq (.t 6) (.c (.int .i64 (.ofNat 0))))])
  (.cond (.t 7)
   (.seq (.region [qo 4 (.mv (.c (.int .i64 (.ofNat 0))))])
   .ret)
   .skip))
  (.seq (.region [qm 8 1,
    qm 9 0,
    qo 10 (.nilck (.t 9)),
    qo 11 (.faddr 0 (.t 10)),
    qo 12 (.load false 1 (.t 11)),
    qo 13 (.bin .quo (.t 8) (.t 12)),
    qm 5 13])
  (.seq (.seq (.region [qm 14 1,
    qm 15 0,
    qo 16 (.nilck (.t 15)),
    qo 17 (.faddr 0 (.t 16)),
    qo 18 (.load false 1 (.t 17)),
    qo 19 (.bin .rem (.t 14) (.t 18)),
    qo 20 (.bin .gtr (.t 19) (.c (.int .i64 (.ofNat 0))))])
  (.cond (.t 20)
   (.region [qm 21 5,
     qo 22 (.bin .add (.t 21) (.c (.int .i64 (.ofNat 1)))),
     qm 5 22])
   .skip))
  (.seq (.region [qm 23 5,
    qm 4 23])
  .ret))))) }
theorem tr_rs_Code_Size : trF cx Tryz.f132 = pf_rs_Code_Size := by kernel_rfl
def l0_task_Task_more : PC :=
  (.seq (.region [qo 11 (.bin .lss (.t 10) (.t 9))])
  (.seq (.cond (.t 11)
   .skip
   (.exit 0))
  (.seq (.block 1 (.seq (.region [qo 12 (.iasl 1 (.t 8) (.t 10)),
     qo 13 (.load false 1 (.t 12)),
     qm 3 13])
   (.region [qm 14 0,
     qm 15 0,
     qo 16 (.nilck (.t 15)),
     qo 17 (.faddr 19 (.t 16)),
     qo 18 (.load false 1 (.t 17)),
     qm 19 3,
     qo 20 (.iasl 1 (.t 18) (.t 19)),
     qo 21 (.load false 1 (.t 20)),
     qm 22 0,
     qo 23 (.nilck (.t 22)),
     qo 24 (.faddr 37 (.t 23)),
     qo 25 (.faddr 0 (.t 24)),
     qo 26 (.load false 1 (.t 25)),
     qo 27 (.build [(.int .i64 (.ofNat 0)), (.int .i64 (.ofNat 0)), (.int .i64 (.ofNat 0)), (.int .i64 (.ofNat 0)), (.int .i64 (.ofNat 0)), (.int .i64 (.ofNat 0)), (.str []), (.int .i64 (.ofNat 0)), (.str [])] [(0, 1, (.c (.int .i64 (.ofNat 2)))), (5, 1, (.c (.int .i64 (.ofNat 2)))), (7, 1, (.t 26))]),
     qe 28 (.call 186 [(.t 14), (.t 21), (.t 27)])])))
  (.region [qo 29 (.bin .add (.t 10) (.c (.int .i64 (.ofNat 1)))),
    qm 10 29]))))
/-- (*depot/task.Task).more -/
def pf_task_Task_more : PF := { ntmps := 30, results := [], body :=
  (.seq (.region [qm 4 0,
    qo 5 (.nilck (.t 4)),
    qo 6 (.faddr 44 (.t 5)),
    qo 7 (.load false 1 (.t 6)),
    qe 8 (.call 185 [(.t 7)]),
    qo 9 (.lensl (.t 8)),
    qo 10 (.mv (.c (.int .i64 (.ofNat 0))))])
  (.block 0 (.loop l0_task_Task_more))) }
theorem tr_task_Task_more : trF cx Tryz.f133 = pf_task_Task_more := by kernel_rfl
/-- (*depot/task.Task).on -/
def pf_task_Task_on : PF := { ntmps := 70, results := [], body :=
  (.seq (.region [qn 3 (.box (.t 1))])
  (.seq (.seq (.region [qm 4 0,
    qo 5 (.nilck (.t 4)),
    qo 6 (.faddr 21 (.t 5)),
    qo 7 (.load false 1 (.t 6)),
    qo 8 (.bin .eql (.t 7) (.c (.int .i64 (.ofNat 2))))])
  (.cond (.t 8)
   (.seq (.region [qm 9 0,
     qo 10 (.load true 14 (.t 3)),
     qe 11 (.call 187 [(.t 9), (.t 10)])])
   .ret)
   .skip))
  (.seq (.seq (.region [qm 12 0,
    qo 13 (.nilck (.t 12)),
    qo 14 (.faddr 22 (.t 13)),
    qo 15 (.load false 1 (.t 14)),
    qo 16 (.bin .gtr (.t 15) (.c (.int .i64 (.ofNat 0))))])
  (.cond (.t 16)
   .ret
   .skip))
  (.seq (.region [qm 17 0,
    qo 18 (.nilck (.t 17)),
    qo 19 (.faddr 21 (.t 18)),
    qo 20 (.load false 1 (.t 19))])
  (.block 0 (.seq (.region [qo 22 (.bin .eql (.t 20) (.c (.int .i64 (.ofNat 1)))),
     qm 21 22])
   (.cond (.t 21)
    (.region [qm 23 0,
      qo 24 (.load true 14 (.t 3)),
      qe 25 (.call 188 [(.t 23), (.t 24)])])
    (.seq (.region [qo 27 (.bin .eql (.t 20) (.c (.int .i64 (.ofNat 3)))),
      qm 26 27])
    (.cond (.t 26)
     (.region [qm 28 0,
       qo 29 (.load true 14 (.t 3)),
       qe 30 (.call 189 [(.t 28), (.t 29)])])
     (.seq (.region [qo 32 (.bin .eql (.t 20) (.c (.int .i64 (.ofNat 4)))),
       qm 31 32])
     (.cond (.t 31)
      (.region [qm 33 0,
        qo 34 (.load true 14 (.t 3)),
        qe 35 (.call 190 [(.t 33), (.t 34)])])
      (.seq (.region [qo 37 (.bin .eql (.t 20) (.c (.int .i64 (.ofNat 5)))),
        qm 36 37])
      (.cond (.t 36)
       (.seq (.region [qm 38 0,
         qo 39 (.nilck (.t 38)),
         qo 40 (.faddr 17 (.t 39)),
         qo 41 (.load false 1 (.t 40)),
         qo 42 (.bin .geq (.t 41) (.c (.int .i64 (.ofNat 0))))])
       (.cond (.t 42)
        (.region [qm 43 0,
          qo 44 (.load true 14 (.t 3)),
          qe 45 (.call 191 [(.t 43), (.t 44)])])
        (.region [qm 46 0,
          qo 47 (.load true 14 (.t 3)),
          qe 48 (.call 192 [(.t 46), (.t 47)])])))
       (.seq (.region [qo 50 (.bin .eql (.t 20) (.c (.int .i64 (.ofNat 6)))),
         qm 49 50])
       (.cond (.t 49)
        (.seq (.region [qm 51 0,
          qm 52 0,
          qo 53 (.nilck (.t 52)),
          qo 54 (.faddr 52 (.t 53)),
          qo 55 (.load true 9 (.t 54)),
          qe 56 (.call 193 [(.t 51), (.t 55)])])
        (.region [qm 57 0,
          qo 58 (.load true 14 (.t 3)),
          qe 59 (.call 191 [(.t 57), (.t 58)])]))
        (.seq (.region [qo 61 (.bin .eql (.t 20) (.c (.int .i64 (.ofNat 7)))),
          qm 60 61])
        (.cond (.t 60)
         (.region [qm 62 0,
           qo 63 (.load true 14 (.t 3)),
           qe 64 (.call 191 [(.t 62), (.t 63)])])
         (.seq (.region [qo 66 (.bin .eql (.t 20) (.c (.int .i64 (.ofNat 8)))),
           qm 65 66])
         (.cond (.t 65)
          (.region [qm 67 0,
            qo 68 (.nilck (.t 67)),
            qo 69 (.faddr 21 (.t 68)),
            qx (.store 1 (.t 69) (.c (.int .i64 (.ofNat 9))))])
          .skip))))))))))))))))))) }
theorem tr_task_Task_on : trF cx Tryz.f134 = pf_task_Task_on := by kernel_rfl
/-- (*depot/task.Task).Phase -/
def pf_task_Task_Phase : PF := { ntmps := 7, results := [.tmp 2], body :=
  (.seq (.region [qo 2 (.mv (.c (.int .i64 (.ofNat 0))))])
  (.seq (.region [qm 3 0,
    qo 4 (.nilck (.t 3)),
    qo 5 (.faddr 21 (.t 4)),
    qo 6 (.load false 1 (.t 5)),
    qm 2 6])
  .ret)) }
theorem tr_task_Task_Phase : trF cx Tryz.f135 = pf_task_Task_Phase := by kernel_rfl
/-- (*depot/task.Task).Take -/
def pf_task_Task_Take : PF := { ntmps := 12, results := [.tmp 2], body :=
  (.seq (.region [qo 2 (.mv (.c .nils))])
  (.seq (.region [qm 4 0,
    qo 5 (.nilck (.t 4)),
    qo 6 (.faddr 36 (.t 5)),
    qo 7 (.load false 1 (.t 6)),
    qm 3 7])
  (.seq (.region [qm 8 0,
    qo 9 (.nilck (.t 8)),
    qo 10 (.faddr 36 (.t 9)),
    qx (.store 1 (.t 10) (.c .nils))])
  (.seq (.region [qm 11 3,
    qm 2 11])
  .ret)))) }
theorem tr_task_Task_Take : trF cx Tryz.f136 = pf_task_Task_Take := by kernel_rfl
/-- (*depot/task.Task).Answer -/
def pf_task_Task_Answer : PF := { ntmps := 14, results := [.cell 2 true 9, .tmp 3], body :=
  (.seq (.region [qn 2 (.new 0 [(.int .i64 (.ofNat 0)), .nils, (.bool false), (.int .u64 (.ofNat 0)), (.str []), (.int .i64 (.ofNat 0)), (.int .i64 (.ofNat 0)), (.int .i64 (.ofNat 0)), (.int .i64 (.ofNat 0))]),
    qo 3 (.mv (.c (.bool false)))])
  (.seq (.seq (.region [qm 4 0,
    qo 5 (.nilck (.t 4)),
    qo 6 (.faddr 70 (.t 5)),
    qo 7 (.load false 1 (.t 6)),
    qo 8 (.un .not (.t 7))])
  (.cond (.t 8)
   (.seq (.region [qo 9 (.build [(.int .i64 (.ofNat 0)), .nils, (.bool false), (.int .u64 (.ofNat 0)), (.str []), (.int .i64 (.ofNat 0)), (.int .i64 (.ofNat 0)), (.int .i64 (.ofNat 0)), (.int .i64 (.ofNat 0))] []),
     qx (.store 9 (.t 2) (.t 9)),
     qo 3 (.mv (.c (.bool false)))])
   .ret)
   .skip))
  (.seq (.region [qm 10 0,
    qo 11 (.nilck (.t 10)),
    qo 12 (.faddr 61 (.t 11)),
    qo 13 (.load true 9 (.t 12)),
    qx (.store 9 (.t 2) (.t 13)),
    qo 3 (.mv (.c (.bool true)))])
  .ret))) }
theorem tr_task_Task_Answer : trF cx Tryz.f137 = pf_task_Task_Answer := by kernel_rfl
def l0_router_Router_tell : PC :=
  (.seq (.region [qo 74 (.bin .lss (.t 73) (.t 72))])
  (.seq (.cond (.t 74)
   .skip
   (.exit 0))
  (.seq (.block 1 (.seq (.region [qo 75 (.iasl 1 (.t 71) (.t 73)),
     qo 76 (.load false 1 (.t 75)),
     qm 9 76])
   (.region [qm 77 7,
     qm 78 7,
     qo 79 (.nilck (.t 78)),
     qo 80 (.faddr 2 (.t 79)),
     qo 81 (.faddr 1 (.t 80)),
     qo 82 (.load false 1 (.t 81)),
     qm 83 9,
     qe 84 (.app 0 4 48 (.t 82) (.t 83)),
     qo 85 (.nilck (.t 77)),
     qo 86 (.faddr 2 (.t 85)),
     qo 87 (.faddr 1 (.t 86)),
     qx (.store 1 (.t 87) (.t 84))])))
  (.region [qo 88 (.bin .add (.t 73) (.c (.int .i64 (.ofNat 1)))),
    qm 73 88]))))
/-- (*depot/router.Router).tell -/
def pf_router_Router_tell : PF := { ntmps := 110, results := [], body :=
  (.seq (.region [qn 4 (.box (.t 1)),
    qn 5 (.box (.t 2))])
  (.seq (.region [qm 10 0,
    qo 11 (.nilck (.t 10)),
    qo 12 (.faddr 14 (.t 11)),
    qo 13 (.load false 1 (.t 12)),
    qo 14 (.mkfn 195 [(.t 4)]),
    qe 15 (.call 194 [(.t 13), (.t 14)]),
    qm 6 15])
  (.seq (.seq (.region [qm 16 6,
    qo 17 (.bin .lss (.t 16) (.c (.int .i64 (.ofNat 0))))])
  (.cond (.t 17)
   .ret
   .skip))
  (.seq (.region [qm 18 0,
    qo 19 (.nilck (.t 18)),
    qo 20 (.faddr 14 (.t 19)),
    qo 21 (.load false 1 (.t 20)),
    qm 22 6,
    qo 23 (.iasl 1 (.t 21) (.t 22)),
    qo 24 (.load false 1 (.t 23)),
    qm 7 24])
  (.seq (.region [qm 25 7,
    qo 26 (.nilck (.t 25)),
    qo 27 (.faddr 1 (.t 26)),
    qo 28 (.load false 1 (.t 27)),
    qo 29 (.bin .sub (.t 28) (.c (.int .i64 (.ofNat 1)))),
    qo 30 (.nilck (.t 25)),
    qo 31 (.faddr 1 (.t 30)),
    qx (.store 1 (.t 31) (.t 29))])
  (.seq (.seq (.region [qm 32 7,
    qo 33 (.nilck (.t 32)),
    qo 34 (.faddr 11 (.t 33)),
    qo 35 (.load false 1 (.t 34)),
    qo 36 (.lensl (.t 35)),
    qo 37 (.bin .gtr (.t 36) (.c (.int .i64 (.ofNat 0))))])
  (.cond (.t 37)
   (.seq (.region [qm 38 7,
     qo 39 (.nilck (.t 38)),
     qo 40 (.faddr 11 (.t 39)),
     qo 41 (.load false 1 (.t 40)),
     qo 42 (.faddr 11 (.t 4)),
     qo 43 (.load false 1 (.t 42)),
     qo 44 (.faddr 1 (.t 5)),
     qo 45 (.load false 1 (.t 44)),
     qo 46 (.iasl 1 (.t 41) (.t 43)),
     qx (.store 1 (.t 46) (.t 45))])
   (.region [qm 47 0,
     qo 48 (.nilck (.t 47)),
     qo 49 (.faddr 29 (.t 48)),
     qo 50 (.iaarr 3 1 (.t 49) (.c (.int .i64 (.ofNat 2)))),
     qo 51 (.load false 1 (.t 50)),
     qo 52 (.faddr 1 (.t 5)),
     qo 53 (.load false 1 (.t 52)),
     qo 54 (.lensl (.t 53)),
     qo 55 (.bin .add (.t 51) (.t 54)),
     qo 56 (.nilck (.t 47)),
     qo 57 (.faddr 29 (.t 56)),
     qo 58 (.iaarr 3 1 (.t 57) (.c (.int .i64 (.ofNat 2)))),
     qx (.store 1 (.t 58) (.t 55))]))
   (.region [qm 59 7,
     qo 60 (.load true 9 (.t 5)),
     qo 61 (.nilck (.t 59)),
     qo 62 (.faddr 2 (.t 61)),
     qx (.store 9 (.t 62) (.t 60))])))
  (.seq (.seq (.region [qm 63 7,
    qo 64 (.nilck (.t 63)),
    qo 65 (.faddr 1 (.t 64)),
    qo 66 (.load false 1 (.t 65)),
    qo 67 (.bin .gtr (.t 66) (.c (.int .i64 (.ofNat 0))))])
  (.cond (.t 67)
   .ret
   .skip))
  (.seq (.seq (.region [qm 68 7,
    qo 69 (.nilck (.t 68)),
    qo 70 (.faddr 11 (.t 69)),
    qo 71 (.load false 1 (.t 70)),
    qo 72 (.lensl (.t 71)),
    qo 73 (.mv (.c (.int .i64 (.ofNat 0))))])
  (.block 0 (.loop l0_router_Router_tell)))
  (.seq (.region [qm 89 0,
    qm 90 0,
    qo 91 (.nilck (.t 90)),
    qo 92 (.faddr 14 (.t 91)),
    qo 93 (.load false 1 (.t 92)),
    qm 94 6,
    qm 95 6,
    qo 96 (.bin .add (.t 95) (.c (.int .i64 (.ofNat 1)))),
    qe 97 (.call 196 [(.t 93), (.t 94), (.t 96)]),
    qo 98 (.nilck (.t 89)),
    qo 99 (.faddr 14 (.t 98)),
    qx (.store 1 (.t 99) (.t 97))])
  (.region [qm 100 0,
    qm 101 7,
    qo 102 (.nilck (.t 101)),
    qo 103 (.faddr 0 (.t 102)),
    qo 104 (.load false 1 (.t 103)),
    qm 105 7,
    qo 106 (.nilck (.t 105)),
    qo 107 (.faddr 2 (.t 106)),
    qo 108 (.load true 9 (.t 107)),
    qe 109 (.call 64 [(.t 100), (.t 104), (.t 108)])])))))))))) }
theorem tr_router_Router_tell : trF cx Tryz.f138 = pf_router_Router_tell := by kernel_rfl
def l0_router_Router_over : PC :=
  (.seq (.region [qo 23 (.bin .lss (.t 22) (.c (.int .i64 (.ofNat 12))))])
  (.seq (.cond (.t 23)
   .skip
   (.exit 0))
  (.seq (.block 1 (.seq (.region [qo 24 (.ixagg 12 false 1 (.t 21) (.t 22)),
     qm 5 24])
   (.seq (.region [qm 25 5,
     qo 26 (.eqc true (.t 25) (.c .nilp))])
   (.cond (.t 26)
    (.region [qm 27 5,
      qo 28 (.load false 1 (.t 3)),
      qo 29 (.nilck (.t 28)),
      qo 30 (.faddr 0 (.t 29)),
      qo 31 (.load false 1 (.t 30)),
      qo 32 (.bad)])
    .skip))))
  (.region [qo 33 (.bin .add (.t 22) (.c (.int .i64 (.ofNat 1)))),
    qm 22 33]))))
/-- (*depot/router.Router).over -/
def pf_router_Router_over : PF := { ntmps := 100, results := [], body :=
  (.seq (.region [qn 3 (.box (.t 1))])
  (.seq (.region [qm 9 0,
    qm 10 0,
    qo 11 (.nilck (.t 10)),
    qo 12 (.faddr 11 (.t 11)),
    qo 13 (.load false 1 (.t 12)),
    qo 14 (.mkfn 198 [(.t 3)]),
    qe 15 (.call 197 [(.t 13), (.t 14)]),
    qo 16 (.nilck (.t 9)),
    qo 17 (.faddr 11 (.t 16)),
    qx (.store 1 (.t 17) (.t 15))])
  (.seq (.seq (.region [qm 18 0,
    qo 19 (.nilck (.t 18)),
    qo 20 (.faddr 15 (.t 19)),
    qo 21 (.load true 12 (.t 20)),
    qo 22 (.mv (.c (.int .i64 (.ofNat 0))))])
  (.block 0 (.loop l0_router_Router_over)))
  (.seq (.seq (.region [qo 34 (.load false 1 (.t 3)),
    qo 35 (.nilck (.t 34)),
    qo 36 (.faddr 1 (.t 35)),
    qo 37 (.faddr 12 (.t 36)),
    qo 38 (.load false 1 (.t 37)),
    qm 6 38])
  (.seq (.region [qm 39 6,
    qo 40 (.bin .geq (.t 39) (.c (.int .i64 (.ofNat 0)))),
    qm 41 40,
    qg 42 41 true 0,
    qg 43 41 true 6,
    qh 44 41 true (.nilck (.t 42)),
    qh 45 41 true (.faddr 15 (.t 44)),
    qh 46 41 true (.iaarr 12 1 (.t 45) (.t 43)),
    qh 47 41 true (.load false 1 (.t 46)),
    qh 48 41 true (.eqc true (.t 47) (.c .nilp)),
    qo 49 (.pick (.t 41) (.t 48) (.c (.bool false))),
    qm 50 49,
    qg 51 50 true 0,
    qh 52 50 true (.nilck (.t 51)),
    qh 53 50 true (.faddr 6 (.t 52)),
    qh 54 50 true (.load false 1 (.t 53)),
    qg 55 50 true 6,
    qh 57 50 true (.load false 1 (.t 3)),
    qh 58 50 true (.nilck (.t 57)),
    qh 59 50 true (.faddr 1 (.t 58)),
    qh 60 50 true (.faddr 13 (.t 59)),
    qh 61 50 true (.load false 1 (.t 60)),
    .op ⟨(some 56), (some (50, true)), (.e (.call 82 [(.t 54), (.t 55)]))⟩,
    .again ⟨(some 61), (some (50, true)), (.r (.load false 1 (.t 60)))⟩,
    .again ⟨(some 57), (some (50, true)), (.r (.load false 1 (.t 3)))⟩,
    qh 62 50 true (.bin .eql (.t 56) (.t 61)),
    qo 63 (.pick (.t 50) (.t 62) (.c (.bool false)))])
  (.cond (.t 63)
   (.region [qm 64 0,
     qm 65 6,
     qo 66 (.nilck (.t 64)),
     qo 67 (.faddr 15 (.t 66)),
     qo 68 (.iaarr 12 1 (.t 67) (.t 65)),
     qo 69 (.load false 1 (.t 68)),
     qo 70 (.bad)])
   .skip)))
  (.seq (.region [qm 71 0,
    qo 72 (.nilck (.t 71)),
    qo 73 (.faddr 12 (.t 72)),
    qo 74 (.load false 1 (.t 73)),
    qo 75 (.mkfn 202 [(.t 3)]),
    qe 76 (.call 201 [(.t 74), (.t 75)]),
    qm 7 76])
  (.seq (.region [qm 77 7,
    qo 78 (.bin .geq (.t 77) (.c (.int .i64 (.ofNat 0))))])
  (.cond (.t 78)
   (.seq (.region [qm 79 0,
     qo 80 (.nilck (.t 79)),
     qo 81 (.faddr 12 (.t 80)),
     qo 82 (.load false 1 (.t 81)),
     qm 83 7,
     qo 84 (.iasl 14 (.t 82) (.t 83)),
     qo 85 (.load true 14 (.t 84)),
     qn 8 (.new 0 [(.str []), (.int .i64 (.ofNat 0)), .nils, (.int .i64 (.ofNat 0)), (.int .i64 (.ofNat 0)), (.int .i64 (.ofNat 0)), (.int .i64 (.ofNat 0)), (.int .u64 (.ofNat 0)), (.bool false), (.str []), (.int .i64 (.ofNat 0)), (.int .i64 (.ofNat 0)), (.int .i64 (.ofNat 0)), (.int .i64 (.ofNat 0))]),
     qx (.store 14 (.t 8) (.t 85))])
   (.seq (.region [qm 86 0,
     qm 87 0,
     qo 88 (.nilck (.t 87)),
     qo 89 (.faddr 12 (.t 88)),
     qo 90 (.load false 1 (.t 89)),
     qm 91 7,
     qm 92 7,
     qo 93 (.bin .add (.t 92) (.c (.int .i64 (.ofNat 1)))),
     qe 94 (.call 203 [(.t 90), (.t 91), (.t 93)]),
     qo 95 (.nilck (.t 86)),
     qo 96 (.faddr 12 (.t 95)),
     qx (.store 1 (.t 96) (.t 94))])
   (.region [qm 97 0,
     qo 98 (.load true 14 (.t 8)),
     qe 99 (.call 106 [(.t 97), (.t 98)])])))
   .skip))))))) }
theorem tr_router_Router_over : trF cx Tryz.f139 = pf_router_Router_over := by kernel_rfl
/-- depot/pack.Read -/
def pf_pack_Read : PF := { ntmps := 7, results := [.tmp 2], body :=
  (.seq (.region [qo 2 (.mv (.c .nilp))])
  (.seq (.region [qm 3 0,
    qe 4 (.call 170 [(.t 3), (.c (.int .i64 (.ofNat 0)))]),
    qo 5 (.build [.nils, (.int .i64 (.ofNat 0)), (.int .i64 (.ofNat 0))] [(0, 1, (.t 4))]),
    qn 6 (.box (.t 5)),
    qm 2 6])
  .ret)) }
theorem tr_pack_Read : trF cx Tryz.f140 = pf_pack_Read := by kernel_rfl
/-- (*depot/pack.Reader).At -/
def pf_pack_Reader_At : PF := { ntmps := 7, results := [.tmp 2], body :=
  (.seq (.region [qo 2 (.mv (.c (.int .i64 (.ofNat 0))))])
  (.seq (.region [qm 3 0,
    qo 4 (.nilck (.t 3)),
    qo 5 (.faddr 1 (.t 4)),
    qo 6 (.load false 1 (.t 5)),
    qm 2 6])
  .ret)) }
theorem tr_pack_Reader_At : trF cx Tryz.f141 = pf_pack_Reader_At := by kernel_rfl
/-- depot/answer.number -/
def pf_answer_number : PF := { ntmps := 6, results := [.tmp 2], body :=
  (.seq (.region [qo 2 (.mv (.c (.str [])))])
  (.seq (.region [qm 3 0,
    qo 4 (.minmax true [(.t 3), (.c (.int .i64 (.ofNat 0)))]),
    qe 5 (.call 145 [(.t 4)]),
    qm 2 5])
  .ret)) }
theorem tr_answer_number : trF cx Tryz.f144 = pf_answer_number := by kernel_rfl
/-- strconv.Itoa -/
def pf_strconv_Itoa : PF := { ntmps := 5, results := [.tmp 2], body :=
  (.seq (.region [qo 2 (.mv (.c (.str [])))])
  (.seq (.region [qm 3 0,
    qe 4 (.call 206 [(.t 3)]),
    qm 2 4])
  .ret)) }
theorem tr_strconv_Itoa : trF cx Tryz.f145 = pf_strconv_Itoa := by kernel_rfl
/-- (*strings.Builder).WriteString -/
def pf_strings_Builder_WriteString : PF := { ntmps := 19, results := [.tmp 4, .tmp 5], body :=
  (.seq (.region [qo 4 (.mv (.c (.int .i64 (.ofNat 0)))),
    qo 5 (.mv (.c .nili))])
  (.seq (.region [qm 6 0,
    qe 7 (.call 207 [(.t 6)])])
  (.seq (.region [qm 8 0,
    qm 9 0,
    qo 10 (.nilck (.t 9)),
    qo 11 (.faddr 1 (.t 10)),
    qo 12 (.load false 1 (.t 11)),
    qm 13 1,
    qe 14 (.app 2 1 1 (.t 12) (.t 13)),
    qo 15 (.nilck (.t 8)),
    qo 16 (.faddr 1 (.t 15)),
    qx (.store 1 (.t 16) (.t 14))])
  (.seq (.region [qm 17 1,
    qo 18 (.lens (.t 17)),
    qm 4 18,
    qo 5 (.mv (.c .nili))])
  .ret)))) }
theorem tr_strings_Builder_WriteString : trF cx Tryz.f146 = pf_strings_Builder_WriteString := by kernel_rfl
def l0_strings_Join : PC :=
  (.seq (.region [qo 42 (.bin .lss (.t 41) (.t 40))])
  (.seq (.cond (.t 42)
   .skip
   (.exit 1))
  (.seq (.block 2 (.seq (.region [qo 43 (.iasl 1 (.t 39) (.t 41)),
     qo 44 (.load false 1 (.t 43)),
     qm 7 44])
   (.seq (.seq (.region [qm 45 7,
     qo 46 (.lens (.t 45)),
     qm 47 5,
     qo 48 (.bin .sub (.c (.int .i64 (.ofNat 9223372036854775807))) (.t 47)),
     qo 49 (.bin .gtr (.t 46) (.t 48))])
   (.cond (.t 49)
    (.region [qo 50 (.bad),
      .op ⟨none, none, (.r (.bad))⟩])
    .skip))
   (.region [qm 51 5,
     qm 52 7,
     qo 53 (.lens (.t 52)),
     qo 54 (.bin .add (.t 51) (.t 53)),
     qm 5 54]))))
  (.region [qo 55 (.bin .add (.t 41) (.c (.int .i64 (.ofNat 1)))),
    qm 41 55]))))
def l1_strings_Join : PC :=
  (.seq (.region [qo 66 (.bin .lss (.t 65) (.t 64))])
  (.seq (.cond (.t 66)
   .skip
   (.exit 3))
  (.seq (.block 4 (.seq (.region [qo 67 (.iasl 1 (.t 63) (.t 65)),
     qo 68 (.load false 1 (.t 67)),
     qm 10 68])
   (.seq (.region [qm 69 1,
     qe 70 (.call 146 [(.t 8), (.t 69)])])
   (.region [qm 71 10,
     qe 72 (.call 146 [(.t 8), (.t 71)])]))))
  (.region [qo 73 (.bin .add (.t 65) (.c (.int .i64 (.ofNat 1)))),
    qm 65 73]))))
/-- strings.Join -/
def pf_strings_Join : PF := { ntmps := 75, results := [.tmp 4], body :=
  (.seq (.region [qo 4 (.mv (.c (.str [])))])
  (.seq (.seq (.region [qm 11 0,
    qo 12 (.lensl (.t 11))])
  (.block 0 (.seq (.region [qo 14 (.bin .eql (.t 12) (.c (.int .i64 (.ofNat 0)))),
     qm 13 14])
   (.cond (.t 13)
    (.seq (.region [qo 4 (.mv (.c (.str [])))])
    .ret)
    (.seq (.region [qo 16 (.bin .eql (.t 12) (.c (.int .i64 (.ofNat 1)))),
      qm 15 16])
    (.cond (.t 15)
     (.seq (.region [qm 17 0,
       qo 18 (.iasl 1 (.t 17) (.c (.int .i64 (.ofNat 0)))),
       qo 19 (.load false 1 (.t 18)),
       qm 4 19])
     .ret)
     .skip))))))
  (.seq (.region [qo 5 (.mv (.c (.int .i64 (.ofNat 0))))])
  (.seq (.seq (.region [qm 20 1,
    qo 21 (.lens (.t 20)),
    qo 22 (.bin .gtr (.t 21) (.c (.int .i64 (.ofNat 0))))])
  (.cond (.t 22)
   (.seq (.seq (.region [qm 23 1,
     qo 24 (.lens (.t 23)),
     qm 25 0,
     qo 26 (.lensl (.t 25)),
     qo 27 (.bin .sub (.t 26) (.c (.int .i64 (.ofNat 1)))),
     qo 28 (.bin .quo (.c (.int .i64 (.ofNat 9223372036854775807))) (.t 27)),
     qo 29 (.bin .geq (.t 24) (.t 28))])
   (.cond (.t 29)
    (.region [qo 30 (.bad),
      .op ⟨none, none, (.r (.bad))⟩])
    .skip))
   (.region [qm 31 5,
     qm 32 1,
     qo 33 (.lens (.t 32)),
     qm 34 0,
     qo 35 (.lensl (.t 34)),
     qo 36 (.bin .sub (.t 35) (.c (.int .i64 (.ofNat 1)))),
     qo 37 (.bin .mul (.t 33) (.t 36)),
     qo 38 (.bin .add (.t 31) (.t 37)),
     qm 5 38]))
   .skip))
  (.seq (.seq (.region [qm 39 0,
    qo 40 (.lensl (.t 39)),
    qo 41 (.mv (.c (.int .i64 (.ofNat 0))))])
  (.block 1 (.loop l0_strings_Join)))
  (.seq (.region [qn 8 (.new 1 [.nilp, .nils])])
  (.seq (.region [qm 56 5,
    qe 57 (.call 208 [(.t 8), (.t 56)])])
  (.seq (.region [qm 58 0,
    qo 59 (.iasl 1 (.t 58) (.c (.int .i64 (.ofNat 0)))),
    qo 60 (.load false 1 (.t 59)),
    qe 61 (.call 146 [(.t 8), (.t 60)])])
  (.seq (.seq (.region [qm 62 0,
    qo 63 (.slsl 1 (.t 62) (some (.c (.int .i64 (.ofNat 1)))) none none),
    qo 64 (.lensl (.t 63)),
    qo 65 (.mv (.c (.int .i64 (.ofNat 0))))])
  (.block 3 (.loop l1_strings_Join)))
  (.seq (.region [qe 74 (.call 148 [(.t 8)]),
    qm 4 74])
  .ret)))))))))) }
theorem tr_strings_Join : trF cx Tryz.f147 = pf_strings_Join := by kernel_rfl
/-- (*strings.Builder).String -/
def pf_strings_Builder_String : PF := { ntmps := 14, results := [.tmp 2], body :=
  (.seq (.region [qo 2 (.mv (.c (.str [])))])
  (.seq (.region [qm 3 0,
    qo 4 (.nilck (.t 3)),
    qo 5 (.faddr 1 (.t 4)),
    qo 6 (.load false 1 (.t 5)),
    qo 7 (.sdata (.t 6)),
    qm 8 0,
    qo 9 (.nilck (.t 8)),
    qo 10 (.faddr 1 (.t 9)),
    qo 11 (.load false 1 (.t 10)),
    qo 12 (.lensl (.t 11)),
    qe 13 (.ustr (.t 7) (.t 12)),
    qm 2 13])
  .ret)) }
theorem tr_strings_Builder_String : trF cx Tryz.f148 = pf_strings_Builder_String := by kernel_rfl
/-- internal/stringslite.IndexByte -/
def pf_internal_stringslite_IndexByte : PF := { ntmps := 8, results := [.tmp 4], body :=
  (.seq (.region [qo 4 (.mv (.c (.int .i64 (.ofNat 0))))])
  (.seq (.region [qm 5 0,
    qm 6 1,
    qo 7 (.index (.t 5) (.t 6)),
    qm 4 7])
  .ret)) }
theorem tr_internal_stringslite_IndexByte : trF cx Tryz.f150 = pf_internal_stringslite_IndexByte := by kernel_rfl
/-- internal/stringslite.TrimSuffix -/
def pf_internal_stringslite_TrimSuffix : PF := { ntmps := 16, results := [.tmp 4], body :=
  (.seq (.region [qo 4 (.mv (.c (.str [])))])
  (.seq (.seq (.region [qm 5 0,
    qm 6 1,
    qe 7 (.call 214 [(.t 5), (.t 6)])])
  (.cond (.t 7)
   (.seq (.region [qm 8 0,
     qm 9 0,
     qo 10 (.lens (.t 9)),
     qm 11 1,
     qo 12 (.lens (.t 11)),
     qo 13 (.bin .sub (.t 10) (.t 12)),
     qo 14 (.slstr (.t 8) none (some (.t 13))),
     qm 4 14])
   .ret)
   .skip))
  (.seq (.region [qm 15 0,
    qm 4 15])
  .ret))) }
theorem tr_internal_stringslite_TrimSuffix : trF cx Tryz.f151 = pf_internal_stringslite_TrimSuffix := by kernel_rfl
def l0_words_Split : PC :=
  (.seq (.seq (.region [qm 6 5,
    qm 7 0,
    qo 8 (.lens (.t 7)),
    qo 9 (.bin .leq (.t 6) (.t 8))])
  (.cond (.t 9)
   .skip
   (.exit 0)))
  (.seq (.block 1 (.seq (.seq (.region [qm 12 5,
     qm 13 0,
     qo 14 (.lens (.t 13)),
     qo 15 (.bin .lss (.t 12) (.t 14)),
     qm 16 15,
     qg 17 16 true 0,
     qg 18 16 true 5,
     qh 19 16 true (.ixstr (.t 17) (.t 18)),
     qh 20 16 true (.bin .neq (.t 19) (.c (.int .u8 (.ofNat 32)))),
     qo 21 (.pick (.t 16) (.t 20) (.c (.bool false)))])
   (.cond (.t 21)
    (.exit 1)
    .skip))
   (.seq (.seq (.region [qm 22 5,
     qm 23 4,
     qo 24 (.bin .gtr (.t 22) (.t 23))])
   (.cond (.t 24)
    (.region [qm 25 3,
      qm 26 0,
      qm 27 4,
      qm 28 5,
      qo 29 (.slstr (.t 26) (some (.t 27)) (some (.t 28))),
      qn 30 (.bslice 0 1 1 [(.str [])] [(0, 1, (.t 29))]),
      qe 31 (.app 0 1 16 (.t 25) (.t 30)),
      qm 3 31])
    .skip))
   (.region [qm 32 5,
     qo 33 (.bin .add (.t 32) (.c (.int .i64 (.ofNat 1)))),
     qm 4 33]))))
  (.region [qm 10 5,
    qo 11 (.bin .add (.t 10) (.c (.int .i64 (.ofNat 1)))),
    qm 5 11])))
/-- depot/words.Split -/
def pf_words_Split : PF := { ntmps := 35, results := [.tmp 2], body :=
  (.seq (.region [qo 2 (.mv (.c .nils))])
  (.scope (.seq (.region [qo 3 (.mv (.c .nils))])
   (.seq (.region [qo 4 (.mv (.c (.int .i64 (.ofNat 0))))])
   (.seq .skip
   (.seq (.seq (.region [qo 5 (.mv (.c (.int .i64 (.ofNat 0))))])
   (.block 0 (.loop l0_words_Split)))
   (.seq (.region [qm 34 3,
     qm 2 34])
   .ret))))))) }
theorem tr_words_Split : trF cx Tryz.f152 = pf_words_Split := by kernel_rfl
/-- depot/words.shapeOf -/
def pf_words_shapeOf : PF := { ntmps := 57, results := [.cell 2 true 4, .tmp 3], body :=
  (.seq (.region [qn 2 (.new 0 [(.int .i64 (.ofNat 0)), (.int .i64 (.ofNat 0)), (.int .i64 (.ofNat 0)), (.bool false)]),
    qo 3 (.mv (.c (.bool false)))])
  (.seq (.seq (.region [qm 4 0])
  (.block 0 (.seq (.region [qo 6 (.bin .eql (.t 4) (.c (.str [103, 101, 116]))),
     qm 5 6])
   (.cond (.t 5)
    (.seq (.region [qo 7 (.build [(.int .i64 (.ofNat 0)), (.int .i64 (.ofNat 0)), (.int .i64 (.ofNat 0)), (.bool false)] [(0, 1, (.c (.int .i64 (.ofNat 1)))), (1, 1, (.c (.int .i64 (.ofNat 1)))), (2, 1, (.c (.int .i64 (.ofNat 64)))), (3, 1, (.c (.bool false)))]),
      qx (.store 4 (.t 2) (.t 7)),
      qo 3 (.mv (.c (.bool true)))])
    .ret)
    (.seq (.region [qo 9 (.bin .eql (.t 4) (.c (.str [103, 101, 116, 115]))),
      qm 8 9])
    (.cond (.t 8)
     (.seq (.region [qo 10 (.build [(.int .i64 (.ofNat 0)), (.int .i64 (.ofNat 0)), (.int .i64 (.ofNat 0)), (.bool false)] [(0, 1, (.c (.int .i64 (.ofNat 2)))), (1, 1, (.c (.int .i64 (.ofNat 1)))), (2, 1, (.c (.int .i64 (.ofNat 64)))), (3, 1, (.c (.bool false)))]),
       qx (.store 4 (.t 2) (.t 10)),
       qo 3 (.mv (.c (.bool true)))])
     .ret)
     (.seq (.region [qo 12 (.bin .eql (.t 4) (.c (.str [115, 101, 116]))),
       qm 11 12])
     (.cond (.t 11)
      (.seq (.region [qo 13 (.build [(.int .i64 (.ofNat 0)), (.int .i64 (.ofNat 0)), (.int .i64 (.ofNat 0)), (.bool false)] [(0, 1, (.c (.int .i64 (.ofNat 3)))), (1, 1, (.c (.int .i64 (.ofNat 4)))), (2, 1, (.c (.int .i64 (.ofNat 4)))), (3, 1, (.c (.bool true)))]),
        qx (.store 4 (.t 2) (.t 13)),
        qo 3 (.mv (.c (.bool true)))])
      .ret)
      (.seq (.region [qo 15 (.bin .eql (.t 4) (.c (.str [97, 100, 100]))),
        qm 14 15])
      (.cond (.t 14)
       (.seq (.region [qo 16 (.build [(.int .i64 (.ofNat 0)), (.int .i64 (.ofNat 0)), (.int .i64 (.ofNat 0)), (.bool false)] [(0, 1, (.c (.int .i64 (.ofNat 4)))), (1, 1, (.c (.int .i64 (.ofNat 4)))), (2, 1, (.c (.int .i64 (.ofNat 4)))), (3, 1, (.c (.bool true)))]),
         qx (.store 4 (.t 2) (.t 16)),
         qo 3 (.mv (.c (.bool true)))])
       .ret)
       (.seq (.region [qo 18 (.bin .eql (.t 4) (.c (.str [114, 101, 112, 108, 97, 99, 101]))),
         qm 17 18])
       (.cond (.t 17)
        (.seq (.region [qo 19 (.build [(.int .i64 (.ofNat 0)), (.int .i64 (.ofNat 0)), (.int .i64 (.ofNat 0)), (.bool false)] [(0, 1, (.c (.int .i64 (.ofNat 5)))), (1, 1, (.c (.int .i64 (.ofNat 4)))), (2, 1, (.c (.int .i64 (.ofNat 4)))), (3, 1, (.c (.bool true)))]),
          qx (.store 4 (.t 2) (.t 19)),
          qo 3 (.mv (.c (.bool true)))])
        .ret)
        (.seq (.region [qo 21 (.bin .eql (.t 4) (.c (.str [97, 112, 112, 101, 110, 100]))),
          qm 20 21])
        (.cond (.t 20)
         (.seq (.region [qo 22 (.build [(.int .i64 (.ofNat 0)), (.int .i64 (.ofNat 0)), (.int .i64 (.ofNat 0)), (.bool false)] [(0, 1, (.c (.int .i64 (.ofNat 6)))), (1, 1, (.c (.int .i64 (.ofNat 4)))), (2, 1, (.c (.int .i64 (.ofNat 4)))), (3, 1, (.c (.bool true)))]),
           qx (.store 4 (.t 2) (.t 22)),
           qo 3 (.mv (.c (.bool true)))])
         .ret)
         (.seq (.region [qo 24 (.bin .eql (.t 4) (.c (.str [112, 114, 101, 112, 101, 110, 100]))),
           qm 23 24])
         (.cond (.t 23)
          (.seq (.region [qo 25 (.build [(.int .i64 (.ofNat 0)), (.int .i64 (.ofNat 0)), (.int .i64 (.ofNat 0)), (.bool false)] [(0, 1, (.c (.int .i64 (.ofNat 7)))), (1, 1, (.c (.int .i64 (.ofNat 4)))), (2, 1, (.c (.int .i64 (.ofNat 4)))), (3, 1, (.c (.bool true)))]),
            qx (.store 4 (.t 2) (.t 25)),
            qo 3 (.mv (.c (.bool true)))])
          .ret)
          (.seq (.region [qo 27 (.bin .eql (.t 4) (.c (.str [99, 97, 115]))),
            qm 26 27])
          (.cond (.t 26)
           (.seq (.region [qo 28 (.build [(.int .i64 (.ofNat 0)), (.int .i64 (.ofNat 0)), (.int .i64 (.ofNat 0)), (.bool false)] [(0, 1, (.c (.int .i64 (.ofNat 8)))), (1, 1, (.c (.int .i64 (.ofNat 5)))), (2, 1, (.c (.int .i64 (.ofNat 5)))), (3, 1, (.c (.bool true)))]),
             qx (.store 4 (.t 2) (.t 28)),
             qo 3 (.mv (.c (.bool true)))])
           .ret)
           (.seq (.region [qo 30 (.bin .eql (.t 4) (.c (.str [100, 101, 108, 101, 116, 101]))),
             qm 29 30])
           (.cond (.t 29)
            (.seq (.region [qo 31 (.build [(.int .i64 (.ofNat 0)), (.int .i64 (.ofNat 0)), (.int .i64 (.ofNat 0)), (.bool false)] [(0, 1, (.c (.int .i64 (.ofNat 9)))), (1, 1, (.c (.int .i64 (.ofNat 1)))), (2, 1, (.c (.int .i64 (.ofNat 1)))), (3, 1, (.c (.bool true)))]),
              qx (.store 4 (.t 2) (.t 31)),
              qo 3 (.mv (.c (.bool true)))])
            .ret)
            (.seq (.region [qo 33 (.bin .eql (.t 4) (.c (.str [105, 110, 99, 114]))),
              qm 32 33])
            (.cond (.t 32)
             (.seq (.region [qo 34 (.build [(.int .i64 (.ofNat 0)), (.int .i64 (.ofNat 0)), (.int .i64 (.ofNat 0)), (.bool false)] [(0, 1, (.c (.int .i64 (.ofNat 10)))), (1, 1, (.c (.int .i64 (.ofNat 2)))), (2, 1, (.c (.int .i64 (.ofNat 2)))), (3, 1, (.c (.bool true)))]),
               qx (.store 4 (.t 2) (.t 34)),
               qo 3 (.mv (.c (.bool true)))])
             .ret)
             (.seq (.region [qo 36 (.bin .eql (.t 4) (.c (.str [100, 101, 99, 114]))),
               qm 35 36])
             (.cond (.t 35)
              (.seq (.region [qo 37 (.build [(.int .i64 (.ofNat 0)), (.int .i64 (.ofNat 0)), (.int .i64 (.ofNat 0)), (.bool false)] [(0, 1, (.c (.int .i64 (.ofNat 11)))), (1, 1, (.c (.int .i64 (.ofNat 2)))), (2, 1, (.c (.int .i64 (.ofNat 2)))), (3, 1, (.c (.bool true)))]),
                qx (.store 4 (.t 2) (.t 37)),
                qo 3 (.mv (.c (.bool true)))])
              .ret)
              (.seq (.region [qo 39 (.bin .eql (.t 4) (.c (.str [116, 111, 117, 99, 104]))),
                qm 38 39])
              (.cond (.t 38)
               (.seq (.region [qo 40 (.build [(.int .i64 (.ofNat 0)), (.int .i64 (.ofNat 0)), (.int .i64 (.ofNat 0)), (.bool false)] [(0, 1, (.c (.int .i64 (.ofNat 12)))), (1, 1, (.c (.int .i64 (.ofNat 2)))), (2, 1, (.c (.int .i64 (.ofNat 2)))), (3, 1, (.c (.bool true)))]),
                 qx (.store 4 (.t 2) (.t 40)),
                 qo 3 (.mv (.c (.bool true)))])
               .ret)
               (.seq (.region [qo 42 (.bin .eql (.t 4) (.c (.str [102, 108, 117, 115, 104, 95, 97, 108, 108]))),
                 qm 41 42])
               (.cond (.t 41)
                (.seq (.region [qo 43 (.build [(.int .i64 (.ofNat 0)), (.int .i64 (.ofNat 0)), (.int .i64 (.ofNat 0)), (.bool false)] [(0, 1, (.c (.int .i64 (.ofNat 13)))), (1, 1, (.c (.int .i64 (.ofNat 0)))), (2, 1, (.c (.int .i64 (.ofNat 1)))), (3, 1, (.c (.bool true)))]),
                  qx (.store 4 (.t 2) (.t 43)),
                  qo 3 (.mv (.c (.bool true)))])
                .ret)
                (.seq (.region [qo 45 (.bin .eql (.t 4) (.c (.str [118, 101, 114, 115, 105, 111, 110]))),
                  qm 44 45])
                (.cond (.t 44)
                 (.seq (.region [qo 46 (.build [(.int .i64 (.ofNat 0)), (.int .i64 (.ofNat 0)), (.int .i64 (.ofNat 0)), (.bool false)] [(0, 1, (.c (.int .i64 (.ofNat 14)))), (1, 1, (.c (.int .i64 (.ofNat 0)))), (2, 1, (.c (.int .i64 (.ofNat 0)))), (3, 1, (.c (.bool false)))]),
                   qx (.store 4 (.t 2) (.t 46)),
                   qo 3 (.mv (.c (.bool true)))])
                 .ret)
                 (.seq (.region [qo 48 (.bin .eql (.t 4) (.c (.str [118, 101, 114, 98, 111, 115, 105, 116, 121]))),
                   qm 47 48])
                 (.cond (.t 47)
                  (.seq (.region [qo 49 (.build [(.int .i64 (.ofNat 0)), (.int .i64 (.ofNat 0)), (.int .i64 (.ofNat 0)), (.bool false)] [(0, 1, (.c (.int .i64 (.ofNat 15)))), (1, 1, (.c (.int .i64 (.ofNat 1)))), (2, 1, (.c (.int .i64 (.ofNat 1)))), (3, 1, (.c (.bool true)))]),
                    qx (.store 4 (.t 2) (.t 49)),
                    qo 3 (.mv (.c (.bool true)))])
                  .ret)
                  (.seq (.region [qo 51 (.bin .eql (.t 4) (.c (.str [115, 116, 97, 116, 115]))),
                    qm 50 51])
                  (.cond (.t 50)
                   (.seq (.region [qo 52 (.build [(.int .i64 (.ofNat 0)), (.int .i64 (.ofNat 0)), (.int .i64 (.ofNat 0)), (.bool false)] [(0, 1, (.c (.int .i64 (.ofNat 16)))), (1, 1, (.c (.int .i64 (.ofNat 0)))), (2, 1, (.c (.int .i64 (.ofNat 0)))), (3, 1, (.c (.bool false)))]),
                     qx (.store 4 (.t 2) (.t 52)),
                     qo 3 (.mv (.c (.bool true)))])
                   .ret)
                   (.seq (.region [qo 54 (.bin .eql (.t 4) (.c (.str [113, 117, 105, 116]))),
                     qm 53 54])
                   (.cond (.t 53)
                    (.seq (.region [qo 55 (.build [(.int .i64 (.ofNat 0)), (.int .i64 (.ofNat 0)), (.int .i64 (.ofNat 0)), (.bool false)] [(0, 1, (.c (.int .i64 (.ofNat 17)))), (1, 1, (.c (.int .i64 (.ofNat 0)))), (2, 1, (.c (.int .i64 (.ofNat 0)))), (3, 1, (.c (.bool false)))]),
                      qx (.store 4 (.t 2) (.t 55)),
                      qo 3 (.mv (.c (.bool true)))])
                    .ret)
                    .skip))))))))))))))))))))))))))))))))))))
  (.seq (.region [qo 56 (.build [(.int .i64 (.ofNat 0)), (.int .i64 (.ofNat 0)), (.int .i64 (.ofNat 0)), (.bool false)] []),
    qx (.store 4 (.t 2) (.t 56)),
    qo 3 (.mv (.c (.bool false)))])
  .ret))) }
theorem tr_words_shapeOf : trF cx Tryz.f153 = pf_words_shapeOf := by kernel_rfl
def l0_words_fill : PC :=
  (.seq (.region [qo 20 (.bin .lss (.t 19) (.t 18))])
  (.seq (.cond (.t 20)
   .skip
   (.exit 1))
  (.seq (.block 2 (.seq (.region [qo 21 (.iasl 1 (.t 17) (.t 19)),
     qo 22 (.load false 1 (.t 21)),
     qm 6 22])
   (.seq (.region [qm 23 6,
     qe 24 (.call 105 [(.t 23)]),
     qo 25 (.un .not (.t 24))])
   (.cond (.t 25)
    (.seq (.region [qo 4 (.mv (.c (.bool false)))])
    .ret)
    .skip))))
  (.region [qo 26 (.bin .add (.t 19) (.c (.int .i64 (.ofNat 1)))),
    qm 19 26]))))
/-- depot/words.fill -/
def pf_words_fill : PF := { ntmps := 127, results := [.tmp 4], body :=
  (.seq (.region [qo 4 (.mv (.c (.bool false)))])
  (.seq (.seq (.region [qm 10 0,
    qo 11 (.nilck (.t 10)),
    qo 12 (.faddr 0 (.t 11)),
    qo 13 (.load false 1 (.t 12))])
  (.block 0 (.seq (.seq (.region [qo 15 (.bin .eql (.t 13) (.c (.int .i64 (.ofNat 1)))),
     qm 14 15])
   (.cond (.t 14)
    .skip
    (.region [qo 16 (.bin .eql (.t 13) (.c (.int .i64 (.ofNat 2)))),
      qm 14 16])))
   (.cond (.t 14)
    (.seq (.seq (.region [qm 17 1,
      qo 18 (.lensl (.t 17)),
      qo 19 (.mv (.c (.int .i64 (.ofNat 0))))])
    (.block 1 (.loop l0_words_fill)))
    (.seq (.region [qm 27 0,
      qm 28 0,
      qo 29 (.nilck (.t 28)),
      qo 30 (.faddr 1 (.t 29)),
      qo 31 (.load false 1 (.t 30)),
      qm 32 1,
      qe 33 (.app 0 1 16 (.t 31) (.t 32)),
      qo 34 (.nilck (.t 27)),
      qo 35 (.faddr 1 (.t 34)),
      qx (.store 1 (.t 35) (.t 33))])
    (.seq (.region [qo 4 (.mv (.c (.bool true)))])
    .ret)))
    (.seq (.region [qo 37 (.bin .eql (.t 13) (.c (.int .i64 (.ofNat 13)))),
      qm 36 37])
    (.cond (.t 36)
     (.seq (.region [qm 38 1,
       qo 39 (.lensl (.t 38)),
       qo 40 (.bin .eql (.t 39) (.c (.int .i64 (.ofNat 0)))),
       qm 41 40,
       qg 42 41 false 1,
       qh 43 41 false (.iasl 1 (.t 42) (.c (.int .i64 (.ofNat 0)))),
       qh 44 41 false (.load false 1 (.t 43)),
       qh 45 41 false (.bin .eql (.t 44) (.c (.str [48]))),
       qo 46 (.pick (.t 41) (.c (.bool true)) (.t 45)),
       qm 4 46])
     .ret)
     (.seq (.region [qo 48 (.bin .eql (.t 13) (.c (.int .i64 (.ofNat 15)))),
       qm 47 48])
     (.cond (.t 47)
      (.seq (.region [qm 50 1,
        qo 51 (.iasl 1 (.t 50) (.c (.int .i64 (.ofNat 0)))),
        qo 52 (.load false 1 (.t 51)),
        qe 53 (.call 215 [(.t 52), (.c (.int .u64 (.ofNat 4294967295)))]),
        qm 49 53,
        qo 54 (.ext 0 (.t 49)),
        qo 55 (.ext 1 (.t 49)),
        qm 7 54,
        qm 8 55])
      (.seq (.region [qm 56 8,
        qm 4 56])
      .ret))
      (.seq (.seq (.region [qo 58 (.bin .eql (.t 13) (.c (.int .i64 (.ofNat 14)))),
        qm 57 58])
      (.cond (.t 57)
       .skip
       (.seq (.region [qo 59 (.bin .eql (.t 13) (.c (.int .i64 (.ofNat 16)))),
         qm 57 59])
       (.cond (.t 57)
        .skip
        (.region [qo 60 (.bin .eql (.t 13) (.c (.int .i64 (.ofNat 17)))),
          qm 57 60])))))
      (.cond (.t 57)
       (.seq (.region [qo 4 (.mv (.c (.bool true)))])
       .ret)
       .skip))))))))))
  (.seq (.seq (.region [qm 61 1,
    qo 62 (.iasl 1 (.t 61) (.c (.int .i64 (.ofNat 0)))),
    qo 63 (.load false 1 (.t 62)),
    qe 64 (.call 105 [(.t 63)]),
    qo 65 (.un .not (.t 64))])
  (.cond (.t 65)
   (.seq (.region [qo 4 (.mv (.c (.bool false)))])
   .ret)
   .skip))
  (.seq (.region [qm 66 0,
    qm 67 0,
    qo 68 (.nilck (.t 67)),
    qo 69 (.faddr 1 (.t 68)),
    qo 70 (.load false 1 (.t 69)),
    qm 71 1,
    qo 72 (.iasl 1 (.t 71) (.c (.int .i64 (.ofNat 0)))),
    qo 73 (.load false 1 (.t 72)),
    qn 74 (.bslice 0 1 1 [(.str [])] [(0, 1, (.t 73))]),
    qe 75 (.app 0 1 16 (.t 70) (.t 74)),
    qo 76 (.nilck (.t 66)),
    qo 77 (.faddr 1 (.t 76)),
    qx (.store 1 (.t 77) (.t 75))])
  (.seq (.region [qo 9 (.mv (.c (.bool true)))])
  (.seq (.block 3 (.seq (.region [qm 79 0,
     qo 80 (.nilck (.t 79)),
     qo 81 (.faddr 0 (.t 80)),
     qo 82 (.load false 1 (.t 81)),
     qe 83 (.call 68 [(.t 82)]),
     qm 78 83])
   (.cond (.t 78)
    (.region [qm 84 0,
      qm 85 1,
      qe 86 (.call 216 [(.t 84), (.t 85)]),
      qm 9 86])
    (.seq (.region [qm 88 0,
      qo 89 (.nilck (.t 88)),
      qo 90 (.faddr 0 (.t 89)),
      qo 91 (.load false 1 (.t 90)),
      qo 92 (.bin .eql (.t 91) (.c (.int .i64 (.ofNat 10)))),
      qm 93 92,
      qg 94 93 false 0,
      qh 95 93 false (.nilck (.t 94)),
      qh 96 93 false (.faddr 0 (.t 95)),
      qh 97 93 false (.load false 1 (.t 96)),
      qh 98 93 false (.bin .eql (.t 97) (.c (.int .i64 (.ofNat 11)))),
      qo 99 (.pick (.t 93) (.c (.bool true)) (.t 98)),
      qm 87 99])
    (.cond (.t 87)
     (.region [qm 101 0,
       qm 102 1,
       qo 103 (.iasl 1 (.t 102) (.c (.int .i64 (.ofNat 1)))),
       qo 104 (.load false 1 (.t 103)),
       qe 105 (.call 215 [(.t 104), (.c (.int .u64 (.ofNat 18446744073709551615)))]),
       qm 100 105,
       qo 106 (.ext 0 (.t 100)),
       qo 107 (.ext 1 (.t 100)),
       qo 108 (.nilck (.t 101)),
       qo 109 (.faddr 6 (.t 108)),
       qx (.store 1 (.t 109) (.t 106)),
       qm 9 107])
     (.seq (.region [qm 111 0,
       qo 112 (.nilck (.t 111)),
       qo 113 (.faddr 0 (.t 112)),
       qo 114 (.load false 1 (.t 113)),
       qo 115 (.bin .eql (.t 114) (.c (.int .i64 (.ofNat 12)))),
       qm 110 115])
     (.cond (.t 110)
      (.region [qm 117 0,
        qm 118 1,
        qo 119 (.iasl 1 (.t 118) (.c (.int .i64 (.ofNat 1)))),
        qo 120 (.load false 1 (.t 119)),
        qe 121 (.call 217 [(.t 120), (.c (.int .u64 (.ofNat 1099511627776)))]),
        qm 116 121,
        qo 122 (.ext 0 (.t 116)),
        qo 123 (.ext 1 (.t 116)),
        qo 124 (.nilck (.t 117)),
        qo 125 (.faddr 3 (.t 124)),
        qx (.store 1 (.t 125) (.t 122)),
        qm 9 123])
      .skip)))))))
  (.seq (.region [qm 126 9,
    qm 4 126])
  .ret))))))) }
theorem tr_words_fill : trF cx Tryz.f154 = pf_words_fill := by kernel_rfl
/-- internal/stringslite.HasPrefix -/
def pf_internal_stringslite_HasPrefix : PF := { ntmps := 18, results := [.tmp 4], body :=
  (.seq (.region [qo 4 (.mv (.c (.bool false)))])
  (.seq (.region [qm 5 0,
    qo 6 (.lens (.t 5)),
    qm 7 1,
    qo 8 (.lens (.t 7)),
    qo 9 (.bin .geq (.t 6) (.t 8)),
    qm 10 9,
    qg 11 10 true 0,
    qg 12 10 true 1,
    qh 13 10 true (.lens (.t 12)),
    qh 14 10 true (.slstr (.t 11) none (some (.t 13))),
    qg 15 10 true 1,
    qh 16 10 true (.bin .eql (.t 14) (.t 15)),
    qo 17 (.pick (.t 10) (.t 16) (.c (.bool false))),
    qm 4 17])
  .ret)) }
theorem tr_internal_stringslite_HasPrefix : trF cx Tryz.f155 = pf_internal_stringslite_HasPrefix := by kernel_rfl
/-- depot/task.New -/
def pf_task_New : PF := { ntmps := 74, results := [.tmp 10, .tmp 11], body :=
  (.seq (.region [qn 5 (.box (.t 0)),
    qn 7 (.box (.t 2)),
    qo 10 (.mv (.c .nilp)),
    qo 11 (.mv (.c (.int .i64 (.ofNat 0))))])
  (.seq (.seq (.region [qo 13 (.load true 6 (.t 5)),
    qe 14 (.call 29 [(.t 13)]),
    qo 15 (.un .not (.t 14)),
    qm 16 15,
    qg 17 16 false 1,
    .op ⟨(some 18), (some (16, false)), (.e (.call 105 [(.t 17)]))⟩,
    qh 19 16 false (.un .not (.t 18)),
    qo 20 (.pick (.t 16) (.c (.bool true)) (.t 19)),
    qm 21 20,
    qg 22 21 false 3,
    qh 23 21 false (.faddr 3 (.t 5)),
    qh 24 21 false (.load false 1 (.t 23)),
    qh 25 21 false (.bin .sub (.t 24) (.c (.int .i64 (.ofNat 1)))),
    .op ⟨(some 26), (some (21, false)), (.e (.call 51 [(.t 22), (.c (.int .i64 (.negSucc 0))), (.t 25)]))⟩,
    qh 27 21 false (.un .not (.t 26)),
    qo 28 (.pick (.t 21) (.c (.bool true)) (.t 27)),
    qm 29 28,
    qg 30 29 false 4,
    .op ⟨(some 31), (some (29, false)), (.e (.call 51 [(.t 30), (.c (.int .i64 (.ofNat 1))), (.c (.int .i64 (.ofNat 1099511627776)))]))⟩,
    qh 32 29 false (.un .not (.t 31)),
    qo 33 (.pick (.t 29) (.c (.bool true)) (.t 32))])
  (.cond (.t 33)
   (.seq (.region [qo 10 (.mv (.c .nilp)),
     qo 11 (.mv (.c (.int .i64 (.ofNat 1))))])
   .ret)
   .skip))
  (.seq (.region [qo 34 (.load true 6 (.t 5)),
    qm 35 1,
    qo 36 (.load true 9 (.t 7)),
    qm 37 3,
    qm 38 4,
    qo 39 (.build ([(.int .i64 (.ofNat 0)), (.int .i64 (.ofNat 0)), (.int .i64 (.ofNat 0)), (.int .i64 (.ofNat 0)), (.int .i64 (.ofNat 0)), (.int .i64 (.ofNat 0))] ++ ([.nilp] ++ ([(.str [])] ++ ([(.int .i64 (.ofNat 0))] ++ ([.nils] ++ ([(.int .i64 (.ofNat 0)), (.int .i64 (.ofNat 0)), (.int .i64 (.ofNat 0)), (.int .i64 (.ofNat 0))] ++ ([(.int .u64 (.ofNat 0))] ++ ([(.bool false)] ++ ([(.str [])] ++ ([(.int .i64 (.ofNat 0)), (.int .i64 (.ofNat 0))] ++ ([.nils, .nils] ++ (rep 15 [(.int .i64 (.ofNat 0))] ++ ([.nils] ++ ([(.int .i64 (.ofNat 0)), (.int .i64 (.ofNat 0)), (.int .i64 (.ofNat 0)), (.int .i64 (.ofNat 0)), (.int .i64 (.ofNat 0)), (.int .i64 (.ofNat 0))] ++ ([(.bool false)] ++ ([.nilp] ++ ([(.str [])] ++ ([(.int .i64 (.ofNat 0)), (.int .i64 (.ofNat 0)), (.int .i64 (.ofNat 0)), (.int .i64 (.ofNat 0)), (.int .i64 (.ofNat 0))] ++ ([.nils] ++ ([(.int .i64 (.ofNat 0))] ++ ([.nils] ++ ([(.bool false)] ++ ([(.int .u64 (.ofNat 0))] ++ ([(.str [])] ++ ([(.int .i64 (.ofNat 0)), (.int .i64 (.ofNat 0)), (.int .i64 (.ofNat 0)), (.int .i64 (.ofNat 0)), (.int .i64 (.ofNat 0))] ++ ([.nils] ++ ([(.bool false)] ++ ([(.int .u64 (.ofNat 0))] ++ ([(.str [])] ++ ([(.int .i64 (.ofNat 0)), (.int .i64 (.ofNat 0)), (.int .i64 (.ofNat 0)), (.int .i64 (.ofNat 0))] ++ ([(.bool false)]))))))))))))))))))))))))))))))) [(0, 6, (.t 34)), (7, 1, (.t 35)), (8, 9, (.t 36)), (17, 1, (.t 37)), (18, 1, (.t 38))]),
    qn 40 (.box (.t 39)),
    qm 12 40])
  (.seq (.region [qm 42 12,
    qo 43 (.faddr 0 (.t 5)),
    qo 44 (.load false 1 (.t 43)),
    qo 45 (.faddr 1 (.t 5)),
    qo 46 (.load false 1 (.t 45)),
    qe 47 (.call 50 [(.t 44), (.t 46)]),
    qm 41 47,
    qo 48 (.ext 0 (.t 41)),
    qo 49 (.ext 1 (.t 41)),
    qo 50 (.nilck (.t 42)),
    qo 51 (.faddr 6 (.t 50)),
    qx (.store 1 (.t 51) (.t 48))])
  (.seq (.region [qm 52 12,
    qm 53 1,
    qo 54 (.faddr 0 (.t 5)),
    qo 55 (.load false 1 (.t 54)),
    qo 56 (.faddr 1 (.t 5)),
    qo 57 (.load false 1 (.t 56)),
    qo 58 (.bin .add (.t 55) (.t 57)),
    qo 59 (.faddr 3 (.t 5)),
    qo 60 (.load false 1 (.t 59)),
    qe 61 (.call 184 [(.t 53), (.t 58), (.t 60)]),
    qo 62 (.nilck (.t 52)),
    qo 63 (.faddr 19 (.t 62)),
    qx (.store 1 (.t 63) (.t 61))])
  (.seq (.region [qm 64 12,
    qm 65 1,
    qo 66 (.faddr 1 (.t 5)),
    qo 67 (.load false 1 (.t 66)),
    qo 68 (.faddr 3 (.t 5)),
    qo 69 (.load false 1 (.t 68)),
    qe 70 (.call 218 [(.t 65), (.t 67), (.t 69)]),
    qo 71 (.nilck (.t 64)),
    qo 72 (.faddr 20 (.t 71)),
    qx (.store 1 (.t 72) (.t 70))])
  (.seq (.region [qm 73 12,
    qm 10 73,
    qo 11 (.mv (.c (.int .i64 (.ofNat 0))))])
  .ret))))))) }
theorem tr_task_New : trF cx Tryz.f156 = pf_task_New := by kernel_rfl
def l0_task_Task_Start : PC :=
  (.seq (.region [qo 14 (.bin .lss (.t 13) (.t 12))])
  (.seq (.cond (.t 14)
   .skip
   (.exit 0))
  (.seq (.block 1 (.seq (.region [qo 15 (.iasl 1 (.t 11) (.t 13)),
     qo 16 (.load false 1 (.t 15)),
     qm 5 16])
   (.seq (.region [qm 17 5,
     qo 18 (.faddr 0 (.t 3)),
     qo 19 (.iaarr 12 1 (.t 18) (.t 17)),
     qo 20 (.load false 1 (.t 19)),
     qo 21 (.bin .eql (.t 20) (.c (.int .i64 (.ofNat 2))))])
   (.cond (.t 21)
    (.seq (.region [qm 22 0,
      qm 23 5,
      qo 24 (.nilck (.t 22)),
      qo 25 (.faddr 24 (.t 24)),
      qo 26 (.iaarr 12 1 (.t 25) (.t 23)),
      qx (.store 1 (.t 26) (.c (.int .i64 (.ofNat 1))))])
    (.region [qm 27 0,
      qm 28 5,
      qo 29 (.build [(.int .i64 (.ofNat 0)), (.int .i64 (.ofNat 0)), (.int .i64 (.ofNat 0)), (.int .i64 (.ofNat 0)), (.int .i64 (.ofNat 0)), (.int .i64 (.ofNat 0)), (.str []), (.int .i64 (.ofNat 0)), (.str [])] [(0, 1, (.c (.int .i64 (.ofNat 2)))), (5, 1, (.c (.int .i64 (.ofNat 1))))]),
      qe 30 (.call 186 [(.t 27), (.t 28), (.t 29)])]))
    .skip))))
  (.region [qo 31 (.bin .add (.t 13) (.c (.int .i64 (.ofNat 1)))),
    qm 13 31]))))
/-- (*depot/task.Task).Start -/
def pf_task_Task_Start : PF := { ntmps := 35, results := [], body :=
  (.seq (.region [qn 3 (.box (.t 1))])
  (.seq (.region [qm 6 0,
    qe 7 (.call 219 [(.t 6), (.c (.int .i64 (.ofNat 1)))])])
  (.seq (.seq (.region [qm 8 0,
    qo 9 (.nilck (.t 8)),
    qo 10 (.faddr 20 (.t 9)),
    qo 11 (.load false 1 (.t 10)),
    qo 12 (.lensl (.t 11)),
    qo 13 (.mv (.c (.int .i64 (.ofNat 0))))])
  (.block 0 (.loop l0_task_Task_Start)))
  (.region [qm 32 0,
    qo 33 (.load true 14 (.t 3)),
    qe 34 (.call 134 [(.t 32), (.t 33)])])))) }
theorem tr_task_Task_Start : trF cx Tryz.f157 = pf_task_Task_Start := by kernel_rfl
/-- (*depot/item.Store).Get -/
def pf_item_Store_Get : PF := { ntmps := 34, results := [.tmp 4, .tmp 5], body :=
  (.seq (.region [qo 4 (.mv (.c (.str []))),
    qo 5 (.mv (.c (.bool false)))])
  (.seq (.region [qm 11 0,
    qm 12 1,
    qe 13 (.call 221 [(.t 11), (.t 12)]),
    qm 10 13,
    qo 14 (.ext 0 (.t 10)),
    qo 15 (.ext 1 (.t 10)),
    qm 6 14,
    qm 7 15])
  (.seq (.seq (.region [qm 16 7])
  (.cond (.t 16)
   (.seq (.region [qm 18 0,
     qo 19 (.nilck (.t 18)),
     qo 20 (.faddr 1 (.t 19)),
     qo 21 (.load false 1 (.t 20)),
     qm 22 1,
     qe 23 (.call 171 [(.t 21), (.t 22)]),
     qm 17 23,
     qo 24 (.ext 0 (.t 17)),
     qo 25 (.ext 1 (.t 17)),
     qm 8 24,
     qm 9 25])
   (.seq (.region [qm 26 0,
     qm 27 8,
     qe 28 (.call 222 [(.t 26), (.t 27)])])
   (.region [qm 29 0,
     qm 30 8,
     qe 31 (.call 167 [(.t 29), (.t 30)])])))
   .skip))
  (.seq (.region [qm 32 6,
    qm 33 7,
    qm 4 32,
    qm 5 33])
  .ret)))) }
theorem tr_item_Store_Get : trF cx Tryz.f161 = pf_item_Store_Get := by kernel_rfl
def l0_pack_Reader_Num : PC :=
  (.seq (.block 1 (.seq (.seq (.region [qm 18 0,
     qo 19 (.nilck (.t 18)),
     qo 20 (.faddr 1 (.t 19)),
     qo 21 (.load false 1 (.t 20)),
     qm 22 0,
     qo 23 (.nilck (.t 22)),
     qo 24 (.faddr 0 (.t 23)),
     qo 25 (.load false 1 (.t 24)),
     qo 26 (.lensl (.t 25)),
     qo 27 (.bin .eql (.t 21) (.t 26))])
   (.cond (.t 27)
    (.seq (.region [qm 28 0,
      qm 29 3,
      qe 30 (.call 205 [(.t 28), (.t 29), (.c (.int .i64 (.ofNat 3)))])])
    (.seq (.region [qo 2 (.mv (.c (.int .i64 (.ofNat 0))))])
    .ret))
    .skip))
   (.seq (.region [qm 31 0,
     qo 32 (.nilck (.t 31)),
     qo 33 (.faddr 0 (.t 32)),
     qo 34 (.load false 1 (.t 33)),
     qm 35 0,
     qo 36 (.nilck (.t 35)),
     qo 37 (.faddr 1 (.t 36)),
     qo 38 (.load false 1 (.t 37)),
     qo 39 (.iasl 1 (.t 34) (.t 38)),
     qo 40 (.load false 1 (.t 39)),
     qm 6 40])
   (.seq (.seq (.region [qm 41 5,
     qo 42 (.bin .gtr (.t 41) (.c (.int .i64 (.ofNat 0)))),
     qm 43 42,
     qg 44 43 true 6,
     qh 45 43 true (.bin .eql (.t 44) (.c (.int .u8 (.ofNat 0)))),
     qo 46 (.pick (.t 43) (.t 45) (.c (.bool false))),
     qm 47 46,
     qg 48 47 false 5,
     qh 49 47 false (.bin .eql (.t 48) (.c (.int .i64 (.ofNat 9)))),
     qg 50 47 false 49,
     qg 51 50 true 6,
     qh 52 50 true (.bin .gtr (.t 51) (.c (.int .u8 (.ofNat 1)))),
     qh 53 47 false (.pick (.t 50) (.t 52) (.c (.bool false))),
     qo 54 (.pick (.t 47) (.c (.bool true)) (.t 53))])
   (.cond (.t 54)
    (.seq (.region [qm 55 0,
      qm 56 3,
      qe 57 (.call 205 [(.t 55), (.t 56), (.c (.int .i64 (.ofNat 4)))])])
    (.seq (.region [qo 2 (.mv (.c (.int .i64 (.ofNat 0))))])
    .ret))
    .skip))
   (.seq (.region [qm 58 0,
     qo 59 (.nilck (.t 58)),
     qo 60 (.faddr 1 (.t 59)),
     qo 61 (.load false 1 (.t 60)),
     qo 62 (.bin .add (.t 61) (.c (.int .i64 (.ofNat 1)))),
     qo 63 (.nilck (.t 58)),
     qo 64 (.faddr 1 (.t 63)),
     qx (.store 1 (.t 64) (.t 62))])
   (.seq (.region [qm 65 4,
     qm 66 6,
     qo 67 (.bin .and (.t 66) (.c (.int .u8 (.ofNat 127)))),
     qo 68 (.cint .u64 (.t 67)),
     qm 69 5,
     qo 70 (.bin .mul (.c (.int .i64 (.ofNat 7))) (.t 69)),
     qo 71 (.cint .u64 (.t 70)),
     qo 72 (.bin .shl (.t 68) (.t 71)),
     qo 73 (.bin .or (.t 65) (.t 72)),
     qm 4 73])
   (.seq (.region [qm 74 6,
     qo 75 (.bin .lss (.t 74) (.c (.int .u8 (.ofNat 128))))])
   (.cond (.t 75)
    (.seq (.region [qm 76 4,
      qo 77 (.bin .shr (.t 76) (.c (.int .u64 (.ofNat 1)))),
      qo 78 (.cint .i64 (.t 77)),
      qm 79 4,
      qo 80 (.bin .and (.t 79) (.c (.int .u64 (.ofNat 1)))),
      qo 81 (.cint .i64 (.t 80)),
      qo 82 (.un .neg (.t 81)),
      qo 83 (.bin .xor (.t 78) (.t 82)),
      qm 2 83])
    .ret)
    .skip))))))))
  (.region [qm 16 5,
    qo 17 (.bin .add (.t 16) (.c (.int .i64 (.ofNat 1)))),
    qm 5 17]))
/-- (*depot/pack.Reader).Num -/
def pf_pack_Reader_Num : PF := { ntmps := 84, results := [.tmp 2], body :=
  (.seq (.region [qo 2 (.mv (.c (.int .i64 (.ofNat 0))))])
  (.seq (.seq (.region [qm 7 0,
    qo 8 (.nilck (.t 7)),
    qo 9 (.faddr 2 (.t 8)),
    qo 10 (.load false 1 (.t 9)),
    qo 11 (.bin .neq (.t 10) (.c (.int .i64 (.ofNat 0))))])
  (.cond (.t 11)
   (.seq (.region [qo 2 (.mv (.c (.int .i64 (.ofNat 0))))])
   .ret)
   .skip))
  (.seq (.region [qm 12 0,
    qo 13 (.nilck (.t 12)),
    qo 14 (.faddr 1 (.t 13)),
    qo 15 (.load false 1 (.t 14)),
    qm 3 15,
    qo 4 (.mv (.c (.int .u64 (.ofNat 0))))])
  (.seq (.region [qo 5 (.mv (.c (.int .i64 (.ofNat 0))))])
  (.block 0 (.loop l0_pack_Reader_Num)))))) }
theorem tr_pack_Reader_Num : trF cx Tryz.f162 = pf_pack_Reader_Num := by kernel_rfl
def l0_slab_Slab_Class : PC :=
  (.seq (.region [qo 15 (.bin .lss (.t 14) (.t 13))])
  (.seq (.cond (.t 15)
   .skip
   (.exit 0))
  (.seq (.block 1 (.seq (.region [qm 16 14,
     qo 17 (.iasl 4 (.t 12) (.t 14)),
     qo 18 (.load true 4 (.t 17)),
     qn 6 (.new 0 [(.int .i64 (.ofNat 0)), .nils, .nilm, (.int .i64 (.ofNat 0))]),
     qm 5 16,
     qx (.store 4 (.t 6) (.t 18))])
   (.seq (.region [qo 19 (.faddr 0 (.t 6)),
     qo 20 (.load false 1 (.t 19)),
     qm 21 1,
     qo 22 (.bin .geq (.t 20) (.t 21))])
   (.cond (.t 22)
    (.seq (.region [qm 23 5,
      qm 4 23])
    .ret)
    .skip))))
  (.region [qo 24 (.bin .add (.t 14) (.c (.int .i64 (.ofNat 1)))),
    qm 14 24]))))
/-- (*depot/slab.Slab).Class -/
def pf_slab_Slab_Class : PF := { ntmps := 25, results := [.tmp 4], body :=
  (.seq (.region [qo 4 (.mv (.c (.int .i64 (.ofNat 0))))])
  (.seq (.seq (.region [qm 7 1,
    qo 8 (.bin .lss (.t 7) (.c (.int .i64 (.ofNat 0))))])
  (.cond (.t 8)
   (.seq (.region [qo 4 (.mv (.c (.int .i64 (.negSucc 0))))])
   .ret)
   .skip))
  (.seq (.seq (.region [qm 9 0,
    qo 10 (.nilck (.t 9)),
    qo 11 (.faddr 3 (.t 10)),
    qo 12 (.load false 1 (.t 11)),
    qo 13 (.lensl (.t 12)),
    qo 14 (.mv (.c (.int .i64 (.ofNat 0))))])
  (.block 0 (.loop l0_slab_Slab_Class)))
  (.seq (.region [qo 4 (.mv (.c (.int .i64 (.negSucc 0))))])
  .ret)))) }
theorem tr_slab_Slab_Class : trF cx Tryz.f163 = pf_slab_Slab_Class := by kernel_rfl
def l0_slab_Slab_Alloc : PC :=
  (.seq (.seq (.region [qm 61 9,
    qo 62 (.bin .geq (.t 61) (.c (.int .i64 (.ofNat 0))))])
  (.cond (.t 62)
   .skip
   (.exit 0)))
  (.seq (.block 1 (.region [qm 65 7,
     qm 66 7,
     qo 67 (.nilck (.t 66)),
     qo 68 (.faddr 1 (.t 67)),
     qo 69 (.load false 1 (.t 68)),
     qm 70 7,
     qo 71 (.nilck (.t 70)),
     qo 72 (.faddr 3 (.t 71)),
     qo 73 (.load false 1 (.t 72)),
     qm 74 9,
     qo 75 (.bin .add (.t 73) (.t 74)),
     qn 76 (.bslice 0 1 1 [(.int .i64 (.ofNat 0))] [(0, 1, (.t 75))]),
     qe 77 (.app 0 1 8 (.t 69) (.t 76)),
     qo 78 (.nilck (.t 65)),
     qo 79 (.faddr 1 (.t 78)),
     qx (.store 1 (.t 79) (.t 77))]))
  (.region [qm 63 9,
    qo 64 (.bin .sub (.t 63) (.c (.int .i64 (.ofNat 1)))),
    qm 9 64])))
/-- (*depot/slab.Slab).Alloc -/
def pf_slab_Slab_Alloc : PF := { ntmps := 123, results := [.cell 4 true 2, .tmp 5], body :=
  (.seq (.region [qn 4 (.new 0 [(.int .i64 (.ofNat 0)), (.int .i64 (.ofNat 0))]),
    qo 5 (.mv (.c (.int .i64 (.ofNat 0))))])
  (.seq (.region [qm 11 0,
    qm 12 1,
    qo 13 (.lens (.t 12)),
    qe 14 (.call 163 [(.t 11), (.t 13)]),
    qm 6 14])
  (.seq (.seq (.region [qm 15 6,
    qo 16 (.bin .lss (.t 15) (.c (.int .i64 (.ofNat 0))))])
  (.cond (.t 16)
   (.seq (.region [qo 17 (.build [(.int .i64 (.ofNat 0)), (.int .i64 (.ofNat 0))] []),
     qx (.store 2 (.t 4) (.t 17)),
     qo 5 (.mv (.c (.int .i64 (.ofNat 2))))])
   .ret)
   .skip))
  (.seq (.region [qm 18 0,
    qo 19 (.nilck (.t 18)),
    qo 20 (.faddr 3 (.t 19)),
    qo 21 (.load false 1 (.t 20)),
    qm 22 6,
    qo 23 (.iasl 4 (.t 21) (.t 22)),
    qm 7 23])
  (.seq (.seq (.region [qm 24 7,
    qo 25 (.nilck (.t 24)),
    qo 26 (.faddr 1 (.t 25)),
    qo 27 (.load false 1 (.t 26)),
    qo 28 (.lensl (.t 27)),
    qo 29 (.bin .eql (.t 28) (.c (.int .i64 (.ofNat 0))))])
  (.cond (.t 29)
   (.seq (.seq (.region [qm 30 0,
     qo 31 (.nilck (.t 30)),
     qo 32 (.faddr 1 (.t 31)),
     qo 33 (.load false 1 (.t 32)),
     qo 34 (.bin .eql (.t 33) (.c (.int .i64 (.ofNat 0))))])
   (.cond (.t 34)
    (.seq (.region [qo 35 (.build [(.int .i64 (.ofNat 0)), (.int .i64 (.ofNat 0))] []),
      qx (.store 2 (.t 4) (.t 35)),
      qo 5 (.mv (.c (.int .i64 (.ofNat 6))))])
    .ret)
    .skip))
   (.seq (.region [qm 36 0,
     qo 37 (.nilck (.t 36)),
     qo 38 (.faddr 1 (.t 37)),
     qo 39 (.load false 1 (.t 38)),
     qo 40 (.bin .sub (.t 39) (.c (.int .i64 (.ofNat 1)))),
     qo 41 (.nilck (.t 36)),
     qo 42 (.faddr 1 (.t 41)),
     qx (.store 1 (.t 42) (.t 40))])
   (.seq (.region [qm 43 0,
     qo 44 (.nilck (.t 43)),
     qo 45 (.faddr 2 (.t 44)),
     qo 46 (.load false 1 (.t 45)),
     qo 47 (.bin .add (.t 46) (.c (.int .i64 (.ofNat 1)))),
     qo 48 (.nilck (.t 43)),
     qo 49 (.faddr 2 (.t 48)),
     qx (.store 1 (.t 49) (.t 47))])
   (.seq (.region [qm 50 0,
     qo 51 (.nilck (.t 50)),
     qo 52 (.faddr 0 (.t 51)),
     qo 53 (.load false 1 (.t 52)),
     qm 54 7,
     qo 55 (.nilck (.t 54)),
     qo 56 (.faddr 0 (.t 55)),
     qo 57 (.load false 1 (.t 56)),
     qo 58 (.bin .quo (.t 53) (.t 57)),
     qm 8 58])
   (.seq (.seq (.region [qm 59 8,
     qo 60 (.bin .sub (.t 59) (.c (.int .i64 (.ofNat 1)))),
     qm 9 60])
   (.block 0 (.loop l0_slab_Slab_Alloc)))
   (.region [qm 80 7,
     qo 81 (.nilck (.t 80)),
     qo 82 (.faddr 3 (.t 81)),
     qo 83 (.load false 1 (.t 82)),
     qm 84 8,
     qo 85 (.bin .add (.t 83) (.t 84)),
     qo 86 (.nilck (.t 80)),
     qo 87 (.faddr 3 (.t 86)),
     qx (.store 1 (.t 87) (.t 85))]))))))
   .skip))
  (.seq (.region [qm 88 7,
    qo 89 (.nilck (.t 88)),
    qo 90 (.faddr 1 (.t 89)),
    qo 91 (.load false 1 (.t 90)),
    qm 92 7,
    qo 93 (.nilck (.t 92)),
    qo 94 (.faddr 1 (.t 93)),
    qo 95 (.load false 1 (.t 94)),
    qo 96 (.lensl (.t 95)),
    qo 97 (.bin .sub (.t 96) (.c (.int .i64 (.ofNat 1)))),
    qo 98 (.iasl 1 (.t 91) (.t 97)),
    qo 99 (.load false 1 (.t 98)),
    qm 10 99])
  (.seq (.region [qm 100 7,
    qm 101 7,
    qo 102 (.nilck (.t 101)),
    qo 103 (.faddr 1 (.t 102)),
    qo 104 (.load false 1 (.t 103)),
    qm 105 7,
    qo 106 (.nilck (.t 105)),
    qo 107 (.faddr 1 (.t 106)),
    qo 108 (.load false 1 (.t 107)),
    qo 109 (.lensl (.t 108)),
    qo 110 (.bin .sub (.t 109) (.c (.int .i64 (.ofNat 1)))),
    qo 111 (.slsl 1 (.t 104) none (some (.t 110)) none),
    qo 112 (.nilck (.t 100)),
    qo 113 (.faddr 1 (.t 112)),
    qx (.store 1 (.t 113) (.t 111))])
  (.seq (.region [qm 114 7,
    qo 115 (.nilck (.t 114)),
    qo 116 (.faddr 2 (.t 115)),
    qo 117 (.load false 1 (.t 116)),
    qm 118 10,
    qm 119 1,
    qx (.mupd false (.t 117) (.t 118) (.t 119))])
  (.seq (.region [qm 120 6,
    qm 121 10,
    qo 122 (.build [(.int .i64 (.ofNat 0)), (.int .i64 (.ofNat 0))] [(0, 1, (.t 120)), (1, 1, (.t 121))]),
    qx (.store 2 (.t 4) (.t 122)),
    qo 5 (.mv (.c (.int .i64 (.ofNat 0))))])
  .ret))))))))) }
theorem tr_slab_Slab_Alloc : trF cx Tryz.f164 = pf_slab_Slab_Alloc := by kernel_rfl
/-- (*depot/item.Store).in -/
def pf_item_Store_in : PF := { ntmps := 42, results := [], body :=
  (.seq (.region [qm 5 0,
    qo 6 (.nilck (.t 5)),
    qo 7 (.faddr 2 (.t 6)),
    qo 8 (.load false 1 (.t 7)),
    qo 9 (.iasl 6 (.t 8) (.c (.int .i64 (.ofNat 0)))),
    qo 10 (.faddr 4 (.t 9)),
    qo 11 (.load false 1 (.t 10)),
    qm 4 11])
  (.seq (.region [qm 12 0,
    qo 13 (.nilck (.t 12)),
    qo 14 (.faddr 2 (.t 13)),
    qo 15 (.load false 1 (.t 14)),
    qm 16 1,
    qm 17 0,
    qo 18 (.nilck (.t 17)),
    qo 19 (.faddr 2 (.t 18)),
    qo 20 (.load false 1 (.t 19)),
    qm 21 1,
    qm 22 4,
    qo 23 (.iasl 6 (.t 15) (.t 16)),
    qo 24 (.faddr 5 (.t 23)),
    qx (.store 1 (.t 24) (.c (.int .i64 (.ofNat 0)))),
    qo 25 (.iasl 6 (.t 20) (.t 21)),
    qo 26 (.faddr 4 (.t 25)),
    qx (.store 1 (.t 26) (.t 22))])
  (.region [qm 27 0,
    qo 28 (.nilck (.t 27)),
    qo 29 (.faddr 2 (.t 28)),
    qo 30 (.load false 1 (.t 29)),
    qm 31 0,
    qo 32 (.nilck (.t 31)),
    qo 33 (.faddr 2 (.t 32)),
    qo 34 (.load false 1 (.t 33)),
    qm 35 4,
    qm 36 1,
    qm 37 1,
    qo 38 (.iasl 6 (.t 30) (.c (.int .i64 (.ofNat 0)))),
    qo 39 (.faddr 4 (.t 38)),
    qx (.store 1 (.t 39) (.t 36)),
    qo 40 (.iasl 6 (.t 34) (.t 35)),
    qo 41 (.faddr 5 (.t 40)),
    qx (.store 1 (.t 41) (.t 37))]))) }
theorem tr_item_Store_in : trF cx Tryz.f167 = pf_item_Store_in := by kernel_rfl
/-- (*depot/chain.Chain).Put -/
def pf_chain_Chain_Put : PF := { ntmps := 83, results := [.tmp 6], body :=
  (.seq (.region [qo 6 (.mv (.c (.bool false)))])
  (.seq (.region [qm 10 0,
    qe 11 (.call 225 [(.t 10)])])
  (.seq (.region [qm 12 0,
    qm 13 1,
    qe 14 (.call 226 [(.t 12), (.t 13)]),
    qm 7 14])
  (.seq (.seq (.region [qm 15 7,
    qo 16 (.nilck (.t 15)),
    qo 17 (.load false 1 (.t 16)),
    qm 18 1,
    qe 19 (.call 227 [(.t 17), (.t 18)]),
    qm 8 19])
  (.seq (.region [qm 20 8,
    qo 21 (.bin .geq (.t 20) (.c (.int .i64 (.ofNat 0))))])
  (.cond (.t 21)
   (.seq (.region [qm 22 7,
     qo 23 (.nilck (.t 22)),
     qo 24 (.load false 1 (.t 23)),
     qm 25 8,
     qm 26 2,
     qo 27 (.iasl 2 (.t 24) (.t 25)),
     qo 28 (.faddr 1 (.t 27)),
     qx (.store 1 (.t 28) (.t 26))])
   (.seq (.region [qo 6 (.mv (.c (.bool false)))])
   .ret))
   .skip)))
  (.seq (.region [qm 29 7,
    qm 30 7,
    qo 31 (.nilck (.t 30)),
    qo 32 (.load false 1 (.t 31)),
    qm 33 1,
    qm 34 2,
    qo 35 (.build [(.str []), (.int .i64 (.ofNat 0))] [(0, 1, (.t 33)), (1, 1, (.t 34))]),
    qn 36 (.bslice 0 2 1 [(.str []), (.int .i64 (.ofNat 0))] [(0, 2, (.t 35))]),
    qe 37 (.app 0 2 24 (.t 32) (.t 36)),
    qo 38 (.nilck (.t 29)),
    qx (.store 1 (.t 38) (.t 37))])
  (.seq (.region [qm 39 0,
    qo 40 (.nilck (.t 39)),
    qo 41 (.faddr 3 (.t 40)),
    qo 42 (.load false 1 (.t 41)),
    qo 43 (.bin .add (.t 42) (.c (.int .i64 (.ofNat 1)))),
    qo 44 (.nilck (.t 39)),
    qo 45 (.faddr 3 (.t 44)),
    qx (.store 1 (.t 45) (.t 43))])
  (.seq (.seq (.region [qm 46 0,
    qo 47 (.nilck (.t 46)),
    qo 48 (.faddr 0 (.t 47)),
    qo 49 (.load false 1 (.t 48)),
    qo 50 (.lensl (.t 49)),
    qm 9 50])
  (.seq (.region [qm 51 0,
    qo 52 (.nilck (.t 51)),
    qo 53 (.faddr 1 (.t 52)),
    qo 54 (.load false 1 (.t 53)),
    qo 55 (.lensl (.t 54)),
    qo 56 (.bin .eql (.t 55) (.c (.int .i64 (.ofNat 0)))),
    qm 57 56,
    qg 58 57 true 0,
    qh 59 57 true (.nilck (.t 58)),
    qh 60 57 true (.faddr 3 (.t 59)),
    qh 61 57 true (.load false 1 (.t 60)),
    qg 62 57 true 9,
    qh 63 57 true (.bin .mul (.c (.int .i64 (.ofNat 2))) (.t 62)),
    qh 64 57 true (.bin .gtr (.t 61) (.t 63)),
    qo 65 (.pick (.t 57) (.t 64) (.c (.bool false))),
    qm 66 65,
    qg 67 66 true 9,
    qh 68 66 true (.bin .lss (.t 67) (.c (.int .i64 (.ofNat 4096)))),
    qo 69 (.pick (.t 66) (.t 68) (.c (.bool false)))])
  (.cond (.t 69)
   (.region [qm 70 0,
     qm 71 0,
     qm 72 0,
     qo 73 (.nilck (.t 72)),
     qo 74 (.faddr 0 (.t 73)),
     qo 75 (.load false 1 (.t 74)),
     qm 76 9,
     qo 77 (.bin .mul (.c (.int .i64 (.ofNat 2))) (.t 76)),
     qn 78 (.mksl 0 1 24 [.nils] (.t 77) (.t 77)),
     qo 79 (.nilck (.t 70)),
     qo 80 (.faddr 1 (.t 79)),
     qx (.store 1 (.t 80) (.t 75)),
     qo 81 (.nilck (.t 71)),
     qo 82 (.faddr 0 (.t 81)),
     qx (.store 1 (.t 82) (.t 78))])
   .skip)))
  (.seq (.region [qo 6 (.mv (.c (.bool true)))])
  .ret)))))))) }
theorem tr_chain_Chain_Put : trF cx Tryz.f168 = pf_chain_Chain_Put := by kernel_rfl
def l0_pack_num : PC :=
  (.seq (.seq (.region [qm 13 5,
    qo 14 (.bin .geq (.t 13) (.c (.int .u64 (.ofNat 128))))])
  (.cond (.t 14)
   .skip
   (.exit 0)))
  (.block 1 (.seq (.region [qm 15 0,
     qm 16 5,
     qo 17 (.cint .u8 (.t 16)),
     qo 18 (.bin .or (.t 17) (.c (.int .u8 (.ofNat 128)))),
     qn 19 (.bslice 2 1 1 [(.int .u8 (.ofNat 0))] [(0, 1, (.t 18))]),
     qe 20 (.app 2 1 1 (.t 15) (.t 19)),
     qm 0 20])
   (.region [qm 21 5,
     qo 22 (.bin .shr (.t 21) (.c (.int .u64 (.ofNat 7)))),
     qm 5 22]))))
/-- depot/pack.num -/
def pf_pack_num : PF := { ntmps := 28, results := [.tmp 4], body :=
  (.seq (.region [qo 4 (.mv (.c .nils))])
  (.seq (.region [qm 6 1,
    qo 7 (.cint .u64 (.t 6)),
    qo 8 (.bin .shl (.t 7) (.c (.int .u64 (.ofNat 1)))),
    qm 9 1,
    qo 10 (.bin .shr (.t 9) (.c (.int .u64 (.ofNat 63)))),
    qo 11 (.cint .u64 (.t 10)),
    qo 12 (.bin .xor (.t 8) (.t 11)),
    qm 5 12])
  (.seq (.block 0 (.loop l0_pack_num))
  (.seq (.region [qm 23 0,
    qm 24 5,
    qo 25 (.cint .u8 (.t 24)),
    qn 26 (.bslice 2 1 1 [(.int .u8 (.ofNat 0))] [(0, 1, (.t 25))]),
    qe 27 (.app 2 1 1 (.t 23) (.t 26)),
    qm 4 27])
  .ret)))) }
theorem tr_pack_num : trF cx Tryz.f169 = pf_pack_num := by kernel_rfl
/-- depot/pack.grown -/
def pf_pack_grown : PF := { ntmps := 12, results := [.tmp 4], body :=
  (.seq (.region [qo 4 (.mv (.c .nils))])
  (.seq (.region [qm 5 0,
    qo 6 (.lensl (.t 5)),
    qm 7 1,
    qo 8 (.bin .add (.t 6) (.t 7)),
    qn 9 (.mksl 2 1 1 [(.int .u8 (.ofNat 0))] (.c (.int .i64 (.ofNat 0))) (.t 8)),
    qm 10 0,
    qe 11 (.app 2 1 1 (.t 9) (.t 10)),
    qm 4 11])
  .ret)) }
theorem tr_pack_grown : trF cx Tryz.f170 = pf_pack_grown := by kernel_rfl
/-- (*depot/chain.Chain).Get -/
def pf_chain_Chain_Get : PF := { ntmps := 23, results := [.tmp 4, .tmp 5], body :=
  (.seq (.region [qo 4 (.mv (.c (.int .i64 (.ofNat 0)))),
    qo 5 (.mv (.c (.bool false)))])
  (.seq (.region [qm 8 0,
    qm 9 1,
    qe 10 (.call 226 [(.t 8), (.t 9)]),
    qo 11 (.nilck (.t 10)),
    qo 12 (.load false 1 (.t 11)),
    qm 6 12])
  (.seq (.seq (.region [qm 13 6,
    qm 14 1,
    qe 15 (.call 227 [(.t 13), (.t 14)]),
    qm 7 15])
  (.seq (.region [qm 16 7,
    qo 17 (.bin .geq (.t 16) (.c (.int .i64 (.ofNat 0))))])
  (.cond (.t 17)
   (.seq (.region [qm 18 6,
     qm 19 7,
     qo 20 (.iasl 2 (.t 18) (.t 19)),
     qo 21 (.faddr 1 (.t 20)),
     qo 22 (.load false 1 (.t 21)),
     qm 4 22,
     qo 5 (.mv (.c (.bool true)))])
   .ret)
   .skip)))
  (.seq (.region [qo 4 (.mv (.c (.int .i64 (.ofNat 0)))),
    qo 5 (.mv (.c (.bool false)))])
  .ret)))) }
theorem tr_chain_Chain_Get : trF cx Tryz.f171 = pf_chain_Chain_Get := by kernel_rfl
/-- (*depot/pack.Reader).End -/
def pf_pack_Reader_End : PF := { ntmps := 27, results := [.tmp 2], body :=
  (.seq (.region [qo 2 (.mv (.c (.int .i64 (.ofNat 0))))])
  (.seq (.seq (.region [qm 3 0,
    qo 4 (.nilck (.t 3)),
    qo 5 (.faddr 2 (.t 4)),
    qo 6 (.load false 1 (.t 5)),
    qo 7 (.bin .eql (.t 6) (.c (.int .i64 (.ofNat 0)))),
    qm 8 7,
    qg 9 8 true 0,
    qh 10 8 true (.nilck (.t 9)),
    qh 11 8 true (.faddr 1 (.t 10)),
    qh 12 8 true (.load false 1 (.t 11)),
    qg 13 8 true 0,
    qh 14 8 true (.nilck (.t 13)),
    qh 15 8 true (.faddr 0 (.t 14)),
    qh 16 8 true (.load false 1 (.t 15)),
    qh 17 8 true (.lensl (.t 16)),
    qh 18 8 true (.bin .lss (.t 12) (.t 17)),
    qo 19 (.pick (.t 8) (.t 18) (.c (.bool false)))])
  (.cond (.t 19)
   (.region [qm 20 0,
     qo 21 (.nilck (.t 20)),
     qo 22 (.faddr 2 (.t 21)),
     qx (.store 1 (.t 22) (.c (.int .i64 (.ofNat 5))))])
   .skip))
  (.seq (.region [qm 23 0,
    qo 24 (.nilck (.t 23)),
    qo 25 (.faddr 2 (.t 24)),
    qo 26 (.load false 1 (.t 25)),
    qm 2 26])
  .ret))) }
theorem tr_pack_Reader_End : trF cx Tryz.f183 = pf_pack_Reader_End := by kernel_rfl
def l0_place_Stripe : PC :=
  (.seq (.region [qo 32 (.bin .lss (.t 31) (.t 30))])
  (.seq (.cond (.t 32)
   .skip
   (.exit 0))
  (.seq (.block 1 (.seq (.region [qm 33 31,
     qm 9 33])
   (.region [qm 34 8,
     qm 35 7,
     qm 36 9,
     qo 37 (.bin .add (.t 35) (.t 36)),
     qm 38 2,
     qo 39 (.bin .rem (.t 37) (.t 38)),
     qn 40 (.bslice 0 1 1 [(.int .i64 (.ofNat 0))] [(0, 1, (.t 39))]),
     qe 41 (.app 0 1 8 (.t 34) (.t 40)),
     qm 8 41])))
  (.region [qo 42 (.bin .add (.t 31) (.c (.int .i64 (.ofNat 1)))),
    qm 31 42]))))
/-- depot/place.Stripe -/
def pf_place_Stripe : PF := { ntmps := 44, results := [.tmp 6], body :=
  (.seq (.region [qo 6 (.mv (.c .nils))])
  (.seq (.seq (.region [qm 10 2,
    qo 11 (.bin .lss (.t 10) (.c (.int .i64 (.ofNat 1)))),
    qm 12 11,
    qg 13 12 false 2,
    qh 14 12 false (.bin .gtr (.t 13) (.c (.int .i64 (.ofNat 12)))),
    qo 15 (.pick (.t 12) (.c (.bool true)) (.t 14)),
    qm 16 15,
    qg 17 16 false 1,
    qh 18 16 false (.bin .lss (.t 17) (.c (.int .i64 (.ofNat 0)))),
    qo 19 (.pick (.t 16) (.c (.bool true)) (.t 18)),
    qm 20 19,
    qg 21 20 false 1,
    qg 22 20 false 2,
    qh 23 20 false (.bin .gtr (.t 21) (.t 22)),
    qo 24 (.pick (.t 20) (.c (.bool true)) (.t 23))])
  (.cond (.t 24)
   (.seq (.region [qo 6 (.mv (.c .nils))])
   .ret)
   .skip))
  (.seq (.region [qm 25 0,
    qe 26 (.call 234 [(.t 25)]),
    qo 27 (.cint .i64 (.t 26)),
    qm 28 2,
    qo 29 (.bin .rem (.t 27) (.t 28)),
    qm 7 29])
  (.seq (.region [qo 8 (.mv (.c .nils))])
  (.seq (.seq (.region [qm 30 1,
    qo 31 (.mv (.c (.int .i64 (.ofNat 0))))])
  (.block 0 (.loop l0_place_Stripe)))
  (.seq (.region [qm 43 8,
    qm 6 43])
  .ret)))))) }
theorem tr_place_Stripe : trF cx Tryz.f184 = pf_place_Stripe := by kernel_rfl
def l0_gather_Gather_Next : PC :=
  (.seq (.seq (.region [qm 4 0,
    qo 5 (.nilck (.t 4)),
    qo 6 (.faddr 3 (.t 5)),
    qo 7 (.load false 1 (.t 6)),
    qm 8 0,
    qo 9 (.nilck (.t 8)),
    qo 10 (.faddr 2 (.t 9)),
    qo 11 (.load false 1 (.t 10)),
    qo 12 (.lensl (.t 11)),
    qo 13 (.bin .lss (.t 7) (.t 12))])
  (.cond (.t 13)
   .skip
   (.exit 0)))
  (.block 1 (.seq (.seq (.region [qm 14 0,
     qo 15 (.nilck (.t 14)),
     qo 16 (.faddr 5 (.t 15)),
     qo 17 (.load false 1 (.t 16)),
     qo 18 (.lensl (.t 17)),
     qm 19 0,
     qo 20 (.nilck (.t 19)),
     qo 21 (.faddr 0 (.t 20)),
     qo 22 (.load false 1 (.t 21)),
     qo 23 (.bin .geq (.t 18) (.t 22)),
     qm 24 23,
     qg 25 24 false 0,
     qh 26 24 false (.nilck (.t 25)),
     qh 27 24 false (.faddr 5 (.t 26)),
     qh 28 24 false (.load false 1 (.t 27)),
     qh 29 24 false (.lensl (.t 28)),
     qg 30 24 false 0,
     qh 31 24 false (.nilck (.t 30)),
     qh 32 24 false (.faddr 4 (.t 31)),
     qh 33 24 false (.load false 1 (.t 32)),
     qh 34 24 false (.bin .add (.t 29) (.t 33)),
     qg 35 24 false 0,
     qh 36 24 false (.nilck (.t 35)),
     qh 37 24 false (.faddr 0 (.t 36)),
     qh 38 24 false (.load false 1 (.t 37)),
     qg 39 24 false 0,
     qh 40 24 false (.nilck (.t 39)),
     qh 41 24 false (.faddr 1 (.t 40)),
     qh 42 24 false (.load false 1 (.t 41)),
     qh 43 24 false (.bin .add (.t 38) (.t 42)),
     qh 44 24 false (.bin .geq (.t 34) (.t 43)),
     qo 45 (.pick (.t 24) (.c (.bool true)) (.t 44))])
   (.cond (.t 45)
    (.exit 0)
    .skip))
   (.seq (.region [qm 46 3,
     qm 47 0,
     qo 48 (.nilck (.t 47)),
     qo 49 (.faddr 2 (.t 48)),
     qo 50 (.load false 1 (.t 49)),
     qm 51 0,
     qo 52 (.nilck (.t 51)),
     qo 53 (.faddr 3 (.t 52)),
     qo 54 (.load false 1 (.t 53)),
     qo 55 (.iasl 1 (.t 50) (.t 54)),
     qo 56 (.load false 1 (.t 55)),
     qn 57 (.bslice 0 1 1 [(.int .i64 (.ofNat 0))] [(0, 1, (.t 56))]),
     qe 58 (.app 0 1 8 (.t 46) (.t 57)),
     qm 3 58])
   (.seq (.region [qm 59 0,
     qo 60 (.nilck (.t 59)),
     qo 61 (.faddr 3 (.t 60)),
     qo 62 (.load false 1 (.t 61)),
     qo 63 (.bin .add (.t 62) (.c (.int .i64 (.ofNat 1)))),
     qo 64 (.nilck (.t 59)),
     qo 65 (.faddr 3 (.t 64)),
     qx (.store 1 (.t 65) (.t 63))])
   (.region [qm 66 0,
     qo 67 (.nilck (.t 66)),
     qo 68 (.faddr 4 (.t 67)),
     qo 69 (.load false 1 (.t 68)),
     qo 70 (.bin .add (.t 69) (.c (.int .i64 (.ofNat 1)))),
     qo 71 (.nilck (.t 66)),
     qo 72 (.faddr 4 (.t 71)),
     qx (.store 1 (.t 72) (.t 70))]))))))
/-- (*depot/gather.Gather).Next -/
def pf_gather_Gather_Next : PF := { ntmps := 74, results := [.tmp 2], body :=
  (.seq (.region [qo 2 (.mv (.c .nils))])
  (.scope (.seq (.region [qo 3 (.mv (.c .nils))])
   (.seq .skip
   (.seq (.block 0 (.loop l0_gather_Gather_Next))
   (.seq (.region [qm 73 3,
     qm 2 73])
   .ret)))))) }
theorem tr_gather_Gather_Next : trF cx Tryz.f185 = pf_gather_Gather_Next := by kernel_rfl
/-- (*depot/task.Task).ask -/
def pf_task_Task_ask : PF := { ntmps := 30, results := [], body :=
  (.seq (.region [qn 5 (.box (.t 2))])
  (.seq (.region [qm 6 1,
    qm 7 0,
    qo 8 (.nilck (.t 7)),
    qo 9 (.faddr 7 (.t 8)),
    qo 10 (.load false 1 (.t 9)),
    qo 11 (.faddr 1 (.t 5)),
    qx (.store 1 (.t 11) (.t 6)),
    .again ⟨(some 10), none, (.r (.load false 1 (.t 9)))⟩,
    qo 12 (.faddr 6 (.t 5)),
    qx (.store 1 (.t 12) (.t 10))])
  (.seq (.region [qm 13 0,
    qm 14 0,
    qo 15 (.nilck (.t 14)),
    qo 16 (.faddr 36 (.t 15)),
    qo 17 (.load false 1 (.t 16)),
    qo 18 (.load true 9 (.t 5)),
    qn 19 (.bslice 0 9 1 [(.int .i64 (.ofNat 0)), (.int .i64 (.ofNat 0)), (.int .i64 (.ofNat 0)), (.int .i64 (.ofNat 0)), (.int .i64 (.ofNat 0)), (.int .i64 (.ofNat 0)), (.str []), (.int .i64 (.ofNat 0)), (.str [])] [(0, 9, (.t 18))]),
    qe 20 (.app 0 9 88 (.t 17) (.t 19)),
    qo 21 (.nilck (.t 13)),
    qo 22 (.faddr 36 (.t 21)),
    qx (.store 1 (.t 22) (.t 20))])
  (.region [qm 23 0,
    qo 24 (.nilck (.t 23)),
    qo 25 (.faddr 22 (.t 24)),
    qo 26 (.load false 1 (.t 25)),
    qo 27 (.bin .add (.t 26) (.c (.int .i64 (.ofNat 1)))),
    qo 28 (.nilck (.t 23)),
    qo 29 (.faddr 22 (.t 28)),
    qx (.store 1 (.t 29) (.t 27))])))) }
theorem tr_task_Task_ask : trF cx Tryz.f186 = pf_task_Task_ask := by kernel_rfl
/-- (*depot/task.Task).gathered -/
def pf_task_Task_gathered : PF := { ntmps := 84, results := [], body :=
  (.seq (.region [qn 3 (.box (.t 1))])
  (.seq (.region [qm 6 0,
    qo 7 (.nilck (.t 6)),
    qo 8 (.faddr 44 (.t 7)),
    qo 9 (.load false 1 (.t 8)),
    qe 10 (.call 235 [(.t 9)]),
    qm 4 10])
  (.seq (.seq (.region [qm 11 4,
    qo 12 (.bin .eql (.t 11) (.c (.int .i64 (.ofNat 0))))])
  (.cond (.t 12)
   .ret
   .skip))
  (.seq (.region [qo 5 (.mv (.c (.int .i64 (.ofNat 3))))])
  (.seq (.seq (.region [qm 13 4,
    qo 14 (.bin .eql (.t 13) (.c (.int .i64 (.ofNat 1))))])
  (.cond (.t 14)
   (.region [qm 16 0,
     qm 17 0,
     qo 18 (.nilck (.t 17)),
     qo 19 (.faddr 6 (.t 18)),
     qo 20 (.load false 1 (.t 19)),
     qm 21 0,
     qo 22 (.nilck (.t 21)),
     qo 23 (.faddr 37 (.t 22)),
     qo 24 (.faddr 4 (.t 23)),
     qo 25 (.load false 1 (.t 24)),
     qm 26 0,
     qo 27 (.nilck (.t 26)),
     qo 28 (.faddr 44 (.t 27)),
     qo 29 (.load false 1 (.t 28)),
     qe 30 (.call 237 [(.t 29)]),
     .again ⟨(some 25), none, (.r (.load false 1 (.t 24)))⟩,
     .again ⟨(some 20), none, (.r (.load false 1 (.t 19)))⟩,
     qe 31 (.call 236 [(.t 20), (.t 25), (.t 30)]),
     qm 15 31,
     qo 32 (.ext 0 (.t 15)),
     qo 33 (.ext 1 (.t 15)),
     qo 34 (.nilck (.t 16)),
     qo 35 (.faddr 45 (.t 34)),
     qx (.store 1 (.t 35) (.t 32)),
     qm 5 33])
   .skip))
  (.block 0 (.seq (.region [qm 49 5,
     qo 50 (.bin .neq (.t 49) (.c (.int .i64 (.ofNat 0)))),
     qm 48 50])
   (.cond (.t 48)
    (.seq (.region [qm 51 0,
      qo 52 (.nilck (.t 51)),
      qo 53 (.faddr 43 (.t 52)),
      qx (.store 1 (.t 53) (.c (.bool false)))])
    (.seq (.region [qm 54 0,
      qm 55 0,
      qo 56 (.nilck (.t 55)),
      qo 57 (.faddr 51 (.t 56)),
      qo 58 (.load false 1 (.t 57)),
      qm 59 0,
      qo 60 (.nilck (.t 59)),
      qo 61 (.faddr 37 (.t 60)),
      qo 62 (.faddr 0 (.t 61)),
      qo 63 (.load false 1 (.t 62)),
      qn 64 (.bslice 0 1 1 [(.int .i64 (.ofNat 0))] [(0, 1, (.t 63))]),
      qe 65 (.app 0 1 8 (.t 58) (.t 64)),
      qo 66 (.nilck (.t 54)),
      qo 67 (.faddr 51 (.t 66)),
      qx (.store 1 (.t 67) (.t 65))])
    (.region [qm 68 0,
      qo 69 (.load true 14 (.t 3)),
      qm 70 0,
      qo 71 (.nilck (.t 70)),
      qo 72 (.faddr 42 (.t 71)),
      qo 73 (.load false 1 (.t 72)),
      qo 74 (.bad)])))
    (.seq (.region [qm 76 0,
      qo 77 (.nilck (.t 76)),
      qo 78 (.faddr 17 (.t 77)),
      qo 79 (.load false 1 (.t 78)),
      qo 80 (.bin .lss (.t 79) (.c (.int .i64 (.ofNat 0)))),
      qm 75 80])
    (.cond (.t 75)
     (.region [qm 81 0,
       qo 82 (.load true 14 (.t 3)),
       qe 83 (.call 192 [(.t 81), (.t 82)])])
     (.region [qm 36 0,
       qo 37 (.load true 14 (.t 3)),
       qm 38 0,
       qo 39 (.nilck (.t 38)),
       qo 40 (.faddr 6 (.t 39)),
       qo 41 (.load false 1 (.t 40)),
       qm 42 0,
       qo 43 (.nilck (.t 42)),
       qo 44 (.faddr 45 (.t 43)),
       qo 45 (.load false 1 (.t 44)),
       qe 46 (.call 240 [(.t 41), (.t 45)]),
       .again ⟨(some 37), none, (.r (.load true 14 (.t 3)))⟩,
       qo 47 (.bad)]))))))))))) }
theorem tr_task_Task_gathered : trF cx Tryz.f187 = pf_task_Task_gathered := by kernel_rfl
/-- (*depot/task.Task).found -/
def pf_task_Task_found : PF := { ntmps := 117, results := [], body :=
  (.seq (.region [qn 3 (.box (.t 1))])
  (.seq (.region [qm 4 0,
    qm 5 0,
    qo 6 (.nilck (.t 5)),
    qo 7 (.faddr 42 (.t 6)),
    qo 8 (.load false 1 (.t 7)),
    qo 9 (.faddr 13 (.t 3)),
    qo 10 (.load false 1 (.t 9)),
    qo 11 (.bin .gtr (.t 8) (.t 10)),
    qm 12 11,
    qg 13 12 true 0,
    qh 14 12 true (.nilck (.t 13)),
    qh 15 12 true (.faddr 42 (.t 14)),
    qh 16 12 true (.load false 1 (.t 15)),
    qh 17 12 true (.bin .gtr (.t 16) (.c (.int .i64 (.ofNat 0)))),
    qo 18 (.pick (.t 12) (.t 17) (.c (.bool false))),
    qm 19 18,
    qg 20 19 true 0,
    qh 21 19 true (.nilck (.t 20)),
    qh 22 19 true (.faddr 37 (.t 21)),
    qh 23 19 true (.faddr 3 (.t 22)),
    qh 24 19 true (.load false 1 (.t 23)),
    qh 25 19 true (.faddr 12 (.t 3)),
    qh 26 19 true (.load false 1 (.t 25)),
    .op ⟨(some 27), (some (19, true)), (.e (.call 241 [(.t 24), (.t 26)]))⟩,
    qo 28 (.pick (.t 19) (.t 27) (.c (.bool false))),
    qo 29 (.nilck (.t 4)),
    qo 30 (.faddr 43 (.t 29)),
    qx (.store 1 (.t 30) (.t 28))])
  (.seq (.seq (.region [qm 31 0,
    qo 32 (.nilck (.t 31)),
    qo 33 (.faddr 42 (.t 32)),
    qo 34 (.load false 1 (.t 33)),
    qo 35 (.bin .gtr (.t 34) (.c (.int .i64 (.ofNat 0)))),
    qm 36 35,
    qg 37 36 true 0,
    qh 38 36 true (.nilck (.t 37)),
    qh 39 36 true (.faddr 43 (.t 38)),
    qh 40 36 true (.load false 1 (.t 39)),
    qh 41 36 true (.un .not (.t 40)),
    qo 42 (.pick (.t 36) (.t 41) (.c (.bool false)))])
  (.cond (.t 42)
   (.region [qm 43 0,
     qm 44 0,
     qo 45 (.nilck (.t 44)),
     qo 46 (.faddr 51 (.t 45)),
     qo 47 (.load false 1 (.t 46)),
     qm 48 0,
     qo 49 (.nilck (.t 48)),
     qo 50 (.faddr 37 (.t 49)),
     qo 51 (.faddr 0 (.t 50)),
     qo 52 (.load false 1 (.t 51)),
     qn 53 (.bslice 0 1 1 [(.int .i64 (.ofNat 0))] [(0, 1, (.t 52))]),
     qe 54 (.app 0 1 8 (.t 47) (.t 53)),
     qo 55 (.nilck (.t 43)),
     qo 56 (.faddr 51 (.t 55)),
     qx (.store 1 (.t 56) (.t 54))])
   .skip))
  (.block 0 (.seq (.region [qm 61 0,
     qo 62 (.nilck (.t 61)),
     qo 63 (.faddr 17 (.t 62)),
     qo 64 (.load false 1 (.t 63)),
     qo 65 (.bin .geq (.t 64) (.c (.int .i64 (.ofNat 0)))),
     qm 66 65,
     qg 67 66 true 0,
     qh 68 66 true (.nilck (.t 67)),
     qh 69 66 true (.faddr 43 (.t 68)),
     qh 70 66 true (.load false 1 (.t 69)),
     qh 71 66 true (.un .not (.t 70)),
     qo 72 (.pick (.t 66) (.t 71) (.c (.bool false))),
     qm 60 72])
   (.cond (.t 60)
    (.region [qm 73 0,
      qo 74 (.load true 14 (.t 3)),
      qe 75 (.call 191 [(.t 73), (.t 74)])])
    (.seq (.region [qm 77 0,
      qo 78 (.nilck (.t 77)),
      qo 79 (.faddr 42 (.t 78)),
      qo 80 (.load false 1 (.t 79)),
      qo 81 (.bin .eql (.t 80) (.c (.int .i64 (.ofNat 0)))),
      qm 82 81,
      qg 83 82 true 0,
      qh 84 82 true (.load true 14 (.t 3)),
      .op ⟨(some 85), (some (82, true)), (.e (.call 242 [(.t 83), (.t 84)]))⟩,
      qo 86 (.pick (.t 82) (.t 85) (.c (.bool false))),
      qm 76 86])
    (.cond (.t 76)
     (.region [qm 87 0,
       qo 88 (.load true 14 (.t 3)),
       qm 89 0,
       qo 90 (.nilck (.t 89)),
       qo 91 (.faddr 18 (.t 90)),
       qo 92 (.load false 1 (.t 91)),
       qo 93 (.bad)])
     (.seq (.region [qm 95 0,
       qo 96 (.nilck (.t 95)),
       qo 97 (.faddr 43 (.t 96)),
       qo 98 (.load false 1 (.t 97)),
       qm 99 98,
       qg 100 99 true 0,
       qh 101 99 true (.nilck (.t 100)),
       qh 102 99 true (.faddr 17 (.t 101)),
       qh 103 99 true (.load false 1 (.t 102)),
       qh 104 99 true (.bin .geq (.t 103) (.c (.int .i64 (.ofNat 0)))),
       qg 105 99 true 104,
       qg 106 105 false 0,
       qh 107 105 false (.nilck (.t 106)),
       qh 108 105 false (.faddr 8 (.t 107)),
       qh 109 105 false (.faddr 0 (.t 108)),
       qh 110 105 false (.load false 1 (.t 109)),
       .op ⟨(some 111), (some (105, false)), (.e (.call 243 [(.t 110)]))⟩,
       qh 112 99 true (.pick (.t 105) (.c (.bool true)) (.t 111)),
       qo 113 (.pick (.t 99) (.t 112) (.c (.bool false))),
       qm 94 113])
     (.cond (.t 94)
      (.region [qm 114 0,
        qo 115 (.load true 14 (.t 3)),
        qe 116 (.call 244 [(.t 114), (.t 115)])])
      (.region [qm 57 0,
        qo 58 (.load true 14 (.t 3)),
        qe 59 (.call 192 [(.t 57), (.t 58)])]))))))))))) }
theorem tr_task_Task_found : trF cx Tryz.f188 = pf_task_Task_found := by kernel_rfl
/-- (*depot/task.Task).scattered -/
def pf_task_Task_scattered : PF := { ntmps := 31, results := [], body :=
  (.seq (.region [qn 3 (.box (.t 1))])
  (.seq (.seq (.region [qm 4 0,
    qo 5 (.nilck (.t 4)),
    qo 6 (.faddr 23 (.t 5)),
    qo 7 (.load false 1 (.t 6)),
    qm 8 0,
    qo 9 (.nilck (.t 8)),
    qo 10 (.faddr 0 (.t 9)),
    qo 11 (.faddr 0 (.t 10)),
    qo 12 (.load false 1 (.t 11)),
    qo 13 (.bin .geq (.t 7) (.t 12))])
  (.cond (.t 13)
   (.seq (.region [qm 14 0,
     qo 15 (.load true 14 (.t 3)),
     qe 16 (.call 245 [(.t 14), (.t 15)])])
   .ret)
   .skip))
  (.seq (.region [qm 17 0,
    qo 18 (.build [(.int .i64 (.ofNat 0)), .nils, (.bool false), (.int .u64 (.ofNat 0)), (.str []), (.int .i64 (.ofNat 0)), (.int .i64 (.ofNat 0)), (.int .i64 (.ofNat 0)), (.int .i64 (.ofNat 0))] [(0, 1, (.c (.int .i64 (.ofNat 14)))), (4, 1, (.c (.str [111, 117, 116, 32, 111, 102, 32, 109, 101, 109, 111, 114, 121, 32, 115, 116, 111, 114, 105, 110, 103, 32, 111, 98, 106, 101, 99, 116])))]),
    qe 19 (.call 193 [(.t 17), (.t 18)])])
  (.seq (.region [qm 20 0,
    qm 21 0,
    qo 22 (.nilck (.t 21)),
    qo 23 (.faddr 18 (.t 22)),
    qo 24 (.load false 1 (.t 23)),
    qn 25 (.bslice 0 1 1 [(.int .i64 (.ofNat 0))] [(0, 1, (.t 24))]),
    qo 26 (.nilck (.t 20)),
    qo 27 (.faddr 51 (.t 26)),
    qx (.store 1 (.t 27) (.t 25))])
  (.region [qm 28 0,
    qo 29 (.load true 14 (.t 3)),
    qe 30 (.call 191 [(.t 28), (.t 29)])]))))) }
theorem tr_task_Task_scattered : trF cx Tryz.f189 = pf_task_Task_scattered := by kernel_rfl
/-- (*depot/task.Task).written -/
def pf_task_Task_written : PF := { ntmps := 66, results := [], body :=
  (.seq (.region [qn 3 (.box (.t 1))])
  (.seq (.seq (.region [qm 4 0,
    qo 5 (.nilck (.t 4)),
    qo 6 (.faddr 23 (.t 5)),
    qo 7 (.load false 1 (.t 6)),
    qo 8 (.bin .gtr (.t 7) (.c (.int .i64 (.ofNat 0))))])
  (.cond (.t 8)
   (.region [qm 9 0,
     qm 10 0,
     qo 11 (.nilck (.t 10)),
     qo 12 (.faddr 52 (.t 11)),
     qo 13 (.load true 9 (.t 12)),
     qe 14 (.call 193 [(.t 9), (.t 13)])])
   (.seq (.region [qm 15 0,
     qo 16 (.build [(.int .i64 (.ofNat 0)), .nils, (.bool false), (.int .u64 (.ofNat 0)), (.str []), (.int .i64 (.ofNat 0)), (.int .i64 (.ofNat 0)), (.int .i64 (.ofNat 0)), (.int .i64 (.ofNat 0))] [(0, 1, (.c (.int .i64 (.ofNat 14)))), (4, 1, (.c (.str [111, 117, 116, 32, 111, 102, 32, 109, 101, 109, 111, 114, 121, 32, 115, 116, 111, 114, 105, 110, 103, 32, 111, 98, 106, 101, 99, 116])))]),
     qe 17 (.call 193 [(.t 15), (.t 16)])])
   (.region [qm 18 0,
     qm 19 0,
     qo 20 (.nilck (.t 19)),
     qo 21 (.faddr 51 (.t 20)),
     qo 22 (.load false 1 (.t 21)),
     qm 23 0,
     qo 24 (.nilck (.t 23)),
     qo 25 (.faddr 46 (.t 24)),
     qo 26 (.faddr 0 (.t 25)),
     qo 27 (.load false 1 (.t 26)),
     qn 28 (.bslice 0 1 1 [(.int .i64 (.ofNat 0))] [(0, 1, (.t 27))]),
     qe 29 (.app 0 1 8 (.t 22) (.t 28)),
     qo 30 (.nilck (.t 18)),
     qo 31 (.faddr 51 (.t 30)),
     qx (.store 1 (.t 31) (.t 29))]))))
  (.seq (.seq (.region [qm 32 0,
    qo 33 (.nilck (.t 32)),
    qo 34 (.faddr 43 (.t 33)),
    qo 35 (.load false 1 (.t 34)),
    qm 36 35,
    qg 37 36 true 0,
    qh 38 36 true (.nilck (.t 37)),
    qh 39 36 true (.faddr 37 (.t 38)),
    qh 40 36 true (.faddr 0 (.t 39)),
    qh 41 36 true (.load false 1 (.t 40)),
    qg 42 36 true 0,
    qh 43 36 true (.nilck (.t 42)),
    qh 44 36 true (.faddr 46 (.t 43)),
    qh 45 36 true (.faddr 0 (.t 44)),
    qh 46 36 true (.load false 1 (.t 45)),
    qh 47 36 true (.bin .neq (.t 41) (.t 46)),
    qo 48 (.pick (.t 36) (.t 47) (.c (.bool false)))])
  (.cond (.t 48)
   (.region [qm 49 0,
     qm 50 0,
     qo 51 (.nilck (.t 50)),
     qo 52 (.faddr 51 (.t 51)),
     qo 53 (.load false 1 (.t 52)),
     qm 54 0,
     qo 55 (.nilck (.t 54)),
     qo 56 (.faddr 37 (.t 55)),
     qo 57 (.faddr 0 (.t 56)),
     qo 58 (.load false 1 (.t 57)),
     qn 59 (.bslice 0 1 1 [(.int .i64 (.ofNat 0))] [(0, 1, (.t 58))]),
     qe 60 (.app 0 1 8 (.t 53) (.t 59)),
     qo 61 (.nilck (.t 49)),
     qo 62 (.faddr 51 (.t 61)),
     qx (.store 1 (.t 62) (.t 60))])
   .skip))
  (.region [qm 63 0,
    qo 64 (.load true 14 (.t 3)),
    qe 65 (.call 191 [(.t 63), (.t 64)])])))) }
theorem tr_task_Task_written : trF cx Tryz.f190 = pf_task_Task_written := by kernel_rfl
def l0_task_Task_clean : PC :=
  (.seq (.region [qo 14 (.bin .lss (.t 13) (.t 12))])
  (.seq (.cond (.t 14)
   .skip
   (.exit 0))
  (.seq (.block 1 (.seq (.region [qo 15 (.iasl 1 (.t 11) (.t 13)),
     qo 16 (.load false 1 (.t 15)),
     qm 5 16])
   (.region [qm 17 0,
     qo 18 (.load true 14 (.t 3)),
     qm 19 0,
     qo 20 (.nilck (.t 19)),
     qo 21 (.faddr 19 (.t 20)),
     qo 22 (.load false 1 (.t 21)),
     qm 23 5,
     qo 24 (.build [(.int .i64 (.ofNat 0)), (.int .i64 (.ofNat 0)), (.int .i64 (.ofNat 0)), (.int .i64 (.ofNat 0)), (.int .i64 (.ofNat 0)), (.int .i64 (.ofNat 0)), (.str []), (.int .i64 (.ofNat 0)), (.str [])] [(0, 1, (.c (.int .i64 (.ofNat 3)))), (5, 1, (.c (.int .i64 (.ofNat 2)))), (7, 1, (.t 23))]),
     qe 25 (.call 246 [(.t 17), (.t 18), (.t 22), (.t 24)])])))
  (.region [qo 26 (.bin .add (.t 13) (.c (.int .i64 (.ofNat 1)))),
    qm 13 26]))))
/-- (*depot/task.Task).clean -/
def pf_task_Task_clean : PF := { ntmps := 30, results := [], body :=
  (.seq (.region [qn 3 (.box (.t 1))])
  (.seq (.region [qm 6 0,
    qe 7 (.call 219 [(.t 6), (.c (.int .i64 (.ofNat 8)))])])
  (.seq (.seq (.region [qm 8 0,
    qo 9 (.nilck (.t 8)),
    qo 10 (.faddr 51 (.t 9)),
    qo 11 (.load false 1 (.t 10)),
    qo 12 (.lensl (.t 11)),
    qo 13 (.mv (.c (.int .i64 (.ofNat 0))))])
  (.block 0 (.loop l0_task_Task_clean)))
  (.region [qm 27 0,
    qo 28 (.load true 14 (.t 3)),
    qe 29 (.call 134 [(.t 27), (.t 28)])])))) }
theorem tr_task_Task_clean : trF cx Tryz.f191 = pf_task_Task_clean := by kernel_rfl
/-- (*depot/task.Task).decide -/
def pf_task_Task_decide : PF := { ntmps := 182, results := [], body :=
  (.seq (.region [qn 3 (.box (.t 1))])
  (.seq (.region [qm 11 0,
    qo 12 (.nilck (.t 11)),
    qo 13 (.faddr 37 (.t 12)),
    qo 14 (.load true 5 (.t 13)),
    qn 4 (.new 0 [(.int .i64 (.ofNat 0)), (.int .i64 (.ofNat 0)), (.int .i64 (.ofNat 0)), (.int .i64 (.ofNat 0)), (.int .i64 (.ofNat 0))]),
    qx (.store 5 (.t 4) (.t 14))])
  (.seq (.seq (.region [qm 15 0,
    qo 16 (.nilck (.t 15)),
    qo 17 (.faddr 8 (.t 16)),
    qo 18 (.faddr 0 (.t 17)),
    qo 19 (.load false 1 (.t 18)),
    qo 20 (.bin .eql (.t 19) (.c (.int .i64 (.ofNat 1)))),
    qm 21 20,
    qg 22 21 false 0,
    qh 23 21 false (.nilck (.t 22)),
    qh 24 21 false (.faddr 8 (.t 23)),
    qh 25 21 false (.faddr 0 (.t 24)),
    qh 26 21 false (.load false 1 (.t 25)),
    qh 27 21 false (.bin .eql (.t 26) (.c (.int .i64 (.ofNat 2)))),
    qo 28 (.pick (.t 21) (.c (.bool true)) (.t 27))])
  (.cond (.t 28)
   (.seq (.region [qm 29 0,
     qo 30 (.nilck (.t 29)),
     qo 31 (.faddr 8 (.t 30)),
     qo 32 (.faddr 0 (.t 31)),
     qo 33 (.load false 1 (.t 32)),
     qo 34 (.bin .eql (.t 33) (.c (.int .i64 (.ofNat 2)))),
     qo 35 (.build [(.int .i64 (.ofNat 0)), .nils, (.bool false), (.int .u64 (.ofNat 0)), (.str []), (.int .i64 (.ofNat 0)), (.int .i64 (.ofNat 0)), (.int .i64 (.ofNat 0)), (.int .i64 (.ofNat 0))] [(0, 1, (.c (.int .i64 (.ofNat 1)))), (2, 1, (.t 34))]),
     qn 5 (.new 0 [(.int .i64 (.ofNat 0)), .nils, (.bool false), (.int .u64 (.ofNat 0)), (.str []), (.int .i64 (.ofNat 0)), (.int .i64 (.ofNat 0)), (.int .i64 (.ofNat 0)), (.int .i64 (.ofNat 0))]),
     qx (.store 9 (.t 5) (.t 35))])
   (.seq (.seq (.region [qm 36 0,
     qo 37 (.nilck (.t 36)),
     qo 38 (.faddr 43 (.t 37)),
     qo 39 (.load false 1 (.t 38))])
   (.cond (.t 39)
    (.region [qm 40 0,
      qo 41 (.nilck (.t 40)),
      qo 42 (.faddr 7 (.t 41)),
      qo 43 (.load false 1 (.t 42)),
      qo 44 (.faddr 2 (.t 4)),
      qo 45 (.load false 1 (.t 44)),
      qm 46 0,
      qo 47 (.nilck (.t 46)),
      qo 48 (.faddr 45 (.t 47)),
      qo 49 (.load false 1 (.t 48)),
      qo 50 (.faddr 1 (.t 4)),
      qo 51 (.load false 1 (.t 50)),
      qo 52 (.build [(.str []), (.int .i64 (.ofNat 0)), (.str []), (.int .i64 (.ofNat 0))] [(0, 1, (.t 43)), (1, 1, (.t 45)), (2, 1, (.t 49)), (3, 1, (.t 51))]),
      qn 53 (.bslice 0 4 1 [(.str []), (.int .i64 (.ofNat 0)), (.str []), (.int .i64 (.ofNat 0))] [(0, 4, (.t 52))]),
      qo 54 (.faddr 1 (.t 5)),
      qx (.store 1 (.t 54) (.t 53))])
    .skip))
   (.seq (.region [qm 55 0,
     qo 56 (.load true 9 (.t 5)),
     qe 57 (.call 193 [(.t 55), (.t 56)])])
   (.seq (.region [qm 58 0,
     qo 59 (.load true 14 (.t 3)),
     qe 60 (.call 191 [(.t 58), (.t 59)])])
   .ret))))
   .skip))
  (.seq (.region [qm 61 0,
    qo 62 (.nilck (.t 61)),
    qo 63 (.faddr 7 (.t 62)),
    qo 64 (.load false 1 (.t 63)),
    qo 65 (.faddr 2 (.t 4)),
    qo 66 (.load false 1 (.t 65)),
    qo 67 (.faddr 3 (.t 4)),
    qo 68 (.load false 1 (.t 67)),
    qm 69 0,
    qo 70 (.nilck (.t 69)),
    qo 71 (.faddr 45 (.t 70)),
    qo 72 (.load false 1 (.t 71)),
    qo 73 (.faddr 1 (.t 4)),
    qo 74 (.load false 1 (.t 73)),
    qo 75 (.build [(.str []), (.int .i64 (.ofNat 0)), (.int .i64 (.ofNat 0)), (.str []), (.int .i64 (.ofNat 0))] [(0, 1, (.t 64)), (1, 1, (.t 66)), (2, 1, (.t 68)), (3, 1, (.t 72)), (4, 1, (.t 74))]),
    qn 6 (.new 0 [(.str []), (.int .i64 (.ofNat 0)), (.int .i64 (.ofNat 0)), (.str []), (.int .i64 (.ofNat 0))]),
    qx (.store 5 (.t 6) (.t 75))])
  (.seq (.region [qm 77 0,
    qo 78 (.nilck (.t 77)),
    qo 79 (.faddr 8 (.t 78)),
    qo 80 (.load true 9 (.t 79)),
    qo 81 (.load true 5 (.t 6)),
    qm 82 0,
    qo 83 (.nilck (.t 82)),
    qo 84 (.faddr 43 (.t 83)),
    qo 85 (.load false 1 (.t 84)),
    qo 86 (.faddr 12 (.t 3)),
    qo 87 (.load false 1 (.t 86)),
    qm 88 0,
    qo 89 (.nilck (.t 88)),
    qo 90 (.faddr 18 (.t 89)),
    qo 91 (.load false 1 (.t 90)),
    qn 7 (.new 0 [(.int .i64 (.ofNat 0)), .nils, (.bool false), (.int .u64 (.ofNat 0)), (.str []), (.int .i64 (.ofNat 0)), (.int .i64 (.ofNat 0)), (.int .i64 (.ofNat 0)), (.int .i64 (.ofNat 0))]),
    qn 8 (.new 0 [(.str []), (.int .i64 (.ofNat 0)), (.int .i64 (.ofNat 0)), (.str []), (.int .i64 (.ofNat 0))]),
    qe 92 (.call 247 [(.t 80), (.t 81), (.t 85), (.t 87), (.t 91)]),
    qm 76 92,
    qo 93 (.ext 0 (.t 76)),
    qo 94 (.ext 1 (.t 76)),
    qo 95 (.ext 2 (.t 76)),
    qo 96 (.ext 3 (.t 76)),
    qx (.store 9 (.t 7) (.t 93)),
    qx (.store 5 (.t 8) (.t 94)),
    qm 9 95,
    qm 10 96])
  (.seq (.region [qm 97 0,
    qo 98 (.load true 9 (.t 7)),
    qo 99 (.nilck (.t 97)),
    qo 100 (.faddr 52 (.t 99)),
    qx (.store 9 (.t 100) (.t 98))])
  (.block 0 (.seq (.region [qm 124 10,
     qm 123 124])
   (.cond (.t 123)
    (.seq (.region [qm 125 0,
      qm 126 0,
      qo 127 (.nilck (.t 126)),
      qo 128 (.faddr 51 (.t 127)),
      qo 129 (.load false 1 (.t 128)),
      qo 130 (.faddr 0 (.t 4)),
      qo 131 (.load false 1 (.t 130)),
      qn 132 (.bslice 0 1 1 [(.int .i64 (.ofNat 0))] [(0, 1, (.t 131))]),
      qe 133 (.app 0 1 8 (.t 129) (.t 132)),
      qo 134 (.nilck (.t 125)),
      qo 135 (.faddr 51 (.t 134)),
      qx (.store 1 (.t 135) (.t 133))])
    (.seq (.region [qm 136 0,
      qe 137 (.call 219 [(.t 136), (.c (.int .i64 (.ofNat 6)))])])
    (.seq (.region [qm 138 0,
      qo 139 (.load true 14 (.t 3)),
      qm 140 0,
      qo 141 (.nilck (.t 140)),
      qo 142 (.faddr 20 (.t 141)),
      qo 143 (.load false 1 (.t 142)),
      qm 144 0,
      qo 145 (.nilck (.t 144)),
      qo 146 (.faddr 18 (.t 145)),
      qo 147 (.load false 1 (.t 146)),
      qo 148 (.build [(.int .i64 (.ofNat 0)), (.int .i64 (.ofNat 0)), (.int .i64 (.ofNat 0)), (.int .i64 (.ofNat 0)), (.int .i64 (.ofNat 0)), (.int .i64 (.ofNat 0)), (.str []), (.int .i64 (.ofNat 0)), (.str [])] [(0, 1, (.c (.int .i64 (.ofNat 3)))), (5, 1, (.c (.int .i64 (.ofNat 1)))), (7, 1, (.t 147))]),
      qe 149 (.call 246 [(.t 138), (.t 139), (.t 143), (.t 148)])])
    (.region [qm 150 0,
      qo 151 (.load true 14 (.t 3)),
      qe 152 (.call 134 [(.t 150), (.t 151)])]))))
    (.seq (.region [qm 154 9,
      qo 155 (.un .not (.t 154)),
      qm 153 155])
    (.cond (.t 153)
     (.seq (.region [qm 156 0,
       qo 157 (.load true 9 (.t 7)),
       qe 158 (.call 193 [(.t 156), (.t 157)])])
     (.region [qm 159 0,
       qo 160 (.load true 14 (.t 3)),
       qe 161 (.call 191 [(.t 159), (.t 160)])]))
     (.seq (.region [qm 163 0,
       qo 164 (.nilck (.t 163)),
       qo 165 (.faddr 8 (.t 164)),
       qo 166 (.faddr 0 (.t 165)),
       qo 167 (.load false 1 (.t 166)),
       qo 168 (.bin .eql (.t 167) (.c (.int .i64 (.ofNat 12)))),
       qm 162 168])
     (.cond (.t 162)
      (.seq (.region [qm 169 0,
        qo 170 (.load true 5 (.t 4)),
        qo 171 (.nilck (.t 169)),
        qo 172 (.faddr 46 (.t 171)),
        qx (.store 5 (.t 172) (.t 170))])
      (.seq (.region [qm 173 0,
        qo 174 (.faddr 2 (.t 8)),
        qo 175 (.load false 1 (.t 174)),
        qo 176 (.nilck (.t 173)),
        qo 177 (.faddr 46 (.t 176)),
        qo 178 (.faddr 3 (.t 177)),
        qx (.store 1 (.t 178) (.t 175))])
      (.region [qm 179 0,
        qo 180 (.load true 14 (.t 3)),
        qe 181 (.call 245 [(.t 179), (.t 180)])])))
      (.seq (.region [qm 101 0,
        qm 102 0,
        qo 103 (.nilck (.t 102)),
        qo 104 (.faddr 18 (.t 103)),
        qo 105 (.load false 1 (.t 104)),
        qo 106 (.faddr 4 (.t 8)),
        qo 107 (.load false 1 (.t 106)),
        qo 108 (.faddr 1 (.t 8)),
        qo 109 (.load false 1 (.t 108)),
        qo 110 (.faddr 2 (.t 8)),
        qo 111 (.load false 1 (.t 110)),
        qo 112 (.faddr 3 (.t 8)),
        qo 113 (.load false 1 (.t 112)),
        qo 114 (.lens (.t 113)),
        qo 115 (.build [(.int .i64 (.ofNat 0)), (.int .i64 (.ofNat 0)), (.int .i64 (.ofNat 0)), (.int .i64 (.ofNat 0)), (.int .i64 (.ofNat 0))] [(0, 1, (.t 105)), (1, 1, (.t 107)), (2, 1, (.t 109)), (3, 1, (.t 111)), (4, 1, (.t 114))]),
        qo 116 (.nilck (.t 101)),
        qo 117 (.faddr 46 (.t 116)),
        qx (.store 5 (.t 117) (.t 115))])
      (.region [qm 118 0,
        qo 119 (.load true 14 (.t 3)),
        qo 120 (.faddr 3 (.t 8)),
        qo 121 (.load false 1 (.t 120)),
        qe 122 (.call 248 [(.t 118), (.t 119), (.t 121)])]))))))))))))))) }
theorem tr_task_Task_decide : trF cx Tryz.f192 = pf_task_Task_decide := by kernel_rfl
/-- (*depot/task.Task).tell -/
def pf_task_Task_tell : PF := { ntmps := 11, results := [], body :=
  (.seq (.region [qn 3 (.box (.t 1))])
  (.region [qm 4 0,
    qm 5 0,
    qo 6 (.load true 9 (.t 3)),
    qo 7 (.nilck (.t 4)),
    qo 8 (.faddr 61 (.t 7)),
    qx (.store 9 (.t 8) (.t 6)),
    qo 9 (.nilck (.t 5)),
    qo 10 (.faddr 70 (.t 9)),
    qx (.store 1 (.t 10) (.c (.bool true)))])) }
theorem tr_task_Task_tell : trF cx Tryz.f193 = pf_task_Task_tell := by kernel_rfl
def l0_slices_IndexFunc_router_ticket_router_ticket : PC :=
  (.seq (.region [qo 9 (.bin .lss (.t 8) (.t 7))])
  (.seq (.cond (.t 9)
   .skip
   (.exit 0))
  (.seq (.block 1 (.seq (.region [qm 10 8,
     qm 5 10])
   (.seq (.region [qm 11 1,
     qm 12 0,
     qm 13 5,
     qo 14 (.iasl 1 (.t 12) (.t 13)),
     qo 15 (.load false 1 (.t 14)),
     qe 16 (.callv (.t 11) [(.t 15)])])
   (.cond (.t 16)
    (.seq (.region [qm 17 5,
      qm 4 17])
    .ret)
    .skip))))
  (.region [qo 18 (.bin .add (.t 8) (.c (.int .i64 (.ofNat 1)))),
    qm 8 18]))))
/-- slices.IndexFunc[[]*depot/router.ticket,*depot/router.ticket] -/
def pf_slices_IndexFunc_router_ticket_router_ticket : PF := { ntmps := 19, results := [.tmp 4], body :=
  (.seq (.region [qo 4 (.mv (.c (.int .i64 (.ofNat 0))))])
  (.seq (.seq (.region [qm 6 0,
    qo 7 (.lensl (.t 6)),
    qo 8 (.mv (.c (.int .i64 (.ofNat 0))))])
  (.block 0 (.loop l0_slices_IndexFunc_router_ticket_router_ticket)))
  (.seq (.region [qo 4 (.mv (.c (.int .i64 (.negSucc 0))))])
  .ret))) }
theorem tr_slices_IndexFunc_router_ticket_router_ticket : trF cx Tryz.f194 = pf_slices_IndexFunc_router_ticket_router_ticket := by kernel_rfl
/-- (*depot/router.Router).tell$1 -/
def pf_router_Router_tell_1 : PF := { ntmps := 11, results := [.tmp 3], body :=
  (.seq (.region [qo 3 (.mv (.c (.bool false)))])
  (.seq (.region [qm 4 0,
    qo 5 (.nilck (.t 4)),
    qo 6 (.faddr 0 (.t 5)),
    qo 7 (.load false 1 (.t 6)),
    qo 8 (.faddr 10 (.t 1)),
    qo 9 (.load false 1 (.t 8)),
    qo 10 (.bin .eql (.t 7) (.t 9)),
    qm 3 10])
  .ret)) }
theorem tr_router_Router_tell_1 : trF cx Tryz.f195 = pf_router_Router_tell_1 := by kernel_rfl
/-- slices.Delete[[]*depot/router.ticket,*depot/router.ticket] -/
def pf_slices_Delete_router_ticket_router_ticket : PF := { ntmps := 33, results := [.tmp 6], body :=
  (.seq (.region [qo 6 (.mv (.c .nils))])
  (.seq (.region [qm 8 0,
    qm 9 1,
    qm 10 2,
    qm 11 0,
    qo 12 (.lensl (.t 11)),
    qo 13 (.slsl 1 (.t 8) (some (.t 9)) (some (.t 10)) (some (.t 12)))])
  (.seq (.seq (.region [qm 14 1,
    qm 15 2,
    qo 16 (.bin .eql (.t 14) (.t 15))])
  (.cond (.t 16)
   (.seq (.region [qm 17 0,
     qm 6 17])
   .ret)
   .skip))
  (.seq (.region [qm 18 0,
    qo 19 (.lensl (.t 18)),
    qm 7 19])
  (.seq (.region [qm 20 0,
    qm 21 1,
    qo 22 (.slsl 1 (.t 20) none (some (.t 21)) none),
    qm 23 0,
    qm 24 2,
    qo 25 (.slsl 1 (.t 23) (some (.t 24)) none none),
    qe 26 (.app 0 1 8 (.t 22) (.t 25)),
    qm 0 26])
  (.seq (.region [qm 27 0,
    qm 28 0,
    qo 29 (.lensl (.t 28)),
    qm 30 7,
    qo 31 (.slsl 1 (.t 27) (some (.t 29)) (some (.t 30)) none),
    qx (.clear [.nilp] (.t 31))])
  (.seq (.region [qm 32 0,
    qm 6 32])
  .ret))))))) }
theorem tr_slices_Delete_router_ticket_router_ticket : trF cx Tryz.f196 = pf_slices_Delete_router_ticket_router_ticket := by kernel_rfl
def l0_slices_DeleteFunc_router_job_router_job : PC :=
  (.seq (.seq (.region [qm 16 6,
    qm 17 0,
    qo 18 (.lensl (.t 17)),
    qo 19 (.bin .lss (.t 16) (.t 18))])
  (.cond (.t 19)
   .skip
   (.exit 0)))
  (.seq (.block 1 (.seq (.region [qm 22 0,
     qm 23 6,
     qo 24 (.iasl 1 (.t 22) (.t 23)),
     qo 25 (.load false 1 (.t 24)),
     qm 7 25])
   (.seq (.region [qm 26 1,
     qm 27 7,
     qe 28 (.callv (.t 26) [(.t 27)]),
     qo 29 (.un .not (.t 28))])
   (.cond (.t 29)
    (.seq (.region [qm 30 0,
      qm 31 5,
      qm 32 7,
      qo 33 (.iasl 1 (.t 30) (.t 31)),
      qx (.store 1 (.t 33) (.t 32))])
    (.region [qm 34 5,
      qo 35 (.bin .add (.t 34) (.c (.int .i64 (.ofNat 1)))),
      qm 5 35]))
    .skip))))
  (.region [qm 20 6,
    qo 21 (.bin .add (.t 20) (.c (.int .i64 (.ofNat 1)))),
    qm 6 21])))
/-- slices.DeleteFunc[[]*depot/router.job,*depot/router.job] -/
def pf_slices_DeleteFunc_router_job_router_job : PF := { ntmps := 42, results := [.tmp 4], body :=
  (.seq (.region [qo 4 (.mv (.c .nils))])
  (.seq (.region [qm 8 0,
    qm 9 1,
    qe 10 (.call 249 [(.t 8), (.t 9)]),
    qm 5 10])
  (.seq (.seq (.region [qm 11 5,
    qo 12 (.bin .eql (.t 11) (.c (.int .i64 (.negSucc 0))))])
  (.cond (.t 12)
   (.seq (.region [qm 13 0,
     qm 4 13])
   .ret)
   .skip))
  (.seq (.seq (.region [qm 14 5,
    qo 15 (.bin .add (.t 14) (.c (.int .i64 (.ofNat 1)))),
    qm 6 15])
  (.block 0 (.loop l0_slices_DeleteFunc_router_job_router_job)))
  (.seq (.region [qm 36 0,
    qm 37 5,
    qo 38 (.slsl 1 (.t 36) (some (.t 37)) none none),
    qx (.clear [.nilp] (.t 38))])
  (.seq (.region [qm 39 0,
    qm 40 5,
    qo 41 (.slsl 1 (.t 39) none (some (.t 40)) none),
    qm 4 41])
  .ret)))))) }
theorem tr_slices_DeleteFunc_router_job_router_job : trF cx Tryz.f197 = pf_slices_DeleteFunc_router_job_router_job := by kernel_rfl
/-- (*depot/router.Router).over$1 -/
def pf_router_Router_over_1 : PF := { ntmps := 7, results := [.tmp 3], body :=
  (.seq (.region [qo 3 (.mv (.c (.bool false)))])
  (.seq (.region [qm 4 0,
    qo 5 (.load false 1 (.t 1)),
    qo 6 (.eqc false (.t 4) (.t 5)),
    qm 3 6])
  .ret)) }
theorem tr_router_Router_over_1 : trF cx Tryz.f198 = pf_router_Router_over_1 := by kernel_rfl
def l0_slices_IndexFunc_router_want_router_want : PC :=
  (.seq (.region [qo 9 (.bin .lss (.t 8) (.t 7))])
  (.seq (.cond (.t 9)
   .skip
   (.exit 0))
  (.seq (.block 1 (.seq (.region [qm 10 8,
     qm 5 10])
   (.seq (.region [qm 11 1,
     qm 12 0,
     qm 13 5,
     qo 14 (.iasl 14 (.t 12) (.t 13)),
     qo 15 (.load true 14 (.t 14)),
     qe 16 (.callv (.t 11) [(.t 15)])])
   (.cond (.t 16)
    (.seq (.region [qm 17 5,
      qm 4 17])
    .ret)
    .skip))))
  (.region [qo 18 (.bin .add (.t 8) (.c (.int .i64 (.ofNat 1)))),
    qm 8 18]))))
/-- slices.IndexFunc[[]depot/router.want,depot/router.want] -/
def pf_slices_IndexFunc_router_want_router_want : PF := { ntmps := 19, results := [.tmp 4], body :=
  (.seq (.region [qo 4 (.mv (.c (.int .i64 (.ofNat 0))))])
  (.seq (.seq (.region [qm 6 0,
    qo 7 (.lensl (.t 6)),
    qo 8 (.mv (.c (.int .i64 (.ofNat 0))))])
  (.block 0 (.loop l0_slices_IndexFunc_router_want_router_want)))
  (.seq (.region [qo 4 (.mv (.c (.int .i64 (.negSucc 0))))])
  .ret))) }
theorem tr_slices_IndexFunc_router_want_router_want : trF cx Tryz.f201 = pf_slices_IndexFunc_router_want_router_want := by kernel_rfl
/-- (*depot/router.Router).over$2 -/
def pf_router_Router_over_2 : PF := { ntmps := 12, results := [.tmp 3], body :=
  (.seq (.region [qn 2 (.box (.t 0)),
    qo 3 (.mv (.c (.bool false)))])
  (.seq (.region [qo 4 (.faddr 0 (.t 2)),
    qo 5 (.load false 1 (.t 4)),
    qo 6 (.load false 1 (.t 1)),
    qo 7 (.nilck (.t 6)),
    qo 8 (.faddr 1 (.t 7)),
    qo 9 (.faddr 0 (.t 8)),
    qo 10 (.load false 1 (.t 9)),
    qo 11 (.bin .eql (.t 5) (.t 10)),
    qm 3 11])
  .ret)) }
theorem tr_router_Router_over_2 : trF cx Tryz.f202 = pf_router_Router_over_2 := by kernel_rfl
/-- slices.Delete[[]depot/router.want,depot/router.want] -/
def pf_slices_Delete_router_want_router_want : PF := { ntmps := 33, results := [.tmp 6], body :=
  (.seq (.region [qo 6 (.mv (.c .nils))])
  (.seq (.region [qm 8 0,
    qm 9 1,
    qm 10 2,
    qm 11 0,
    qo 12 (.lensl (.t 11)),
    qo 13 (.slsl 14 (.t 8) (some (.t 9)) (some (.t 10)) (some (.t 12)))])
  (.seq (.seq (.region [qm 14 1,
    qm 15 2,
    qo 16 (.bin .eql (.t 14) (.t 15))])
  (.cond (.t 16)
   (.seq (.region [qm 17 0,
     qm 6 17])
   .ret)
   .skip))
  (.seq (.region [qm 18 0,
    qo 19 (.lensl (.t 18)),
    qm 7 19])
  (.seq (.region [qm 20 0,
    qm 21 1,
    qo 22 (.slsl 14 (.t 20) none (some (.t 21)) none),
    qm 23 0,
    qm 24 2,
    qo 25 (.slsl 14 (.t 23) (some (.t 24)) none none),
    qe 26 (.app 0 14 144 (.t 22) (.t 25)),
    qm 0 26])
  (.seq (.region [qm 27 0,
    qm 28 0,
    qo 29 (.lensl (.t 28)),
    qm 30 7,
    qo 31 (.slsl 14 (.t 27) (some (.t 29)) (some (.t 30)) none),
    qx (.clear [(.str []), (.int .i64 (.ofNat 0)), .nils, (.int .i64 (.ofNat 0)), (.int .i64 (.ofNat 0)), (.int .i64 (.ofNat 0)), (.int .i64 (.ofNat 0)), (.int .u64 (.ofNat 0)), (.bool false), (.str []), (.int .i64 (.ofNat 0)), (.int .i64 (.ofNat 0)), (.int .i64 (.ofNat 0)), (.int .i64 (.ofNat 0))] (.t 31))])
  (.seq (.region [qm 32 0,
    qm 6 32])
  .ret))))))) }
theorem tr_slices_Delete_router_want_router_want : trF cx Tryz.f203 = pf_slices_Delete_router_want_router_want := by kernel_rfl
/-- (*depot/pack.Reader).fail -/
def pf_pack_Reader_fail : PF := { ntmps := 14, results := [], body :=
  (.region [qm 6 0,
    qm 7 0,
    qm 8 1,
    qm 9 2,
    qo 10 (.nilck (.t 6)),
    qo 11 (.faddr 1 (.t 10)),
    qx (.store 1 (.t 11) (.t 8)),
    qo 12 (.nilck (.t 7)),
    qo 13 (.faddr 2 (.t 12)),
    qx (.store 1 (.t 13) (.t 9))]) }
theorem tr_pack_Reader_fail : trF cx Tryz.f205 = pf_pack_Reader_fail := by kernel_rfl
/-- internal/strconv.Itoa -/
def pf_internal_strconv_Itoa : PF := { ntmps := 5, results := [.tmp 2], body :=
  (.seq (.region [qo 2 (.mv (.c (.str [])))])
  (.seq (.region [qm 3 0,
    qe 4 (.call 252 [(.t 3), (.c (.int .i64 (.ofNat 10)))]),
    qm 2 4])
  .ret)) }
theorem tr_internal_strconv_Itoa : trF cx Tryz.f206 = pf_internal_strconv_Itoa := by kernel_rfl
/-- (*strings.Builder).copyCheck -/
def pf_strings_Builder_copyCheck : PF := { ntmps := 20, results := [], body :=
  (.seq (.region [qm 2 0,
    qo 3 (.nilck (.t 2)),
    qo 4 (.faddr 0 (.t 3)),
    qo 5 (.load false 1 (.t 4)),
    qo 6 (.eqc false (.t 5) (.c .nilp))])
  (.cond (.t 6)
   (.region [qm 7 0,
     qm 8 0,
     qo 9 (.p2u (.t 8)),
     qo 10 (.same (.t 9)),
     qo 11 (.u2b 2 (.t 10)),
     qo 12 (.nilck (.t 7)),
     qo 13 (.faddr 0 (.t 12)),
     qx (.store 1 (.t 13) (.t 11))])
   (.seq (.region [qm 14 0,
     qo 15 (.nilck (.t 14)),
     qo 16 (.faddr 0 (.t 15)),
     qo 17 (.load false 1 (.t 16)),
     qm 18 0,
     qo 19 (.eqc true (.t 17) (.t 18))])
   (.cond (.t 19)
    .stuck
    .skip)))) }
theorem tr_strings_Builder_copyCheck : trF cx Tryz.f207 = pf_strings_Builder_copyCheck := by kernel_rfl
/-- (*strings.Builder).Grow -/
def pf_strings_Builder_Grow : PF := { ntmps := 25, results := [], body :=
  (.seq (.region [qm 4 0,
    qe 5 (.call 207 [(.t 4)])])
  (.seq (.seq (.region [qm 6 1,
    qo 7 (.bin .lss (.t 6) (.c (.int .i64 (.ofNat 0))))])
  (.cond (.t 7)
   (.region [qo 8 (.bad),
     .op ⟨none, none, (.r (.bad))⟩])
   .skip))
  (.seq (.region [qm 9 0,
    qo 10 (.nilck (.t 9)),
    qo 11 (.faddr 1 (.t 10)),
    qo 12 (.load false 1 (.t 11)),
    qo 13 (.cap (.t 12)),
    qm 14 0,
    qo 15 (.nilck (.t 14)),
    qo 16 (.faddr 1 (.t 15)),
    qo 17 (.load false 1 (.t 16)),
    qo 18 (.lensl (.t 17)),
    qo 19 (.bin .sub (.t 13) (.t 18)),
    qm 20 1,
    qo 21 (.bin .lss (.t 19) (.t 20))])
  (.cond (.t 21)
   (.region [qm 22 0,
     qm 23 1,
     qe 24 (.call 254 [(.t 22), (.t 23)])])
   .skip)))) }
theorem tr_strings_Builder_Grow : trF cx Tryz.f208 = pf_strings_Builder_Grow := by kernel_rfl
/-- internal/strconv.small -/
def pf_internal_strconv_small : PF := { ntmps := 15, results := [.tmp 2], body :=
  (.seq (.region [qo 2 (.mv (.c (.str [])))])
  (.seq (.seq (.region [qm 3 0,
    qo 4 (.bin .lss (.t 3) (.c (.int .i64 (.ofNat 10))))])
  (.cond (.t 4)
   (.seq (.region [qm 5 0,
     qm 6 0,
     qo 7 (.bin .add (.t 6) (.c (.int .i64 (.ofNat 1)))),
     qo 8 (.slstr (.c (.str [48, 49, 50, 51, 52, 53, 54, 55, 56, 57, 97, 98, 99, 100, 101, 102, 103, 104, 105, 106, 107, 108, 109, 110, 111, 112, 113, 114, 115, 116, 117, 118, 119, 120, 121, 122])) (some (.t 5)) (some (.t 7))),
     qm 2 8])
   .ret)
   .skip))
  (.seq (.region [qm 9 0,
    qo 10 (.bin .mul (.t 9) (.c (.int .i64 (.ofNat 2)))),
    qm 11 0,
    qo 12 (.bin .mul (.t 11) (.c (.int .i64 (.ofNat 2)))),
    qo 13 (.bin .add (.t 12) (.c (.int .i64 (.ofNat 2)))),
    qo 14 (.slstr (.c (.str [48, 48, 48, 49, 48, 50, 48, 51, 48, 52, 48, 53, 48, 54, 48, 55, 48, 56, 48, 57, 49, 48, 49, 49, 49, 50, 49, 51, 49, 52, 49, 53, 49, 54, 49, 55, 49, 56, 49, 57, 50, 48, 50, 49, 50, 50, 50, 51, 50, 52, 50, 53, 50, 54, 50, 55, 50, 56, 50, 57, 51, 48, 51, 49, 51, 50, 51, 51, 51, 52, 51, 53, 51, 54, 51, 55, 51, 56, 51, 57, 52, 48, 52, 49, 52, 50, 52, 51, 52, 52, 52, 53, 52, 54, 52, 55, 52, 56, 52, 57, 53, 48, 53, 49, 53, 50, 53, 51, 53, 52, 53, 53, 53, 54, 53, 55, 53, 56, 53, 57, 54, 48, 54, 49, 54, 50, 54, 51, 54, 52, 54, 53, 54, 54, 54, 55, 54, 56, 54, 57, 55, 48, 55, 49, 55, 50, 55, 51, 55, 52, 55, 53, 55, 54, 55, 55, 55, 56, 55, 57, 56, 48, 56, 49, 56, 50, 56, 51, 56, 52, 56, 53, 56, 54, 56, 55, 56, 56, 56, 57, 57, 48, 57, 49, 57, 50, 57, 51, 57, 52, 57, 53, 57, 54, 57, 55, 57, 56, 57, 57])) (some (.t 10)) (some (.t 13))),
    qm 2 14])
  .ret))) }
theorem tr_internal_strconv_small : trF cx Tryz.f209 = pf_internal_strconv_small := by kernel_rfl
/-- internal/stringslite.HasSuffix -/
def pf_internal_stringslite_HasSuffix : PF := { ntmps := 21, results := [.tmp 4], body :=
  (.seq (.region [qo 4 (.mv (.c (.bool false)))])
  (.seq (.region [qm 5 0,
    qo 6 (.lens (.t 5)),
    qm 7 1,
    qo 8 (.lens (.t 7)),
    qo 9 (.bin .geq (.t 6) (.t 8)),
    qm 10 9,
    qg 11 10 true 0,
    qg 12 10 true 0,
    qh 13 10 true (.lens (.t 12)),
    qg 14 10 true 1,
    qh 15 10 true (.lens (.t 14)),
    qh 16 10 true (.bin .sub (.t 13) (.t 15)),
    qh 17 10 true (.slstr (.t 11) (some (.t 16)) none),
    qg 18 10 true 1,
    qh 19 10 true (.bin .eql (.t 17) (.t 18)),
    qo 20 (.pick (.t 10) (.t 19) (.c (.bool false))),
    qm 4 20])
  .ret)) }
theorem tr_internal_stringslite_HasSuffix : trF cx Tryz.f214 = pf_internal_stringslite_HasSuffix := by kernel_rfl
def l0_words_Number : PC :=
  (.seq (.region [qo 21 (.bin .lss (.t 20) (.t 19))])
  (.seq (.cond (.t 21)
   .skip
   (.exit 0))
  (.seq (.block 1 (.seq (.region [qm 22 20,
     qm 7 22])
   (.seq (.region [qm 23 0,
     qm 24 7,
     qo 25 (.ixstr (.t 23) (.t 24)),
     qm 8 25])
   (.seq (.seq (.region [qm 26 8,
     qo 27 (.bin .lss (.t 26) (.c (.int .u8 (.ofNat 48)))),
     qm 28 27,
     qg 29 28 false 8,
     qh 30 28 false (.bin .gtr (.t 29) (.c (.int .u8 (.ofNat 57)))),
     qo 31 (.pick (.t 28) (.c (.bool true)) (.t 30))])
   (.cond (.t 31)
    (.seq (.region [qo 4 (.mv (.c (.int .u64 (.ofNat 0)))),
      qo 5 (.mv (.c (.bool false)))])
    .ret)
    .skip))
   (.seq (.region [qm 32 8,
     qo 33 (.bin .sub (.t 32) (.c (.int .u8 (.ofNat 48)))),
     qo 34 (.cint .u64 (.t 33)),
     qm 9 34])
   (.seq (.seq (.region [qm 35 6,
     qm 36 9,
     qo 37 (.bin .sub (.c (.int .u64 (.ofNat 18446744073709551615))) (.t 36)),
     qo 38 (.bin .quo (.t 37) (.c (.int .u64 (.ofNat 10)))),
     qo 39 (.bin .gtr (.t 35) (.t 38))])
   (.cond (.t 39)
    (.seq (.region [qo 4 (.mv (.c (.int .u64 (.ofNat 0)))),
      qo 5 (.mv (.c (.bool false)))])
    .ret)
    .skip))
   (.region [qm 40 6,
     qo 41 (.bin .mul (.c (.int .u64 (.ofNat 10))) (.t 40)),
     qm 42 9,
     qo 43 (.bin .add (.t 41) (.t 42)),
     qm 6 43])))))))
  (.region [qo 44 (.bin .add (.t 20) (.c (.int .i64 (.ofNat 1)))),
    qm 20 44]))))
/-- depot/words.Number -/
def pf_words_Number : PF := { ntmps := 49, results := [.tmp 4, .tmp 5], body :=
  (.seq (.region [qo 4 (.mv (.c (.int .u64 (.ofNat 0)))),
    qo 5 (.mv (.c (.bool false)))])
  (.seq (.seq (.region [qm 10 0,
    qo 11 (.lens (.t 10)),
    qo 12 (.bin .lss (.t 11) (.c (.int .i64 (.ofNat 1)))),
    qm 13 12,
    qg 14 13 false 0,
    qh 15 13 false (.lens (.t 14)),
    qh 16 13 false (.bin .gtr (.t 15) (.c (.int .i64 (.ofNat 20)))),
    qo 17 (.pick (.t 13) (.c (.bool true)) (.t 16))])
  (.cond (.t 17)
   (.seq (.region [qo 4 (.mv (.c (.int .u64 (.ofNat 0)))),
     qo 5 (.mv (.c (.bool false)))])
   .ret)
   .skip))
  (.seq (.region [qo 6 (.mv (.c (.int .u64 (.ofNat 0))))])
  (.seq (.seq (.region [qm 18 0,
    qo 19 (.lens (.t 18)),
    qo 20 (.mv (.c (.int .i64 (.ofNat 0))))])
  (.block 0 (.loop l0_words_Number)))
  (.seq (.seq (.region [qm 45 6,
    qm 46 1,
    qo 47 (.bin .gtr (.t 45) (.t 46))])
  (.cond (.t 47)
   (.seq (.region [qo 4 (.mv (.c (.int .u64 (.ofNat 0)))),
     qo 5 (.mv (.c (.bool false)))])
   .ret)
   .skip))
  (.seq (.region [qm 48 6,
    qm 4 48,
    qo 5 (.mv (.c (.bool true)))])
  .ret)))))) }
theorem tr_words_Number : trF cx Tryz.f215 = pf_words_Number := by kernel_rfl
/-- depot/words.store -/
def pf_words_store : PF := { ntmps := 82, results := [.tmp 4], body :=
  (.seq (.region [qo 4 (.mv (.c (.bool false)))])
  (.seq (.region [qm 14 1,
    qo 15 (.iasl 1 (.t 14) (.c (.int .i64 (.ofNat 1)))),
    qo 16 (.load false 1 (.t 15)),
    qe 17 (.call 215 [(.t 16), (.c (.int .u64 (.ofNat 4294967295)))]),
    qm 13 17,
    qo 18 (.ext 0 (.t 13)),
    qo 19 (.ext 1 (.t 13)),
    qm 5 18,
    qm 6 19])
  (.seq (.region [qm 21 1,
    qo 22 (.iasl 1 (.t 21) (.c (.int .i64 (.ofNat 2)))),
    qo 23 (.load false 1 (.t 22)),
    qe 24 (.call 217 [(.t 23), (.c (.int .u64 (.ofNat 1099511627776)))]),
    qm 20 24,
    qo 25 (.ext 0 (.t 20)),
    qo 26 (.ext 1 (.t 20)),
    qm 7 25,
    qm 8 26])
  (.seq (.region [qm 28 1,
    qo 29 (.iasl 1 (.t 28) (.c (.int .i64 (.ofNat 3)))),
    qo 30 (.load false 1 (.t 29)),
    qe 31 (.call 215 [(.t 30), (.c (.int .u64 (.ofNat 2147483647)))]),
    qm 27 31,
    qo 32 (.ext 0 (.t 27)),
    qo 33 (.ext 1 (.t 27)),
    qm 9 32,
    qm 10 33])
  (.seq (.region [qm 34 0,
    qm 35 0,
    qm 36 0,
    qm 37 5,
    qo 38 (.cint .i64 (.t 37)),
    qm 39 7,
    qm 40 9,
    qo 41 (.cint .i64 (.t 40)),
    qo 42 (.nilck (.t 34)),
    qo 43 (.faddr 2 (.t 42)),
    qx (.store 1 (.t 43) (.t 38)),
    qo 44 (.nilck (.t 35)),
    qo 45 (.faddr 3 (.t 44)),
    qx (.store 1 (.t 45) (.t 39)),
    qo 46 (.nilck (.t 36)),
    qo 47 (.faddr 4 (.t 46)),
    qx (.store 1 (.t 47) (.t 41))])
  (.seq (.seq (.region [qm 48 0,
    qo 49 (.nilck (.t 48)),
    qo 50 (.faddr 0 (.t 49)),
    qo 51 (.load false 1 (.t 50)),
    qo 52 (.bin .eql (.t 51) (.c (.int .i64 (.ofNat 8))))])
  (.cond (.t 52)
   (.seq (.region [qm 54 1,
     qo 55 (.iasl 1 (.t 54) (.c (.int .i64 (.ofNat 4)))),
     qo 56 (.load false 1 (.t 55)),
     qe 57 (.call 215 [(.t 56), (.c (.int .u64 (.ofNat 1099511627776)))]),
     qm 53 57,
     qo 58 (.ext 0 (.t 53)),
     qo 59 (.ext 1 (.t 53)),
     qm 11 58,
     qm 12 59])
   (.seq (.region [qm 60 0,
     qm 61 11,
     qo 62 (.cint .i64 (.t 61)),
     qo 63 (.nilck (.t 60)),
     qo 64 (.faddr 5 (.t 63)),
     qx (.store 1 (.t 64) (.t 62))])
   (.seq (.region [qm 65 6,
     qm 66 65,
     qg 67 66 true 8,
     qo 68 (.pick (.t 66) (.t 67) (.c (.bool false))),
     qm 69 68,
     qg 70 69 true 10,
     qo 71 (.pick (.t 69) (.t 70) (.c (.bool false))),
     qm 72 71,
     qg 73 72 true 12,
     qo 74 (.pick (.t 72) (.t 73) (.c (.bool false))),
     qm 4 74])
   .ret)))
   .skip))
  (.seq (.region [qm 75 6,
    qm 76 75,
    qg 77 76 true 8,
    qo 78 (.pick (.t 76) (.t 77) (.c (.bool false))),
    qm 79 78,
    qg 80 79 true 10,
    qo 81 (.pick (.t 79) (.t 80) (.c (.bool false))),
    qm 4 81])
  .ret))))))) }
theorem tr_words_store : trF cx Tryz.f216 = pf_words_store := by kernel_rfl
/-- depot/words.signed -/
def pf_words_signed : PF := { ntmps := 29, results := [.tmp 4, .tmp 5], body :=
  (.seq (.region [qo 4 (.mv (.c (.int .i64 (.ofNat 0)))),
    qo 5 (.mv (.c (.bool false)))])
  (.seq (.region [qm 11 0,
    qe 12 (.call 259 [(.t 11), (.c (.str [45]))]),
    qm 10 12,
    qo 13 (.ext 0 (.t 10)),
    qo 14 (.ext 1 (.t 10)),
    qm 6 13,
    qm 7 14])
  (.seq (.region [qm 16 6,
    qm 17 1,
    qe 18 (.call 215 [(.t 16), (.t 17)]),
    qm 15 18,
    qo 19 (.ext 0 (.t 15)),
    qo 20 (.ext 1 (.t 15)),
    qm 8 19,
    qm 9 20])
  (.seq (.seq (.region [qm 21 7])
  (.cond (.t 21)
   (.seq (.region [qm 22 8,
     qo 23 (.cint .i64 (.t 22)),
     qo 24 (.un .neg (.t 23)),
     qm 25 9,
     qm 4 24,
     qm 5 25])
   .ret)
   .skip))
  (.seq (.region [qm 26 8,
    qo 27 (.cint .i64 (.t 26)),
    qm 28 9,
    qm 4 27,
    qm 5 28])
  .ret))))) }
theorem tr_words_signed : trF cx Tryz.f217 = pf_words_signed := by kernel_rfl
/-- depot/place.Metas -/
def pf_place_Metas : PF := { ntmps := 19, results := [.tmp 6], body :=
  (.seq (.region [qo 6 (.mv (.c .nils))])
  (.seq (.seq (.region [qm 7 1,
    qo 8 (.bin .lss (.t 7) (.c (.int .i64 (.ofNat 0)))),
    qm 9 8,
    qg 10 9 false 1,
    qg 11 9 false 2,
    qh 12 9 false (.bin .geq (.t 10) (.t 11)),
    qo 13 (.pick (.t 9) (.c (.bool true)) (.t 12))])
  (.cond (.t 13)
   (.seq (.region [qo 6 (.mv (.c .nils))])
   .ret)
   .skip))
  (.seq (.region [qm 14 0,
    qm 15 1,
    qo 16 (.bin .add (.t 15) (.c (.int .i64 (.ofNat 1)))),
    qm 17 2,
    qe 18 (.call 184 [(.t 14), (.t 16), (.t 17)]),
    qm 6 18])
  .ret))) }
theorem tr_place_Metas : trF cx Tryz.f218 = pf_place_Metas := by kernel_rfl
/-- (*depot/task.Task).enter -/
def pf_task_Task_enter : PF := { ntmps := 14, results := [], body :=
  (.region [qm 4 0,
    qm 5 0,
    qm 6 0,
    qm 7 1,
    qo 8 (.nilck (.t 4)),
    qo 9 (.faddr 21 (.t 8)),
    qx (.store 1 (.t 9) (.t 7)),
    qo 10 (.nilck (.t 5)),
    qo 11 (.faddr 22 (.t 10)),
    qx (.store 1 (.t 11) (.c (.int .i64 (.ofNat 0)))),
    qo 12 (.nilck (.t 6)),
    qo 13 (.faddr 23 (.t 12)),
    qx (.store 1 (.t 13) (.c (.int .i64 (.ofNat 0))))]) }
theorem tr_task_Task_enter : trF cx Tryz.f219 = pf_task_Task_enter := by kernel_rfl
/-- (*depot/item.Store).Peek -/
def pf_item_Store_Peek : PF := { ntmps := 41, results := [.tmp 4, .tmp 5], body :=
  (.seq (.region [qo 4 (.mv (.c (.str []))),
    qo 5 (.mv (.c (.bool false)))])
  (.seq (.region [qm 11 0,
    qo 12 (.nilck (.t 11)),
    qo 13 (.faddr 1 (.t 12)),
    qo 14 (.load false 1 (.t 13)),
    qm 15 1,
    qe 16 (.call 171 [(.t 14), (.t 15)]),
    qm 10 16,
    qo 17 (.ext 0 (.t 10)),
    qo 18 (.ext 1 (.t 10)),
    qm 6 17,
    qm 7 18])
  (.seq (.seq (.region [qm 19 7,
    qo 20 (.un .not (.t 19))])
  (.cond (.t 20)
   (.seq (.region [qo 4 (.mv (.c (.str []))),
     qo 5 (.mv (.c (.bool false)))])
   .ret)
   .skip))
  (.seq (.region [qm 22 0,
    qo 23 (.nilck (.t 22)),
    qo 24 (.faddr 0 (.t 23)),
    qo 25 (.load false 1 (.t 24)),
    qm 26 0,
    qo 27 (.nilck (.t 26)),
    qo 28 (.faddr 2 (.t 27)),
    qo 29 (.load false 1 (.t 28)),
    qm 30 6,
    qo 31 (.iasl 6 (.t 29) (.t 30)),
    qo 32 (.faddr 1 (.t 31)),
    qo 33 (.load true 2 (.t 32)),
    qe 34 (.call 269 [(.t 25), (.t 33)]),
    qm 21 34,
    qo 35 (.ext 0 (.t 21)),
    qo 36 (.ext 1 (.t 21)),
    qm 8 35,
    qm 9 36])
  (.seq (.region [qm 37 8,
    qm 38 1,
    qo 39 (.lens (.t 38)),
    qo 40 (.slstr (.t 37) (some (.t 39)) none),
    qm 4 40,
    qo 5 (.mv (.c (.bool true)))])
  .ret))))) }
theorem tr_item_Store_Peek : trF cx Tryz.f221 = pf_item_Store_Peek := by kernel_rfl
/-- (*depot/item.Store).out -/
def pf_item_Store_out : PF := { ntmps := 32, results := [], body :=
  (.seq (.region [qm 5 0,
    qo 6 (.nilck (.t 5)),
    qo 7 (.faddr 2 (.t 6)),
    qo 8 (.load false 1 (.t 7)),
    qm 9 1,
    qo 10 (.iasl 6 (.t 8) (.t 9)),
    qo 11 (.load true 6 (.t 10)),
    qn 4 (.new 0 [(.str []), (.int .i64 (.ofNat 0)), (.int .i64 (.ofNat 0)), (.bool false), (.int .i64 (.ofNat 0)), (.int .i64 (.ofNat 0))]),
    qx (.store 6 (.t 4) (.t 11))])
  (.region [qm 12 0,
    qo 13 (.nilck (.t 12)),
    qo 14 (.faddr 2 (.t 13)),
    qo 15 (.load false 1 (.t 14)),
    qo 16 (.faddr 5 (.t 4)),
    qo 17 (.load false 1 (.t 16)),
    qm 18 0,
    qo 19 (.nilck (.t 18)),
    qo 20 (.faddr 2 (.t 19)),
    qo 21 (.load false 1 (.t 20)),
    qo 22 (.faddr 4 (.t 4)),
    qo 23 (.load false 1 (.t 22)),
    qo 24 (.faddr 4 (.t 4)),
    qo 25 (.load false 1 (.t 24)),
    qo 26 (.faddr 5 (.t 4)),
    qo 27 (.load false 1 (.t 26)),
    qo 28 (.iasl 6 (.t 15) (.t 17)),
    qo 29 (.faddr 4 (.t 28)),
    qx (.store 1 (.t 29) (.t 25)),
    .again ⟨(some 27), none, (.r (.load false 1 (.t 26)))⟩,
    .again ⟨(some 23), none, (.r (.load false 1 (.t 22)))⟩,
    qo 30 (.iasl 6 (.t 21) (.t 23)),
    qo 31 (.faddr 5 (.t 30)),
    qx (.store 1 (.t 31) (.t 27))])) }
theorem tr_item_Store_out : trF cx Tryz.f222 = pf_item_Store_out := by kernel_rfl
def l0_chain_Chain_step : PC :=
  (.seq (.region [qo 41 (.bin .lss (.t 40) (.t 39))])
  (.seq (.cond (.t 41)
   .skip
   (.exit 0))
  (.seq (.block 1 (.seq (.region [qo 42 (.iasl 2 (.t 38) (.t 40)),
     qo 43 (.load true 2 (.t 42)),
     qn 4 (.new 0 [(.str []), (.int .i64 (.ofNat 0))]),
     qx (.store 2 (.t 4) (.t 43))])
   (.seq (.region [qm 44 0,
     qo 45 (.nilck (.t 44)),
     qo 46 (.faddr 0 (.t 45)),
     qo 47 (.load false 1 (.t 46)),
     qo 48 (.faddr 0 (.t 4)),
     qo 49 (.load false 1 (.t 48)),
     qm 52 0,
     qo 53 (.nilck (.t 52)),
     qo 54 (.faddr 0 (.t 53)),
     qo 55 (.load false 1 (.t 54)),
     qo 56 (.lensl (.t 55)),
     qe 50 (.call 234 [(.t 49)]),
     .again ⟨(some 55), none, (.r (.load false 1 (.t 54)))⟩,
     .again ⟨(some 47), none, (.r (.load false 1 (.t 46)))⟩,
     qo 51 (.cint .i64 (.t 50)),
     qo 57 (.bin .rem (.t 51) (.t 56)),
     qo 58 (.iasl 1 (.t 47) (.t 57)),
     qm 5 58])
   (.region [qm 59 5,
     qm 60 5,
     qo 61 (.nilck (.t 60)),
     qo 62 (.load false 1 (.t 61)),
     qo 63 (.load true 2 (.t 4)),
     qn 64 (.bslice 0 2 1 [(.str []), (.int .i64 (.ofNat 0))] [(0, 2, (.t 63))]),
     qe 65 (.app 0 2 24 (.t 62) (.t 64)),
     qo 66 (.nilck (.t 59)),
     qx (.store 1 (.t 66) (.t 65))]))))
  (.region [qo 67 (.bin .add (.t 40) (.c (.int .i64 (.ofNat 1)))),
    qm 40 67]))))
/-- (*depot/chain.Chain).step -/
def pf_chain_Chain_step : PF := { ntmps := 84, results := [], body :=
  (.seq (.seq (.region [qm 6 0,
    qo 7 (.nilck (.t 6)),
    qo 8 (.faddr 1 (.t 7)),
    qo 9 (.load false 1 (.t 8)),
    qo 10 (.lensl (.t 9)),
    qo 11 (.bin .eql (.t 10) (.c (.int .i64 (.ofNat 0))))])
  (.cond (.t 11)
   .ret
   .skip))
  (.seq (.region [qm 12 0,
    qo 13 (.nilck (.t 12)),
    qo 14 (.faddr 1 (.t 13)),
    qo 15 (.load false 1 (.t 14)),
    qm 16 0,
    qo 17 (.nilck (.t 16)),
    qo 18 (.faddr 2 (.t 17)),
    qo 19 (.load false 1 (.t 18)),
    qo 20 (.iasl 1 (.t 15) (.t 19)),
    qo 21 (.load false 1 (.t 20)),
    qm 2 21])
  (.seq (.region [qm 22 0,
    qo 23 (.nilck (.t 22)),
    qo 24 (.faddr 1 (.t 23)),
    qo 25 (.load false 1 (.t 24)),
    qm 26 0,
    qo 27 (.nilck (.t 26)),
    qo 28 (.faddr 2 (.t 27)),
    qo 29 (.load false 1 (.t 28)),
    qo 30 (.iasl 1 (.t 25) (.t 29)),
    qx (.store 1 (.t 30) (.c .nils))])
  (.seq (.region [qm 31 0,
    qo 32 (.nilck (.t 31)),
    qo 33 (.faddr 2 (.t 32)),
    qo 34 (.load false 1 (.t 33)),
    qo 35 (.bin .add (.t 34) (.c (.int .i64 (.ofNat 1)))),
    qo 36 (.nilck (.t 31)),
    qo 37 (.faddr 2 (.t 36)),
    qx (.store 1 (.t 37) (.t 35))])
  (.seq (.seq (.region [qm 38 2,
    qo 39 (.lensl (.t 38)),
    qo 40 (.mv (.c (.int .i64 (.ofNat 0))))])
  (.block 0 (.loop l0_chain_Chain_step)))
  (.seq (.region [qm 68 0,
    qo 69 (.nilck (.t 68)),
    qo 70 (.faddr 2 (.t 69)),
    qo 71 (.load false 1 (.t 70)),
    qm 72 0,
    qo 73 (.nilck (.t 72)),
    qo 74 (.faddr 1 (.t 73)),
    qo 75 (.load false 1 (.t 74)),
    qo 76 (.lensl (.t 75)),
    qo 77 (.bin .eql (.t 71) (.t 76))])
  (.cond (.t 77)
   (.region [qm 78 0,
     qm 79 0,
     qo 80 (.nilck (.t 78)),
     qo 81 (.faddr 1 (.t 80)),
     qx (.store 1 (.t 81) (.c .nils)),
     qo 82 (.nilck (.t 79)),
     qo 83 (.faddr 2 (.t 82)),
     qx (.store 1 (.t 83) (.c (.int .i64 (.ofNat 0))))])
   .skip))))))) }
theorem tr_chain_Chain_step : trF cx Tryz.f225 = pf_chain_Chain_step := by kernel_rfl
/-- (*depot/chain.Chain).bucket -/
def pf_chain_Chain_bucket : PF := { ntmps := 47, results := [.tmp 4], body :=
  (.seq (.region [qo 4 (.mv (.c .nilp))])
  (.seq (.region [qm 7 1,
    qe 8 (.call 234 [(.t 7)]),
    qo 9 (.cint .i64 (.t 8)),
    qm 5 9])
  (.seq (.seq (.region [qm 10 0,
    qo 11 (.nilck (.t 10)),
    qo 12 (.faddr 1 (.t 11)),
    qo 13 (.load false 1 (.t 12)),
    qo 14 (.lensl (.t 13)),
    qm 6 14])
  (.seq (.region [qm 15 6,
    qo 16 (.bin .gtr (.t 15) (.c (.int .i64 (.ofNat 0)))),
    qm 17 16,
    qg 18 17 true 5,
    qg 19 17 true 6,
    qh 20 17 true (.bin .rem (.t 18) (.t 19)),
    qg 21 17 true 0,
    qh 22 17 true (.nilck (.t 21)),
    qh 23 17 true (.faddr 2 (.t 22)),
    qh 24 17 true (.load false 1 (.t 23)),
    qh 25 17 true (.bin .geq (.t 20) (.t 24)),
    qo 26 (.pick (.t 17) (.t 25) (.c (.bool false)))])
  (.cond (.t 26)
   (.seq (.region [qm 27 0,
     qo 28 (.nilck (.t 27)),
     qo 29 (.faddr 1 (.t 28)),
     qo 30 (.load false 1 (.t 29)),
     qm 31 5,
     qm 32 6,
     qo 33 (.bin .rem (.t 31) (.t 32)),
     qo 34 (.iasl 1 (.t 30) (.t 33)),
     qm 4 34])
   .ret)
   .skip)))
  (.seq (.region [qm 35 0,
    qo 36 (.nilck (.t 35)),
    qo 37 (.faddr 0 (.t 36)),
    qo 38 (.load false 1 (.t 37)),
    qm 39 5,
    qm 40 0,
    qo 41 (.nilck (.t 40)),
    qo 42 (.faddr 0 (.t 41)),
    qo 43 (.load false 1 (.t 42)),
    qo 44 (.lensl (.t 43)),
    qo 45 (.bin .rem (.t 39) (.t 44)),
    qo 46 (.iasl 1 (.t 38) (.t 45)),
    qm 4 46])
  .ret)))) }
theorem tr_chain_Chain_bucket : trF cx Tryz.f226 = pf_chain_Chain_bucket := by kernel_rfl
def l0_chain_find : PC :=
  (.seq (.region [qo 11 (.bin .lss (.t 10) (.t 9))])
  (.seq (.cond (.t 11)
   .skip
   (.exit 0))
  (.seq (.block 1 (.seq (.region [qm 12 10,
     qo 13 (.iasl 2 (.t 8) (.t 10)),
     qo 14 (.load true 2 (.t 13)),
     qn 7 (.new 0 [(.str []), (.int .i64 (.ofNat 0))]),
     qm 6 12,
     qx (.store 2 (.t 7) (.t 14))])
   (.seq (.region [qo 15 (.faddr 0 (.t 7)),
     qo 16 (.load false 1 (.t 15)),
     qm 17 1,
     qo 18 (.bin .eql (.t 16) (.t 17))])
   (.cond (.t 18)
    (.seq (.region [qm 19 6,
      qm 5 19])
    (.exit 0))
    .skip))))
  (.region [qo 20 (.bin .add (.t 10) (.c (.int .i64 (.ofNat 1)))),
    qm 10 20]))))
/-- depot/chain.find -/
def pf_chain_find : PF := { ntmps := 22, results := [.tmp 4], body :=
  (.seq (.region [qo 4 (.mv (.c (.int .i64 (.ofNat 0))))])
  (.scope (.seq (.region [qo 5 (.mv (.c (.int .i64 (.negSucc 0))))])
   (.seq .skip
   (.seq (.seq (.region [qm 8 0,
     qo 9 (.lensl (.t 8)),
     qo 10 (.mv (.c (.int .i64 (.ofNat 0))))])
   (.block 0 (.loop l0_chain_find)))
   (.seq (.region [qm 21 5,
     qm 4 21])
   .ret)))))) }
theorem tr_chain_find : trF cx Tryz.f227 = pf_chain_find := by kernel_rfl
def l0_chain_Hash : PC :=
  (.seq (.region [qo 8 (.bin .lss (.t 7) (.t 6))])
  (.seq (.cond (.t 8)
   .skip
   (.exit 0))
  (.seq (.block 1 (.seq (.region [qm 9 7,
     qm 4 9])
   (.seq (.region [qm 10 3,
     qm 11 0,
     qm 12 4,
     qo 13 (.ixstr (.t 11) (.t 12)),
     qo 14 (.cint .u32 (.t 13)),
     qo 15 (.bin .xor (.t 10) (.t 14)),
     qm 3 15])
   (.region [qm 16 3,
     qo 17 (.bin .mul (.t 16) (.c (.int .u32 (.ofNat 16777619)))),
     qm 3 17]))))
  (.region [qo 18 (.bin .add (.t 7) (.c (.int .i64 (.ofNat 1)))),
    qm 7 18]))))
/-- depot/chain.Hash -/
def pf_chain_Hash : PF := { ntmps := 20, results := [.tmp 2], body :=
  (.seq (.region [qo 2 (.mv (.c (.int .u32 (.ofNat 0))))])
  (.seq (.region [qo 3 (.mv (.c (.int .u32 (.ofNat 2166136261))))])
  (.seq (.seq (.region [qm 5 0,
    qo 6 (.lens (.t 5)),
    qo 7 (.mv (.c (.int .i64 (.ofNat 0))))])
  (.block 0 (.loop l0_chain_Hash)))
  (.seq (.region [qm 19 3,
    qm 2 19])
  .ret)))) }
theorem tr_chain_Hash : trF cx Tryz.f234 = pf_chain_Hash := by kernel_rfl
/-- (*depot/gather.Gather).State -/
def pf_gather_Gather_State : PF := { ntmps := 32, results := [.tmp 2], body :=
  (.seq (.region [qo 2 (.mv (.c (.int .i64 (.ofNat 0))))])
  (.seq (.block 0 (.seq (.region [qm 4 0,
     qo 5 (.nilck (.t 4)),
     qo 6 (.faddr 5 (.t 5)),
     qo 7 (.load false 1 (.t 6)),
     qo 8 (.lensl (.t 7)),
     qm 9 0,
     qo 10 (.nilck (.t 9)),
     qo 11 (.faddr 0 (.t 10)),
     qo 12 (.load false 1 (.t 11)),
     qo 13 (.bin .geq (.t 8) (.t 12)),
     qm 3 13])
   (.cond (.t 3)
    (.seq (.region [qo 2 (.mv (.c (.int .i64 (.ofNat 1))))])
    .ret)
    (.seq (.region [qm 15 0,
      qo 16 (.nilck (.t 15)),
      qo 17 (.faddr 4 (.t 16)),
      qo 18 (.load false 1 (.t 17)),
      qo 19 (.bin .eql (.t 18) (.c (.int .i64 (.ofNat 0)))),
      qm 20 19,
      qg 21 20 true 0,
      qh 22 20 true (.nilck (.t 21)),
      qh 23 20 true (.faddr 3 (.t 22)),
      qh 24 20 true (.load false 1 (.t 23)),
      qg 25 20 true 0,
      qh 26 20 true (.nilck (.t 25)),
      qh 27 20 true (.faddr 2 (.t 26)),
      qh 28 20 true (.load false 1 (.t 27)),
      qh 29 20 true (.lensl (.t 28)),
      qh 30 20 true (.bin .eql (.t 24) (.t 29)),
      qo 31 (.pick (.t 20) (.t 30) (.c (.bool false))),
      qm 14 31])
    (.cond (.t 14)
     (.seq (.region [qo 2 (.mv (.c (.int .i64 (.ofNat 2))))])
     .ret)
     .skip)))))
  (.seq (.region [qo 2 (.mv (.c (.int .i64 (.ofNat 0))))])
  .ret))) }
theorem tr_gather_Gather_State : trF cx Tryz.f235 = pf_gather_Gather_State := by kernel_rfl
def l0_rs_Code_Decode : PC :=
  (.seq (.region [qo 32 (.bin .lss (.t 31) (.t 30))])
  (.seq (.cond (.t 32)
   .skip
   (.exit 0))
  (.seq (.block 1 (.seq (.region [qo 33 (.iasl 2 (.t 29) (.t 31)),
     qo 34 (.load true 2 (.t 33)),
     qn 10 (.new 0 [(.int .i64 (.ofNat 0)), (.str [])]),
     qx (.store 2 (.t 10) (.t 34))])
   (.seq (.region [qo 35 (.faddr 0 (.t 10)),
     qo 36 (.load false 1 (.t 35)),
     qo 37 (.bin .lss (.t 36) (.c (.int .i64 (.ofNat 0)))),
     qm 38 37,
     qh 39 38 false (.faddr 0 (.t 10)),
     qh 40 38 false (.load false 1 (.t 39)),
     qg 41 38 false 0,
     qh 42 38 false (.nilck (.t 41)),
     qh 43 38 false (.faddr 1 (.t 42)),
     qh 44 38 false (.load false 1 (.t 43)),
     qh 45 38 false (.bin .geq (.t 40) (.t 44)),
     qo 46 (.pick (.t 38) (.c (.bool true)) (.t 45)),
     qm 47 46,
     qh 48 47 false (.faddr 1 (.t 10)),
     qh 49 47 false (.load false 1 (.t 48)),
     qh 50 47 false (.lens (.t 49)),
     qg 51 47 false 8,
     qh 52 47 false (.bin .neq (.t 50) (.t 51)),
     qo 53 (.pick (.t 47) (.c (.bool true)) (.t 52))])
   (.cond (.t 53)
    (.seq (.region [qo 6 (.mv (.c (.str []))),
      qo 7 (.mv (.c (.int .i64 (.ofNat 4))))])
    .ret)
    .skip))))
  (.region [qo 54 (.bin .add (.t 31) (.c (.int .i64 (.ofNat 1)))),
    qm 31 54]))))
def l1_rs_Code_Decode : PC :=
  (.seq (.region [qo 86 (.bin .lss (.t 85) (.t 84))])
  (.seq (.cond (.t 86)
   .skip
   (.exit 2))
  (.seq (.block 3 (.seq (.region [qo 87 (.iasl 1 (.t 83) (.t 85)),
     qo 88 (.load false 1 (.t 87)),
     qm 17 88])
   (.region [qm 89 15,
     qm 90 0,
     qm 91 17,
     qm 92 12,
     qm 93 8,
     qe 94 (.call 273 [(.t 90), (.t 91), (.t 92), (.t 93)]),
     qe 95 (.app 2 1 1 (.t 89) (.t 94)),
     qm 15 95])))
  (.region [qo 96 (.bin .add (.t 85) (.c (.int .i64 (.ofNat 1)))),
    qm 85 96]))))
def l2_rs_Code_Decode : PC :=
  (.seq (.region [qo 102 (.bin .lss (.t 101) (.t 100))])
  (.seq (.cond (.t 102)
   .skip
   (.exit 4))
  (.seq (.block 5 (.seq (.region [qo 103 (.iasl 1 (.t 99) (.t 101)),
     qo 104 (.load false 1 (.t 103)),
     qm 19 104])
   (.seq (.region [qm 105 19,
     qo 106 (.bin .neq (.t 105) (.c (.int .u8 (.ofNat 0))))])
   (.cond (.t 106)
    (.seq (.region [qo 6 (.mv (.c (.str []))),
      qo 7 (.mv (.c (.int .i64 (.ofNat 4))))])
    .ret)
    .skip))))
  (.region [qo 107 (.bin .add (.t 101) (.c (.int .i64 (.ofNat 1)))),
    qm 101 107]))))
/-- (*depot/rs.Code).Decode -/
def pf_rs_Code_Decode : PF := { ntmps := 112, results := [.tmp 6, .tmp 7], body :=
  (.seq (.region [qo 6 (.mv (.c (.str []))),
    qo 7 (.mv (.c (.int .i64 (.ofNat 0))))])
  (.seq (.seq (.region [qm 20 1,
    qo 21 (.bin .lss (.t 20) (.c (.int .i64 (.ofNat 0)))),
    qm 22 21,
    qg 23 22 false 1,
    qh 24 22 false (.bin .gtr (.t 23) (.c (.int .i64 (.ofNat 1048576)))),
    qo 25 (.pick (.t 22) (.c (.bool true)) (.t 24))])
  (.cond (.t 25)
   (.seq (.region [qo 6 (.mv (.c (.str []))),
     qo 7 (.mv (.c (.int .i64 (.ofNat 1))))])
   .ret)
   .skip))
  (.seq (.region [qm 26 0,
    qm 27 1,
    qe 28 (.call 132 [(.t 26), (.t 27)]),
    qm 8 28])
  (.seq (.seq (.region [qm 29 2,
    qo 30 (.lensl (.t 29)),
    qo 31 (.mv (.c (.int .i64 (.ofNat 0))))])
  (.block 0 (.loop l0_rs_Code_Decode)))
  (.seq (.region [qm 56 0,
    qm 57 2,
    qe 58 (.call 271 [(.t 56), (.t 57)]),
    qm 55 58,
    qo 59 (.ext 0 (.t 55)),
    qo 60 (.ext 1 (.t 55)),
    qm 11 59,
    qm 12 60])
  (.seq (.seq (.region [qm 61 11,
    qo 62 (.lensl (.t 61)),
    qm 63 0,
    qo 64 (.nilck (.t 63)),
    qo 65 (.faddr 0 (.t 64)),
    qo 66 (.load false 1 (.t 65)),
    qo 67 (.bin .lss (.t 62) (.t 66))])
  (.cond (.t 67)
   (.seq (.region [qo 6 (.mv (.c (.str []))),
     qo 7 (.mv (.c (.int .i64 (.ofNat 3))))])
   .ret)
   .skip))
  (.seq (.region [qm 69 0,
    qo 70 (.nilck (.t 69)),
    qo 71 (.faddr 2 (.t 70)),
    qm 72 11,
    qe 73 (.call 272 [(.t 71), (.t 72)]),
    qm 68 73,
    qo 74 (.ext 0 (.t 68)),
    qo 75 (.ext 1 (.t 68)),
    qm 13 74,
    qm 14 75])
  (.seq (.region [qm 76 0,
    qo 77 (.nilck (.t 76)),
    qo 78 (.faddr 0 (.t 77)),
    qo 79 (.load false 1 (.t 78)),
    qm 80 8,
    qo 81 (.bin .mul (.t 79) (.t 80)),
    qn 82 (.mksl 2 1 1 [(.int .u8 (.ofNat 0))] (.c (.int .i64 (.ofNat 0))) (.t 81)),
    qm 15 82])
  (.seq (.seq (.region [qm 83 13,
    qo 84 (.lensl (.t 83)),
    qo 85 (.mv (.c (.int .i64 (.ofNat 0))))])
  (.block 2 (.loop l1_rs_Code_Decode)))
  (.seq (.seq (.region [qm 97 15,
    qm 98 1,
    qo 99 (.slsl 1 (.t 97) (some (.t 98)) none none),
    qo 100 (.lensl (.t 99)),
    qo 101 (.mv (.c (.int .i64 (.ofNat 0))))])
  (.block 4 (.loop l2_rs_Code_Decode)))
  (.seq (.region [qm 108 15,
    qm 109 1,
    qo 110 (.slsl 1 (.t 108) none (some (.t 109)) none),
    qo 111 (.b2s (.t 110)),
    qm 6 111,
    qo 7 (.mv (.c (.int .i64 (.ofNat 0))))])
  .ret))))))))))) }
theorem tr_rs_Code_Decode : trF cx Tryz.f236 = pf_rs_Code_Decode := by kernel_rfl
/-- (*depot/gather.Gather).Parts -/
def pf_gather_Gather_Parts : PF := { ntmps := 8, results := [.tmp 2], body :=
  (.seq (.region [qo 2 (.mv (.c .nils))])
  (.seq (.region [qm 3 0,
    qo 4 (.nilck (.t 3)),
    qo 5 (.faddr 5 (.t 4)),
    qo 6 (.load false 1 (.t 5)),
    qe 7 (.call 274 [(.t 6)]),
    qm 2 7])
  .ret)) }
theorem tr_gather_Gather_Parts : trF cx Tryz.f237 = pf_gather_Gather_Parts := by kernel_rfl
def l0_rs_Code_Encode : PC :=
  (.seq (.region [qo 34 (.bin .lss (.t 33) (.t 32))])
  (.seq (.cond (.t 34)
   .skip
   (.exit 0))
  (.seq (.block 1 (.seq (.region [qm 35 33,
     qm 8 35])
   (.region [qm 36 7,
     qm 37 8,
     qm 38 6,
     qm 39 8,
     qm 40 5,
     qo 41 (.bin .mul (.t 39) (.t 40)),
     qm 42 8,
     qo 43 (.bin .add (.t 42) (.c (.int .i64 (.ofNat 1)))),
     qm 44 5,
     qo 45 (.bin .mul (.t 43) (.t 44)),
     qo 46 (.slsl 1 (.t 38) (some (.t 41)) (some (.t 45)) none),
     qo 47 (.iasl 1 (.t 36) (.t 37)),
     qx (.store 1 (.t 47) (.t 46))])))
  (.region [qo 48 (.bin .add (.t 33) (.c (.int .i64 (.ofNat 1)))),
    qm 33 48]))))
def l1_rs_Code_Encode : PC :=
  (.seq (.region [qo 60 (.bin .lss (.t 59) (.t 58))])
  (.seq (.cond (.t 60)
   .skip
   (.exit 2))
  (.seq (.block 3 (.seq (.region [qm 61 59,
     qo 62 (.iasl 1 (.t 57) (.t 59)),
     qo 63 (.load false 1 (.t 62)),
     qm 10 61,
     qm 11 63])
   (.region [qm 64 9,
     qm 65 10,
     qm 66 0,
     qm 67 11,
     qm 68 7,
     qm 69 5,
     qe 70 (.call 273 [(.t 66), (.t 67), (.t 68), (.t 69)]),
     qo 71 (.b2s (.t 70)),
     qo 72 (.iasl 1 (.t 64) (.t 65)),
     qx (.store 1 (.t 72) (.t 71))])))
  (.region [qo 73 (.bin .add (.t 59) (.c (.int .i64 (.ofNat 1)))),
    qm 59 73]))))
/-- (*depot/rs.Code).Encode -/
def pf_rs_Code_Encode : PF := { ntmps := 75, results := [.tmp 4], body :=
  (.seq (.region [qo 4 (.mv (.c .nils))])
  (.seq (.region [qm 12 0,
    qm 13 1,
    qo 14 (.lens (.t 13)),
    qe 15 (.call 132 [(.t 12), (.t 14)]),
    qm 5 15])
  (.seq (.region [qm 16 0,
    qo 17 (.nilck (.t 16)),
    qo 18 (.faddr 0 (.t 17)),
    qo 19 (.load false 1 (.t 18)),
    qm 20 5,
    qo 21 (.bin .mul (.t 19) (.t 20)),
    qn 22 (.mksl 2 1 1 [(.int .u8 (.ofNat 0))] (.t 21) (.t 21)),
    qm 6 22])
  (.seq (.region [qm 23 6,
    qm 24 1,
    qe 25 (.copy 1 (.t 23) (.t 24))])
  (.seq (.region [qm 26 0,
    qo 27 (.nilck (.t 26)),
    qo 28 (.faddr 0 (.t 27)),
    qo 29 (.load false 1 (.t 28)),
    qn 30 (.mksl 0 1 24 [.nils] (.t 29) (.t 29)),
    qm 7 30])
  (.seq (.seq (.region [qm 31 7,
    qo 32 (.lensl (.t 31)),
    qo 33 (.mv (.c (.int .i64 (.ofNat 0))))])
  (.block 0 (.loop l0_rs_Code_Encode)))
  (.seq (.region [qm 49 0,
    qo 50 (.nilck (.t 49)),
    qo 51 (.faddr 1 (.t 50)),
    qo 52 (.load false 1 (.t 51)),
    qn 53 (.mksl 0 1 16 [(.str [])] (.t 52) (.t 52)),
    qm 9 53])
  (.seq (.seq (.region [qm 54 0,
    qo 55 (.nilck (.t 54)),
    qo 56 (.faddr 768 (.t 55)),
    qo 57 (.load false 1 (.t 56)),
    qo 58 (.lensl (.t 57)),
    qo 59 (.mv (.c (.int .i64 (.ofNat 0))))])
  (.block 2 (.loop l1_rs_Code_Encode)))
  (.seq (.region [qm 74 9,
    qm 4 74])
  .ret))))))))) }
theorem tr_rs_Code_Encode : trF cx Tryz.f240 = pf_rs_Code_Encode := by kernel_rfl
/-- depot/when.Live -/
def pf_when_Live : PF := { ntmps := 16, results := [.tmp 4], body :=
  (.seq (.region [qo 4 (.mv (.c (.bool false)))])
  (.seq (.region [qm 5 0,
    qo 6 (.bin .eql (.t 5) (.c (.int .i64 (.ofNat 0)))),
    qm 7 6,
    qg 8 7 false 0,
    qh 9 7 false (.bin .gtr (.t 8) (.c (.int .i64 (.ofNat 0)))),
    qg 10 7 false 9,
    qg 11 10 true 0,
    qg 12 10 true 1,
    qh 13 10 true (.bin .gtr (.t 11) (.t 12)),
    qh 14 7 false (.pick (.t 10) (.t 13) (.c (.bool false))),
    qo 15 (.pick (.t 7) (.c (.bool true)) (.t 14)),
    qm 4 15])
  .ret)) }
theorem tr_when_Live : trF cx Tryz.f241 = pf_when_Live := by kernel_rfl
def l0_task_Task_unseen : PC :=
  (.seq (.region [qo 13 (.bin .lss (.t 12) (.t 11))])
  (.seq (.cond (.t 13)
   .skip
   (.exit 0))
  (.seq (.block 1 (.seq (.region [qo 14 (.iasl 1 (.t 10) (.t 12)),
     qo 15 (.load false 1 (.t 14)),
     qm 6 15])
   (.seq (.region [qm 16 6,
     qo 17 (.faddr 0 (.t 3)),
     qo 18 (.iaarr 12 1 (.t 17) (.t 16)),
     qo 19 (.load false 1 (.t 18)),
     qo 20 (.bin .neq (.t 19) (.c (.int .i64 (.ofNat 0)))),
     qm 21 20,
     qg 22 21 true 0,
     qg 23 21 true 6,
     qh 24 21 true (.nilck (.t 22)),
     qh 25 21 true (.faddr 24 (.t 24)),
     qh 26 21 true (.iaarr 12 1 (.t 25) (.t 23)),
     qh 27 21 true (.load false 1 (.t 26)),
     qh 28 21 true (.bin .eql (.t 27) (.c (.int .i64 (.ofNat 0)))),
     qo 29 (.pick (.t 21) (.t 28) (.c (.bool false)))])
   (.cond (.t 29)
    (.seq (.region [qo 4 (.mv (.c (.bool true)))])
    .ret)
    .skip))))
  (.region [qo 30 (.bin .add (.t 12) (.c (.int .i64 (.ofNat 1)))),
    qm 12 30]))))
/-- (*depot/task.Task).unseen -/
def pf_task_Task_unseen : PF := { ntmps := 31, results := [.tmp 4], body :=
  (.seq (.region [qn 3 (.box (.t 1)),
    qo 4 (.mv (.c (.bool false)))])
  (.seq (.seq (.region [qm 7 0,
    qo 8 (.nilck (.t 7)),
    qo 9 (.faddr 20 (.t 8)),
    qo 10 (.load false 1 (.t 9)),
    qo 11 (.lensl (.t 10)),
    qo 12 (.mv (.c (.int .i64 (.ofNat 0))))])
  (.block 0 (.loop l0_task_Task_unseen)))
  (.seq (.region [qo 4 (.mv (.c (.bool false)))])
  .ret))) }
theorem tr_task_Task_unseen : trF cx Tryz.f242 = pf_task_Task_unseen := by kernel_rfl
/-- depot/task.reads -/
def pf_task_reads : PF := { ntmps := 11, results := [.tmp 2], body :=
  (.seq (.region [qo 2 (.mv (.c (.bool false)))])
  (.seq (.seq (.region [qm 3 0])
  (.block 0 (.seq (.seq (.region [qo 5 (.bin .eql (.t 3) (.c (.int .i64 (.ofNat 1)))),
     qm 4 5])
   (.cond (.t 4)
    .skip
    (.seq (.region [qo 6 (.bin .eql (.t 3) (.c (.int .i64 (.ofNat 2)))),
      qm 4 6])
    (.cond (.t 4)
     .skip
     (.seq (.region [qo 7 (.bin .eql (.t 3) (.c (.int .i64 (.ofNat 6)))),
       qm 4 7])
     (.cond (.t 4)
      .skip
      (.seq (.region [qo 8 (.bin .eql (.t 3) (.c (.int .i64 (.ofNat 7)))),
        qm 4 8])
      (.cond (.t 4)
       .skip
       (.seq (.region [qo 9 (.bin .eql (.t 3) (.c (.int .i64 (.ofNat 10)))),
         qm 4 9])
       (.cond (.t 4)
        .skip
        (.region [qo 10 (.bin .eql (.t 3) (.c (.int .i64 (.ofNat 11)))),
          qm 4 10])))))))))))
   (.cond (.t 4)
    (.seq (.region [qo 2 (.mv (.c (.bool true)))])
    .ret)
    .skip))))
  (.seq (.region [qo 2 (.mv (.c (.bool false)))])
  .ret))) }
theorem tr_task_reads : trF cx Tryz.f243 = pf_task_reads := by kernel_rfl
def l0_task_Task_gather : PC :=
  (.seq (.region [qo 45 (.bin .lss (.t 44) (.t 43))])
  (.seq (.cond (.t 45)
   .skip
   (.exit 0))
  (.seq (.block 1 (.seq (.region [qm 46 44,
     qo 47 (.iasl 1 (.t 42) (.t 44)),
     qo 48 (.load false 1 (.t 47)),
     qm 5 46,
     qm 6 48])
   (.seq (.region [qm 49 6,
     qo 50 (.faddr 0 (.t 3)),
     qo 51 (.iaarr 12 1 (.t 50) (.t 49)),
     qo 52 (.load false 1 (.t 51)),
     qo 53 (.bin .eql (.t 52) (.c (.int .i64 (.ofNat 2))))])
   (.cond (.t 53)
    (.region [qm 54 4,
      qm 55 5,
      qn 56 (.bslice 0 1 1 [(.int .i64 (.ofNat 0))] [(0, 1, (.t 55))]),
      qe 57 (.app 0 1 8 (.t 54) (.t 56)),
      qm 4 57])
    .skip))))
  (.region [qo 58 (.bin .add (.t 44) (.c (.int .i64 (.ofNat 1)))),
    qm 44 58]))))
/-- (*depot/task.Task).gather -/
def pf_task_Task_gather : PF := { ntmps := 82, results := [], body :=
  (.seq (.region [qn 3 (.box (.t 1))])
  (.seq (.seq (.region [qm 7 0,
    qo 8 (.nilck (.t 7)),
    qo 9 (.faddr 17 (.t 8)),
    qo 10 (.load false 1 (.t 9)),
    qo 11 (.bin .geq (.t 10) (.c (.int .i64 (.ofNat 0)))),
    qm 12 11,
    qg 13 12 true 0,
    qh 14 12 true (.nilck (.t 13)),
    qh 15 12 true (.faddr 7 (.t 14)),
    qh 16 12 true (.load false 1 (.t 15)),
    qg 17 12 true 0,
    qh 18 12 true (.nilck (.t 17)),
    qh 19 12 true (.faddr 19 (.t 18)),
    qh 20 12 true (.load false 1 (.t 19)),
    qh 21 12 true (.lensl (.t 20)),
    qg 22 12 true 0,
    qh 23 12 true (.nilck (.t 22)),
    qh 24 12 true (.faddr 0 (.t 23)),
    qh 25 12 true (.faddr 3 (.t 24)),
    qh 26 12 true (.load false 1 (.t 25)),
    qg 27 12 true 0,
    qh 28 12 true (.nilck (.t 27)),
    qh 29 12 true (.faddr 17 (.t 28)),
    qh 30 12 true (.load false 1 (.t 29)),
    .op ⟨(some 31), (some (12, true)), (.e (.call 130 [(.t 16), (.t 21), (.t 26), (.t 30)]))⟩,
    qh 32 12 true (.bin .lss (.t 31) (.c (.int .i64 (.ofNat 0)))),
    qo 33 (.pick (.t 12) (.t 32) (.c (.bool false)))])
  (.cond (.t 33)
   (.seq (.region [qm 34 0,
     qo 35 (.load true 14 (.t 3)),
     qo 36 (.bad)])
   .ret)
   .skip))
  (.seq (.region [qm 37 0,
    qe 38 (.call 219 [(.t 37), (.c (.int .i64 (.ofNat 2)))])])
  (.seq (.region [qo 4 (.mv (.c .nils))])
  (.seq (.seq (.region [qm 39 0,
    qo 40 (.nilck (.t 39)),
    qo 41 (.faddr 19 (.t 40)),
    qo 42 (.load false 1 (.t 41)),
    qo 43 (.lensl (.t 42)),
    qo 44 (.mv (.c (.int .i64 (.ofNat 0))))])
  (.block 0 (.loop l0_task_Task_gather)))
  (.seq (.region [qm 60 0,
    qm 61 0,
    qo 62 (.nilck (.t 61)),
    qo 63 (.faddr 0 (.t 62)),
    qo 64 (.faddr 0 (.t 63)),
    qo 65 (.load false 1 (.t 64)),
    qm 66 0,
    qo 67 (.nilck (.t 66)),
    qo 68 (.faddr 0 (.t 67)),
    qo 69 (.faddr 2 (.t 68)),
    qo 70 (.load false 1 (.t 69)),
    qm 71 4,
    qe 72 (.call 276 [(.t 65), (.t 70), (.t 71)]),
    qm 59 72,
    qo 73 (.ext 0 (.t 59)),
    qo 74 (.ext 1 (.t 59)),
    qo 75 (.nilck (.t 60)),
    qo 76 (.faddr 44 (.t 75)),
    qx (.store 1 (.t 76) (.t 73))])
  (.seq (.region [qm 77 0,
    qe 78 (.call 133 [(.t 77)])])
  (.region [qm 79 0,
    qo 80 (.load true 14 (.t 3)),
    qe 81 (.call 134 [(.t 79), (.t 80)])])))))))) }
theorem tr_task_Task_gather : trF cx Tryz.f244 = pf_task_Task_gather := by kernel_rfl
/-- (*depot/task.Task).write -/
def pf_task_Task_write : PF := { ntmps := 26, results := [], body :=
  (.seq (.region [qn 3 (.box (.t 1))])
  (.seq (.region [qm 4 0,
    qe 5 (.call 219 [(.t 4), (.c (.int .i64 (.ofNat 4)))])])
  (.seq (.region [qm 6 0,
    qo 7 (.load true 14 (.t 3)),
    qm 8 0,
    qo 9 (.nilck (.t 8)),
    qo 10 (.faddr 20 (.t 9)),
    qo 11 (.load false 1 (.t 10)),
    qm 12 0,
    qo 13 (.nilck (.t 12)),
    qo 14 (.faddr 18 (.t 13)),
    qo 15 (.load false 1 (.t 14)),
    qm 16 0,
    qo 17 (.nilck (.t 16)),
    qo 18 (.faddr 46 (.t 17)),
    qo 19 (.load true 5 (.t 18)),
    qe 20 (.call 275 [(.t 19)]),
    .again ⟨(some 15), none, (.r (.load false 1 (.t 14)))⟩,
    .again ⟨(some 11), none, (.r (.load false 1 (.t 10)))⟩,
    .again ⟨(some 7), none, (.r (.load true 14 (.t 3)))⟩,
    qo 21 (.build [(.int .i64 (.ofNat 0)), (.int .i64 (.ofNat 0)), (.int .i64 (.ofNat 0)), (.int .i64 (.ofNat 0)), (.int .i64 (.ofNat 0)), (.int .i64 (.ofNat 0)), (.str []), (.int .i64 (.ofNat 0)), (.str [])] [(0, 1, (.c (.int .i64 (.ofNat 1)))), (5, 1, (.c (.int .i64 (.ofNat 1)))), (7, 1, (.t 15)), (8, 1, (.t 20))]),
    qe 22 (.call 246 [(.t 6), (.t 7), (.t 11), (.t 21)])])
  (.region [qm 23 0,
    qo 24 (.load true 14 (.t 3)),
    qe 25 (.call 134 [(.t 23), (.t 24)])])))) }
theorem tr_task_Task_write : trF cx Tryz.f245 = pf_task_Task_write := by kernel_rfl
def l0_task_Task_all : PC :=
  (.seq (.region [qo 13 (.bin .lss (.t 12) (.t 11))])
  (.seq (.cond (.t 13)
   .skip
   (.exit 0))
  (.seq (.block 1 (.seq (.region [qo 14 (.iasl 1 (.t 10) (.t 12)),
     qo 15 (.load false 1 (.t 14)),
     qm 9 15])
   (.seq (.region [qm 16 9,
     qo 17 (.faddr 0 (.t 5)),
     qo 18 (.iaarr 12 1 (.t 17) (.t 16)),
     qo 19 (.load false 1 (.t 18)),
     qo 20 (.bin .neq (.t 19) (.c (.int .i64 (.ofNat 0))))])
   (.cond (.t 20)
    (.region [qm 21 0,
      qm 22 9,
      qo 23 (.load true 9 (.t 7)),
      qe 24 (.call 186 [(.t 21), (.t 22), (.t 23)])])
    .skip))))
  (.region [qo 25 (.bin .add (.t 12) (.c (.int .i64 (.ofNat 1)))),
    qm 12 25]))))
/-- (*depot/task.Task).all -/
def pf_task_Task_all : PF := { ntmps := 26, results := [], body :=
  (.seq (.region [qn 5 (.box (.t 1)),
    qn 7 (.box (.t 3))])
  (.seq (.region [qm 10 2,
    qo 11 (.lensl (.t 10)),
    qo 12 (.mv (.c (.int .i64 (.ofNat 0))))])
  (.block 0 (.loop l0_task_Task_all)))) }
theorem tr_task_Task_all : trF cx Tryz.f246 = pf_task_Task_all := by kernel_rfl
/-- depot/model.Next -/
def pf_model_Next : PF := { ntmps := 120, results := [.cell 10 true 9, .cell 11 true 5, .tmp 12, .tmp 13], body :=
  (.seq (.region [qn 5 (.box (.t 0)),
    qn 6 (.box (.t 1)),
    qn 10 (.new 0 [(.int .i64 (.ofNat 0)), .nils, (.bool false), (.int .u64 (.ofNat 0)), (.str []), (.int .i64 (.ofNat 0)), (.int .i64 (.ofNat 0)), (.int .i64 (.ofNat 0)), (.int .i64 (.ofNat 0))]),
    qn 11 (.new 0 [(.str []), (.int .i64 (.ofNat 0)), (.int .i64 (.ofNat 0)), (.str []), (.int .i64 (.ofNat 0))]),
    qo 12 (.mv (.c (.bool false))),
    qo 13 (.mv (.c (.bool false)))])
  (.seq (.region [qo 16 (.faddr 0 (.t 6)),
    qo 17 (.load false 1 (.t 16)),
    qo 18 (.faddr 2 (.t 5)),
    qo 19 (.load false 1 (.t 18)),
    qo 20 (.faddr 3 (.t 5)),
    qo 21 (.load false 1 (.t 20)),
    qm 22 3,
    qo 24 (.faddr 8 (.t 5)),
    qo 25 (.load false 1 (.t 24)),
    qm 26 4,
    qn 14 (.new 0 [(.str []), (.int .i64 (.ofNat 0)), (.int .i64 (.ofNat 0)), (.str []), (.int .i64 (.ofNat 0))]),
    qe 23 (.call 277 [(.t 21), (.t 22)]),
    .again ⟨(some 25), none, (.r (.load false 1 (.t 24)))⟩,
    .again ⟨(some 19), none, (.r (.load false 1 (.t 18)))⟩,
    .again ⟨(some 17), none, (.r (.load false 1 (.t 16)))⟩,
    qo 27 (.build [(.str []), (.int .i64 (.ofNat 0)), (.int .i64 (.ofNat 0)), (.str []), (.int .i64 (.ofNat 0))] [(0, 1, (.t 17)), (1, 1, (.t 19)), (2, 1, (.t 23)), (3, 1, (.t 25)), (4, 1, (.t 26))]),
    qx (.store 5 (.t 14) (.t 27))])
  (.seq (.region [qo 15 (.mv (.c (.fn 278 [])))])
  (.seq (.seq (.region [qo 28 (.faddr 0 (.t 5)),
    qo 29 (.load false 1 (.t 28))])
  (.block 0 (.seq (.region [qo 33 (.bin .eql (.t 29) (.c (.int .i64 (.ofNat 3)))),
     qm 32 33])
   (.cond (.t 32)
    (.seq (.region [qm 34 15,
      qo 36 (.load true 5 (.t 14)),
      qe 35 (.callv (.t 34) [(.c (.int .i64 (.ofNat 2)))]),
      .again ⟨(some 36), none, (.r (.load true 5 (.t 14)))⟩,
      qx (.store 9 (.t 10) (.t 35)),
      .again ⟨(some 36), none, (.r (.load true 5 (.t 14)))⟩,
      qx (.store 5 (.t 11) (.t 36)),
      qo 12 (.mv (.c (.bool true))),
      qo 13 (.mv (.c (.bool false)))])
    .ret)
    (.seq (.seq (.region [qo 38 (.bin .eql (.t 29) (.c (.int .i64 (.ofNat 4)))),
      qm 37 38])
    (.cond (.t 37)
     .skip
     (.region [qo 39 (.bin .eql (.t 29) (.c (.int .i64 (.ofNat 5)))),
       qm 37 39])))
    (.cond (.t 37)
     (.seq (.seq (.region [qm 40 2,
       qo 41 (.faddr 0 (.t 5)),
       qo 42 (.load false 1 (.t 41)),
       qo 43 (.bin .eql (.t 42) (.c (.int .i64 (.ofNat 4)))),
       qo 44 (.eqv false .b (.t 40) (.t 43))])
     (.cond (.t 44)
      (.seq (.region [qm 45 15,
        qo 47 (.load true 5 (.t 6)),
        qe 46 (.callv (.t 45) [(.c (.int .i64 (.ofNat 3)))]),
        .again ⟨(some 47), none, (.r (.load true 5 (.t 6)))⟩,
        qx (.store 9 (.t 10) (.t 46)),
        .again ⟨(some 47), none, (.r (.load true 5 (.t 6)))⟩,
        qx (.store 5 (.t 11) (.t 47)),
        qo 12 (.mv (.c (.bool false))),
        qo 13 (.mv (.c (.bool false)))])
      .ret)
      .skip))
     (.seq (.region [qm 48 15,
       qo 50 (.load true 5 (.t 14)),
       qe 49 (.callv (.t 48) [(.c (.int .i64 (.ofNat 2)))]),
       .again ⟨(some 50), none, (.r (.load true 5 (.t 14)))⟩,
       qx (.store 9 (.t 10) (.t 49)),
       .again ⟨(some 50), none, (.r (.load true 5 (.t 14)))⟩,
       qx (.store 5 (.t 11) (.t 50)),
       qo 12 (.mv (.c (.bool true))),
       qo 13 (.mv (.c (.bool false)))])
     .ret))
     (.seq (.seq (.region [qo 52 (.bin .eql (.t 29) (.c (.int .i64 (.ofNat 6)))),
       qm 51 52])
     (.cond (.t 51)
      .skip
      (.region [qo 53 (.bin .eql (.t 29) (.c (.int .i64 (.ofNat 7)))),
        qm 51 53])))
     (.cond (.t 51)
      (.seq (.seq (.region [qm 54 2,
        qo 55 (.un .not (.t 54))])
      (.cond (.t 55)
       (.seq (.region [qm 56 15,
         qo 58 (.load true 5 (.t 6)),
         qe 57 (.callv (.t 56) [(.c (.int .i64 (.ofNat 3)))]),
         .again ⟨(some 58), none, (.r (.load true 5 (.t 6)))⟩,
         qx (.store 9 (.t 10) (.t 57)),
         .again ⟨(some 58), none, (.r (.load true 5 (.t 6)))⟩,
         qx (.store 5 (.t 11) (.t 58)),
         qo 12 (.mv (.c (.bool false))),
         qo 13 (.mv (.c (.bool false)))])
       .ret)
       .skip))
      (.seq (.region [qo 60 (.load true 9 (.t 5)),
        qo 61 (.load true 5 (.t 6)),
        qm 62 4,
        qo 63 (.bad),
        qm 59 63,
        qo 64 (.ext 0 (.t 59)),
        qo 65 (.ext 1 (.t 59)),
        qo 66 (.ext 2 (.t 59)),
        qx (.store 9 (.t 10) (.t 64)),
        qx (.store 5 (.t 11) (.t 65)),
        qm 12 66])
      (.seq (.region [qo 67 (.load true 9 (.t 10)),
        qo 68 (.load true 5 (.t 11)),
        qm 69 12,
        qx (.store 9 (.t 10) (.t 67)),
        .again ⟨(some 68), none, (.r (.load true 5 (.t 11)))⟩,
        qx (.store 5 (.t 11) (.t 68)),
        qm 12 69,
        qo 13 (.mv (.c (.bool false)))])
      .ret)))
      (.seq (.seq (.region [qo 71 (.bin .eql (.t 29) (.c (.int .i64 (.ofNat 8)))),
        qm 70 71])
      (.cond (.t 70)
       .skip
       (.seq (.region [qo 72 (.bin .eql (.t 29) (.c (.int .i64 (.ofNat 9)))),
         qm 70 72])
       (.cond (.t 70)
        .skip
        (.seq (.region [qo 73 (.bin .eql (.t 29) (.c (.int .i64 (.ofNat 12)))),
          qm 70 73])
        (.cond (.t 70)
         .skip
         (.seq (.region [qo 74 (.bin .eql (.t 29) (.c (.int .i64 (.ofNat 10)))),
           qm 70 74])
         (.cond (.t 70)
          .skip
          (.region [qo 75 (.bin .eql (.t 29) (.c (.int .i64 (.ofNat 11)))),
            qm 70 75])))))))))
      (.cond (.t 70)
       (.seq (.region [qm 76 2,
         qo 77 (.un .not (.t 76))])
       (.cond (.t 77)
        (.seq (.region [qm 78 15,
          qo 80 (.load true 5 (.t 6)),
          qe 79 (.callv (.t 78) [(.c (.int .i64 (.ofNat 5)))]),
          .again ⟨(some 80), none, (.r (.load true 5 (.t 6)))⟩,
          qx (.store 9 (.t 10) (.t 79)),
          .again ⟨(some 80), none, (.r (.load true 5 (.t 6)))⟩,
          qx (.store 5 (.t 11) (.t 80)),
          qo 12 (.mv (.c (.bool false))),
          qo 13 (.mv (.c (.bool false)))])
        .ret)
        .skip))
       (.seq (.region [qo 30 (.build [(.int .i64 (.ofNat 0)), .nils, (.bool false), (.int .u64 (.ofNat 0)), (.str []), (.int .i64 (.ofNat 0)), (.int .i64 (.ofNat 0)), (.int .i64 (.ofNat 0)), (.int .i64 (.ofNat 0))] []),
         qo 31 (.load true 5 (.t 6)),
         qx (.store 9 (.t 10) (.t 30)),
         .again ⟨(some 31), none, (.r (.load true 5 (.t 6)))⟩,
         qx (.store 5 (.t 11) (.t 31)),
         qo 12 (.mv (.c (.bool false))),
         qo 13 (.mv (.c (.bool false)))])
       .ret)))))))))))
  (.seq (.seq (.region [qo 81 (.faddr 0 (.t 5)),
    qo 82 (.load false 1 (.t 81))])
  (.block 1 (.seq (.region [qo 84 (.bin .eql (.t 82) (.c (.int .i64 (.ofNat 8)))),
     qm 83 84])
   (.cond (.t 83)
    (.seq (.seq (.region [qo 85 (.faddr 4 (.t 6)),
      qo 86 (.load false 1 (.t 85)),
      qo 87 (.faddr 5 (.t 5)),
      qo 88 (.load false 1 (.t 87)),
      qo 89 (.bin .neq (.t 86) (.t 88))])
    (.cond (.t 89)
     (.seq (.region [qm 90 15,
       qo 92 (.load true 5 (.t 6)),
       qe 91 (.callv (.t 90) [(.c (.int .i64 (.ofNat 4)))]),
       .again ⟨(some 92), none, (.r (.load true 5 (.t 6)))⟩,
       qx (.store 9 (.t 10) (.t 91)),
       .again ⟨(some 92), none, (.r (.load true 5 (.t 6)))⟩,
       qx (.store 5 (.t 11) (.t 92)),
       qo 12 (.mv (.c (.bool false))),
       qo 13 (.mv (.c (.bool false)))])
     .ret)
     .skip))
    (.seq (.region [qm 93 15,
      qo 95 (.load true 5 (.t 14)),
      qe 94 (.callv (.t 93) [(.c (.int .i64 (.ofNat 2)))]),
      .again ⟨(some 95), none, (.r (.load true 5 (.t 14)))⟩,
      qx (.store 9 (.t 10) (.t 94)),
      .again ⟨(some 95), none, (.r (.load true 5 (.t 14)))⟩,
      qx (.store 5 (.t 11) (.t 95)),
      qo 12 (.mv (.c (.bool true))),
      qo 13 (.mv (.c (.bool false)))])
    .ret))
    (.seq (.region [qo 97 (.bin .eql (.t 82) (.c (.int .i64 (.ofNat 9)))),
      qm 96 97])
    (.cond (.t 96)
     (.seq (.region [qm 98 15,
       qo 100 (.load true 5 (.t 6)),
       qe 99 (.callv (.t 98) [(.c (.int .i64 (.ofNat 6)))]),
       .again ⟨(some 100), none, (.r (.load true 5 (.t 6)))⟩,
       qx (.store 9 (.t 10) (.t 99)),
       .again ⟨(some 100), none, (.r (.load true 5 (.t 6)))⟩,
       qx (.store 5 (.t 11) (.t 100)),
       qo 12 (.mv (.c (.bool false))),
       qo 13 (.mv (.c (.bool true)))])
     .ret)
     (.seq (.region [qo 102 (.bin .eql (.t 82) (.c (.int .i64 (.ofNat 12)))),
       qm 101 102])
     (.cond (.t 101)
      (.seq (.region [qo 103 (.faddr 2 (.t 14)),
        qo 104 (.load false 1 (.t 103)),
        qo 105 (.faddr 2 (.t 6)),
        qx (.store 1 (.t 105) (.t 104))])
      (.seq (.region [qm 106 15,
        qo 108 (.load true 5 (.t 6)),
        qe 107 (.callv (.t 106) [(.c (.int .i64 (.ofNat 7)))]),
        .again ⟨(some 108), none, (.r (.load true 5 (.t 6)))⟩,
        qx (.store 9 (.t 10) (.t 107)),
        .again ⟨(some 108), none, (.r (.load true 5 (.t 6)))⟩,
        qx (.store 5 (.t 11) (.t 108)),
        qo 12 (.mv (.c (.bool true))),
        qo 13 (.mv (.c (.bool false)))])
      .ret))
      .skip))))))))
  (.seq (.region [qo 110 (.load true 9 (.t 5)),
    qo 111 (.load true 5 (.t 6)),
    qm 112 4,
    qo 113 (.bad),
    qm 109 113,
    qo 114 (.ext 0 (.t 109)),
    qo 115 (.ext 1 (.t 109)),
    qo 116 (.ext 2 (.t 109)),
    qx (.store 9 (.t 10) (.t 114)),
    qx (.store 5 (.t 11) (.t 115)),
    qm 12 116])
  (.seq (.region [qo 117 (.load true 9 (.t 10)),
    qo 118 (.load true 5 (.t 11)),
    qm 119 12,
    qx (.store 9 (.t 10) (.t 117)),
    .again ⟨(some 118), none, (.r (.load true 5 (.t 11)))⟩,
    qx (.store 5 (.t 11) (.t 118)),
    qm 12 119,
    qo 13 (.mv (.c (.bool false)))])
  .ret))))))) }
theorem tr_model_Next : trF cx Tryz.f247 = pf_model_Next := by kernel_rfl
def l0_task_Task_scatter : PC :=
  (.seq (.region [qo 23 (.bin .lss (.t 22) (.t 21))])
  (.seq (.cond (.t 23)
   .skip
   (.exit 0))
  (.seq (.block 1 (.seq (.region [qm 24 22,
     qo 25 (.iasl 1 (.t 20) (.t 22)),
     qo 26 (.load false 1 (.t 25)),
     qm 7 24,
     qm 8 26])
   (.seq (.seq (.region [qm 27 8,
     qo 28 (.faddr 0 (.t 4)),
     qo 29 (.iaarr 12 1 (.t 28) (.t 27)),
     qo 30 (.load false 1 (.t 29)),
     qo 31 (.bin .eql (.t 30) (.c (.int .i64 (.ofNat 0))))])
   (.cond (.t 31)
    (.exit 1)
    .skip))
   (.region [qm 32 0,
     qm 33 8,
     qm 34 0,
     qo 35 (.nilck (.t 34)),
     qo 36 (.faddr 18 (.t 35)),
     qo 37 (.load false 1 (.t 36)),
     qm 38 6,
     qm 39 7,
     qo 40 (.iasl 1 (.t 38) (.t 39)),
     qo 41 (.load false 1 (.t 40)),
     qo 42 (.build [(.int .i64 (.ofNat 0)), (.int .i64 (.ofNat 0)), (.int .i64 (.ofNat 0)), (.int .i64 (.ofNat 0)), (.int .i64 (.ofNat 0)), (.int .i64 (.ofNat 0)), (.str []), (.int .i64 (.ofNat 0)), (.str [])] [(0, 1, (.c (.int .i64 (.ofNat 1)))), (5, 1, (.c (.int .i64 (.ofNat 2)))), (7, 1, (.t 37)), (8, 1, (.t 41))]),
     qe 43 (.call 186 [(.t 32), (.t 33), (.t 42)])]))))
  (.region [qo 44 (.bin .add (.t 22) (.c (.int .i64 (.ofNat 1)))),
    qm 22 44]))))
/-- (*depot/task.Task).scatter -/
def pf_task_Task_scatter : PF := { ntmps := 48, results := [], body :=
  (.seq (.region [qn 4 (.box (.t 1))])
  (.scope (.seq (.region [qm 9 0,
     qe 10 (.call 219 [(.t 9), (.c (.int .i64 (.ofNat 3)))])])
   (.seq (.region [qm 11 0,
     qo 12 (.nilck (.t 11)),
     qo 13 (.faddr 6 (.t 12)),
     qo 14 (.load false 1 (.t 13)),
     qm 15 2,
     qe 16 (.call 240 [(.t 14), (.t 15)]),
     qm 6 16])
   (.seq .skip
   (.seq (.seq (.region [qm 17 0,
     qo 18 (.nilck (.t 17)),
     qo 19 (.faddr 19 (.t 18)),
     qo 20 (.load false 1 (.t 19)),
     qo 21 (.lensl (.t 20)),
     qo 22 (.mv (.c (.int .i64 (.ofNat 0))))])
   (.block 0 (.loop l0_task_Task_scatter)))
   (.region [qm 45 0,
     qo 46 (.load true 14 (.t 4)),
     qe 47 (.call 134 [(.t 45), (.t 46)])]))))))) }
theorem tr_task_Task_scatter : trF cx Tryz.f248 = pf_task_Task_scatter := by kernel_rfl
def l0_slices_IndexFunc_router_job_router_job : PC :=
  (.seq (.region [qo 9 (.bin .lss (.t 8) (.t 7))])
  (.seq (.cond (.t 9)
   .skip
   (.exit 0))
  (.seq (.block 1 (.seq (.region [qm 10 8,
     qm 5 10])
   (.seq (.region [qm 11 1,
     qm 12 0,
     qm 13 5,
     qo 14 (.iasl 1 (.t 12) (.t 13)),
     qo 15 (.load false 1 (.t 14)),
     qe 16 (.callv (.t 11) [(.t 15)])])
   (.cond (.t 16)
    (.seq (.region [qm 17 5,
      qm 4 17])
    .ret)
    .skip))))
  (.region [qo 18 (.bin .add (.t 8) (.c (.int .i64 (.ofNat 1)))),
    qm 8 18]))))
/-- slices.IndexFunc[[]*depot/router.job,*depot/router.job] -/
def pf_slices_IndexFunc_router_job_router_job : PF := { ntmps := 19, results := [.tmp 4], body :=
  (.seq (.region [qo 4 (.mv (.c (.int .i64 (.ofNat 0))))])
  (.seq (.seq (.region [qm 6 0,
    qo 7 (.lensl (.t 6)),
    qo 8 (.mv (.c (.int .i64 (.ofNat 0))))])
  (.block 0 (.loop l0_slices_IndexFunc_router_job_router_job)))
  (.seq (.region [qo 4 (.mv (.c (.int .i64 (.negSucc 0))))])
  .ret))) }
theorem tr_slices_IndexFunc_router_job_router_job : trF cx Tryz.f249 = pf_slices_IndexFunc_router_job_router_job := by kernel_rfl
/-- internal/strconv.FormatInt -/
def pf_internal_strconv_FormatInt : PF := { ntmps := 54, results := [.tmp 4], body :=
  (.seq (.region [qo 4 (.mv (.c (.str [])))])
  (.seq (.seq (.region [qm 10 1,
    qo 11 (.bin .eql (.t 10) (.c (.int .i64 (.ofNat 10))))])
  (.cond (.t 11)
   (.seq (.seq (.region [qm 12 0,
     qo 13 (.bin .leq (.c (.int .i64 (.ofNat 0))) (.t 12)),
     qm 14 13,
     qg 15 14 true 0,
     qh 16 14 true (.bin .lss (.t 15) (.c (.int .i64 (.ofNat 100)))),
     qo 17 (.pick (.t 14) (.t 16) (.c (.bool false)))])
   (.cond (.t 17)
    (.seq (.region [qm 18 0,
      qe 19 (.call 209 [(.t 18)]),
      qm 4 19])
    .ret)
    .skip))
   (.seq (.region [qn 5 (.new 0 (rep 24 [(.int .u8 (.ofNat 0))]))])
   (.seq (.region [qm 20 0,
     qo 21 (.cint .u64 (.t 20)),
     qm 6 21])
   (.seq (.seq (.region [qm 22 0,
     qo 23 (.bin .lss (.t 22) (.c (.int .i64 (.ofNat 0))))])
   (.cond (.t 23)
    (.region [qm 24 6,
      qo 25 (.un .neg (.t 24)),
      qm 6 25])
    .skip))
   (.seq (.region [qm 26 6,
     qo 27 (.bad),
     qm 7 27])
   (.seq (.region [qm 28 7,
     qo 29 (.bin .add (.c (.int .i64 (.ofNat 1))) (.t 28)),
     qo 30 (.slarr 24 1 (.t 5) (some (.c (.int .i64 (.ofNat 1)))) (some (.t 29))),
     qm 31 6,
     qo 32 (.bad)])
   (.seq (.seq (.region [qm 33 0,
     qo 34 (.bin .lss (.t 33) (.c (.int .i64 (.ofNat 0))))])
   (.cond (.t 34)
    (.seq (.region [qo 35 (.iaarr 24 1 (.t 5) (.c (.int .i64 (.ofNat 0)))),
      qx (.store 1 (.t 35) (.c (.int .u8 (.ofNat 45))))])
    (.seq (.region [qm 36 7,
      qo 37 (.bin .add (.c (.int .i64 (.ofNat 1))) (.t 36)),
      qo 38 (.slarr 24 1 (.t 5) none (some (.t 37))),
      qo 39 (.b2s (.t 38)),
      qm 4 39])
    .ret))
    .skip))
   (.seq (.region [qm 40 7,
     qo 41 (.bin .add (.c (.int .i64 (.ofNat 1))) (.t 40)),
     qo 42 (.slarr 24 1 (.t 5) (some (.c (.int .i64 (.ofNat 1)))) (some (.t 41))),
     qo 43 (.b2s (.t 42)),
     qm 4 43])
   .ret))))))))
   .skip))
  (.seq (.region [qm 45 0,
    qo 46 (.cint .u64 (.t 45)),
    qm 47 1,
    qm 48 0,
    qo 49 (.bin .lss (.t 48) (.c (.int .i64 (.ofNat 0)))),
    qo 50 (.bad),
    qm 44 50,
    qo 51 (.ext 0 (.t 44)),
    qo 52 (.ext 1 (.t 44)),
    qm 8 51,
    qm 9 52])
  (.seq (.region [qm 53 9,
    qm 4 53])
  .ret)))) }
theorem tr_internal_strconv_FormatInt : trF cx Tryz.f252 = pf_internal_strconv_FormatInt := by kernel_rfl
/-- (*strings.Builder).grow -/
def pf_strings_Builder_grow : PF := { ntmps := 30, results := [], body :=
  (.seq (.region [qm 5 0,
    qo 6 (.nilck (.t 5)),
    qo 7 (.faddr 1 (.t 6)),
    qo 8 (.load false 1 (.t 7)),
    qo 9 (.cap (.t 8)),
    qo 10 (.bin .mul (.c (.int .i64 (.ofNat 2))) (.t 9)),
    qm 11 1,
    qo 12 (.bin .add (.t 10) (.t 11)),
    qn 13 (.nozero (.t 12)),
    qm 14 0,
    qo 15 (.nilck (.t 14)),
    qo 16 (.faddr 1 (.t 15)),
    qo 17 (.load false 1 (.t 16)),
    qo 18 (.lensl (.t 17)),
    qo 19 (.slsl 1 (.t 13) none (some (.t 18)) none),
    qm 4 19])
  (.seq (.region [qm 20 4,
    qm 21 0,
    qo 22 (.nilck (.t 21)),
    qo 23 (.faddr 1 (.t 22)),
    qo 24 (.load false 1 (.t 23)),
    qe 25 (.copy 1 (.t 20) (.t 24))])
  (.region [qm 26 0,
    qm 27 4,
    qo 28 (.nilck (.t 26)),
    qo 29 (.faddr 1 (.t 28)),
    qx (.store 1 (.t 29) (.t 27))]))) }
theorem tr_strings_Builder_grow : trF cx Tryz.f254 = pf_strings_Builder_grow := by kernel_rfl
/-- strings.CutPrefix -/
def pf_strings_CutPrefix : PF := { ntmps := 11, results := [.tmp 4, .tmp 5], body :=
  (.seq (.region [qo 4 (.mv (.c (.str []))),
    qo 5 (.mv (.c (.bool false)))])
  (.seq (.region [qm 6 0,
    qm 7 1,
    qe 8 (.call 285 [(.t 6), (.t 7)]),
    qo 9 (.ext 0 (.t 8)),
    qo 10 (.ext 1 (.t 8)),
    qm 4 9,
    qm 5 10])
  .ret)) }
theorem tr_strings_CutPrefix : trF cx Tryz.f259 = pf_strings_CutPrefix := by kernel_rfl
end Go.Proofs.YtobnlhfgebfebaaGreatDoor
