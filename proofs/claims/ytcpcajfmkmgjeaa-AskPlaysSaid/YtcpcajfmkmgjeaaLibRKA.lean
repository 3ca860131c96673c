/- The functions that this seat's laws reach, for the clean machine; each is what the translation makes of the given text. Conditions: none. Printed by program. -/
import Derived.Test.YtcpcajfmkmgjeaaChecked
import Derived.KernelRfl
import Derived.Test.YtcpcajfmkmgjeaaQsD
namespace Go.Proofs.Ytcpcajfmkmgjeaa.R
open Go.Dp
def nums : List Nat := [3, 7, 8, 9, 10, 22, 23, 24, 25, 26, 29, 30, 31, 32, 33, 34, 35, 36, 37, 38, 39, 40, 41, 42, 43, 44, 45, 46, 47, 48, 49, 50, 51]
abbrev n_depotlaw19_AskRuns : Nat := 3
abbrev n_ask_New : Nat := 7
abbrev n_ask_Asks_Begin : Nat := 8
abbrev n_ask_Asks_Answer : Nat := 9
abbrev n_ask_Asks_Tick : Nat := 10
abbrev n_wire_Right : Nat := 22
abbrev n_ask_Asks_floor : Nat := 23
abbrev n_slices_Delete_ask_open_ask_open : Nat := 24
abbrev n_slices_Contains_int_int : Nat := 25
abbrev n_slices_Sort_int_int : Nat := 26
abbrev n_wire_within : Nat := 29
abbrev n_wire_role : Nat := 30
abbrev n_slices_Index_int_int : Nat := 31
abbrev n_slices_pdqsortOrdered_int : Nat := 32
abbrev n_math_bits_Len : Nat := 33
abbrev n_slices_insertionSortOrdered_int : Nat := 34
abbrev n_slices_heapSortOrdered_int : Nat := 35
abbrev n_slices_breakPatternsOrdered_int : Nat := 36
abbrev n_slices_choosePivotOrdered_int : Nat := 37
abbrev n_slices_reverseRangeOrdered_int : Nat := 38
abbrev n_slices_partialInsertionSortOrdered_int : Nat := 39
abbrev n_cmp_Less_int : Nat := 40
abbrev n_slices_partitionEqualOrdered_int : Nat := 41
abbrev n_slices_partitionOrdered_int : Nat := 42
abbrev n_math_bits_Len32 : Nat := 43
abbrev n_math_bits_Len64 : Nat := 44
abbrev n_slices_siftDownOrdered_int : Nat := 45
abbrev n_slices_nextPowerOfTwo : Nat := 46
abbrev n_slices_xorshift_Next : Nat := 47
abbrev n_slices_medianAdjacentOrdered_int : Nat := 48
abbrev n_slices_medianOrdered_int : Nat := 49
abbrev n_cmp_isNaN_int : Nat := 50
abbrev n_slices_order2Ordered_int : Nat := 51
noncomputable def cx : Cx := { P := Try.prog, fm := fmOf nums, gm := fun _ => none, ext := extOf [], bt := none }
def l0_depotlaw19_AskRuns : PC :=
  (.seq (.seq (.region [.op ⟨(some 44), none, (.r (.mv (.t 13)))⟩,
    .op ⟨(some 45), none, (.r (.bin .lss (.t 44) (.c (.int .i64 (.ofNat 40)))))⟩])
  (.cond (.t 45)
   .skip
   (.exit 0)))
  (.seq (.block 1 (.seq (.region [.op ⟨(some 49), none, (.r (.mv (.t 1)))⟩,
     .op ⟨(some 50), none, (.e (.call n_ask_Asks_Tick [(.t 49)]))⟩,
     .op ⟨(some 48), none, (.r (.mv (.t 50)))⟩,
     .op ⟨(some 51), none, (.r (.ext 0 (.t 48)))⟩,
     .op ⟨(some 52), none, (.r (.ext 1 (.t 48)))⟩,
     .op ⟨(some 14), none, (.r (.mv (.t 51)))⟩,
     .op ⟨(some 15), none, (.r (.mv (.t 52)))⟩])
   (.seq (.region [.op ⟨(some 53), none, (.r (.mv (.t 11)))⟩,
     .op ⟨(some 54), none, (.r (.mv (.t 14)))⟩,
     .op ⟨(some 55), none, (.r (.lensl (.t 54)))⟩,
     .op ⟨(some 56), none, (.r (.bin .add (.t 53) (.t 55)))⟩,
     .op ⟨(some 11), none, (.r (.mv (.t 56)))⟩])
   (.seq (.region [.op ⟨(some 57), none, (.r (.mv (.t 12)))⟩,
     .op ⟨(some 58), none, (.r (.mv (.t 57)))⟩,
     .op ⟨(some 59), (some (58, false)), (.r (.mv (.t 15)))⟩,
     .op ⟨(some 60), (some (58, false)), (.r (.lensl (.t 59)))⟩,
     .op ⟨(some 61), (some (58, false)), (.r (.bin .eql (.t 60) (.c (.int .i64 (.ofNat 1)))))⟩,
     .op ⟨(some 62), (some (58, false)), (.r (.mv (.t 61)))⟩,
     .op ⟨(some 63), (some (62, true)), (.r (.mv (.t 15)))⟩,
     .op ⟨(some 64), (some (62, true)), (.r (.iasl 1 (.t 63) (.c (.int .i64 (.ofNat 0)))))⟩,
     .op ⟨(some 65), (some (62, true)), (.r (.load false 1 (.t 64)))⟩,
     .op ⟨(some 66), (some (62, true)), (.r (.bin .eql (.t 65) (.c (.int .i64 (.ofNat 0)))))⟩,
     .op ⟨(some 67), (some (58, false)), (.r (.pick (.t 62) (.t 66) (.c (.bool false))))⟩,
     .op ⟨(some 68), none, (.r (.pick (.t 58) (.c (.bool true)) (.t 67)))⟩,
     .op ⟨(some 12), none, (.r (.mv (.t 68)))⟩])
   (.seq (.region [.op ⟨(some 69), none, (.r (.mv (.t 12)))⟩,
     .op ⟨(some 70), none, (.r (.mv (.t 13)))⟩,
     .op ⟨(some 71), none, (.r (.bin .eql (.t 70) (.c (.int .i64 (.ofNat 39)))))⟩,
     .op ⟨(some 72), none, (.r (.eqv true .b (.t 69) (.t 71)))⟩])
   (.cond (.t 72)
    (.seq (.region [.op ⟨(some 0), none, (.r (.mv (.c (.bool false))))⟩])
    .ret)
    .skip))))))
  (.region [.op ⟨(some 46), none, (.r (.mv (.t 13)))⟩,
    .op ⟨(some 47), none, (.r (.bin .add (.t 46) (.c (.int .i64 (.ofNat 1)))))⟩,
    .op ⟨(some 13), none, (.r (.mv (.t 47)))⟩])))
/-- depot/depotlaw19.AskRuns -/
def pf_depotlaw19_AskRuns : PF := { ntmps := 120, results := [.tmp 0], body :=
  (.seq (.region [.op ⟨(some 0), none, (.r (.mv (.c (.bool false))))⟩])
  (.seq (.region [.op ⟨(some 16), none, (.e (.call n_ask_New []))⟩,
    .op ⟨(some 1), none, (.r (.mv (.t 16)))⟩])
  (.seq (.seq (.region [.op ⟨(some 17), none, (.r (.mv (.t 1)))⟩,
    .op ⟨(some 18), none, (.r (.eqc false (.t 17) (.c .nilp)))⟩])
  (.cond (.t 18)
   (.seq (.region [.op ⟨(some 0), none, (.r (.mv (.c (.bool false))))⟩])
   .ret)
   .skip))
  (.seq (.region [.op ⟨(some 19), none, (.r (.build [(.int .i64 (.ofNat 0)), (.int .i64 (.ofNat 0)), (.int .i64 (.ofNat 0)), (.int .i64 (.ofNat 0)), (.int .i64 (.ofNat 0)), (.int .i64 (.ofNat 0)), (.str []), (.int .i64 (.ofNat 0)), (.str [])] [(0, 1, (.c (.int .i64 (.ofNat 4))))]))⟩,
    .op ⟨(some 2), none, (.n (.new 0 [(.int .i64 (.ofNat 0)), (.int .i64 (.ofNat 0)), (.int .i64 (.ofNat 0)), (.int .i64 (.ofNat 0)), (.int .i64 (.ofNat 0)), (.int .i64 (.ofNat 0)), (.str []), (.int .i64 (.ofNat 0)), (.str [])]))⟩,
    .op ⟨none, none, (.e (.store 9 (.t 2) (.t 19)))⟩])
  (.seq (.region [.op ⟨(some 21), none, (.r (.mv (.t 1)))⟩,
    .op ⟨(some 22), none, (.r (.load true 9 (.t 2)))⟩,
    .op ⟨(some 23), none, (.e (.call n_ask_Asks_Begin [(.t 21), (.t 22)]))⟩,
    .op ⟨(some 20), none, (.r (.mv (.t 23)))⟩,
    .op ⟨(some 24), none, (.r (.ext 0 (.t 20)))⟩,
    .op ⟨(some 25), none, (.r (.ext 1 (.t 20)))⟩,
    .op ⟨(some 3), none, (.n (.new 0 [(.int .i64 (.ofNat 0)), (.int .i64 (.ofNat 0)), (.int .i64 (.ofNat 0)), (.int .i64 (.ofNat 0)), (.int .i64 (.ofNat 0)), (.int .i64 (.ofNat 0)), (.str []), (.int .i64 (.ofNat 0)), (.str [])]))⟩,
    .op ⟨none, none, (.e (.store 9 (.t 3) (.t 24)))⟩,
    .op ⟨(some 4), none, (.r (.mv (.t 25)))⟩])
  (.seq (.region [.op ⟨(some 27), none, (.r (.mv (.t 1)))⟩,
    .op ⟨(some 28), none, (.r (.load true 9 (.t 2)))⟩,
    .op ⟨(some 29), none, (.e (.call n_ask_Asks_Begin [(.t 27), (.t 28)]))⟩,
    .op ⟨(some 26), none, (.r (.mv (.t 29)))⟩,
    .op ⟨(some 30), none, (.r (.ext 0 (.t 26)))⟩,
    .op ⟨(some 31), none, (.r (.ext 1 (.t 26)))⟩,
    .op ⟨(some 5), none, (.n (.new 0 [(.int .i64 (.ofNat 0)), (.int .i64 (.ofNat 0)), (.int .i64 (.ofNat 0)), (.int .i64 (.ofNat 0)), (.int .i64 (.ofNat 0)), (.int .i64 (.ofNat 0)), (.str []), (.int .i64 (.ofNat 0)), (.str [])]))⟩,
    .op ⟨none, none, (.e (.store 9 (.t 5) (.t 30)))⟩,
    .op ⟨(some 6), none, (.r (.mv (.t 31)))⟩])
  (.seq (.region [.op ⟨(some 33), none, (.r (.mv (.t 1)))⟩,
    .op ⟨(some 34), none, (.r (.build [(.int .i64 (.ofNat 0)), (.int .i64 (.ofNat 0)), (.int .i64 (.ofNat 0)), (.int .i64 (.ofNat 0)), (.int .i64 (.ofNat 0)), (.int .i64 (.ofNat 0)), (.str []), (.int .i64 (.ofNat 0)), (.str [])] [(0, 1, (.c (.int .i64 (.ofNat 6)))), (3, 1, (.c (.int .i64 (.ofNat 1))))]))⟩,
    .op ⟨(some 35), none, (.e (.call n_ask_Asks_Answer [(.t 33), (.t 34)]))⟩,
    .op ⟨(some 32), none, (.r (.mv (.t 35)))⟩,
    .op ⟨(some 36), none, (.r (.ext 0 (.t 32)))⟩,
    .op ⟨(some 37), none, (.r (.ext 1 (.t 32)))⟩,
    .op ⟨(some 7), none, (.n (.new 0 [(.int .i64 (.ofNat 0)), (.int .i64 (.ofNat 0)), (.int .i64 (.ofNat 0)), (.int .i64 (.ofNat 0)), (.int .i64 (.ofNat 0)), (.int .i64 (.ofNat 0)), (.str []), (.int .i64 (.ofNat 0)), (.str [])]))⟩,
    .op ⟨none, none, (.e (.store 9 (.t 7) (.t 36)))⟩,
    .op ⟨(some 8), none, (.r (.mv (.t 37)))⟩])
  (.seq (.region [.op ⟨(some 39), none, (.r (.mv (.t 1)))⟩,
    .op ⟨(some 40), none, (.r (.load true 9 (.t 2)))⟩,
    .op ⟨(some 41), none, (.e (.call n_ask_Asks_Begin [(.t 39), (.t 40)]))⟩,
    .op ⟨(some 38), none, (.r (.mv (.t 41)))⟩,
    .op ⟨(some 42), none, (.r (.ext 0 (.t 38)))⟩,
    .op ⟨(some 43), none, (.r (.ext 1 (.t 38)))⟩,
    .op ⟨(some 9), none, (.n (.new 0 [(.int .i64 (.ofNat 0)), (.int .i64 (.ofNat 0)), (.int .i64 (.ofNat 0)), (.int .i64 (.ofNat 0)), (.int .i64 (.ofNat 0)), (.int .i64 (.ofNat 0)), (.str []), (.int .i64 (.ofNat 0)), (.str [])]))⟩,
    .op ⟨none, none, (.e (.store 9 (.t 9) (.t 42)))⟩,
    .op ⟨(some 10), none, (.r (.mv (.t 43)))⟩])
  (.seq (.region [.op ⟨(some 11), none, (.r (.mv (.c (.int .i64 (.ofNat 0)))))⟩,
    .op ⟨(some 12), none, (.r (.mv (.c (.bool false))))⟩])
  (.seq (.seq (.region [.op ⟨(some 13), none, (.r (.mv (.c (.int .i64 (.ofNat 0)))))⟩])
  (.block 0 (.loop l0_depotlaw19_AskRuns)))
  (.seq (.region [.op ⟨(some 73), none, (.r (.mv (.t 4)))⟩,
    .op ⟨(some 74), none, (.r (.mv (.t 73)))⟩,
    .op ⟨(some 75), (some (74, true)), (.r (.faddr 3 (.t 3)))⟩,
    .op ⟨(some 76), (some (74, true)), (.r (.load false 1 (.t 75)))⟩,
    .op ⟨(some 77), (some (74, true)), (.r (.bin .eql (.t 76) (.c (.int .i64 (.ofNat 1)))))⟩,
    .op ⟨(some 78), none, (.r (.pick (.t 74) (.t 77) (.c (.bool false))))⟩,
    .op ⟨(some 79), none, (.r (.mv (.t 78)))⟩,
    .op ⟨(some 80), (some (79, true)), (.r (.faddr 4 (.t 3)))⟩,
    .op ⟨(some 81), (some (79, true)), (.r (.load false 1 (.t 80)))⟩,
    .op ⟨(some 82), (some (79, true)), (.r (.bin .eql (.t 81) (.c (.int .i64 (.ofNat 1)))))⟩,
    .op ⟨(some 83), none, (.r (.pick (.t 79) (.t 82) (.c (.bool false))))⟩,
    .op ⟨(some 84), none, (.r (.mv (.t 83)))⟩,
    .op ⟨(some 85), (some (84, true)), (.r (.mv (.t 6)))⟩,
    .op ⟨(some 86), none, (.r (.pick (.t 84) (.t 85) (.c (.bool false))))⟩,
    .op ⟨(some 87), none, (.r (.mv (.t 86)))⟩,
    .op ⟨(some 88), (some (87, true)), (.r (.faddr 3 (.t 5)))⟩,
    .op ⟨(some 89), (some (87, true)), (.r (.load false 1 (.t 88)))⟩,
    .op ⟨(some 90), (some (87, true)), (.r (.bin .eql (.t 89) (.c (.int .i64 (.ofNat 2)))))⟩,
    .op ⟨(some 91), none, (.r (.pick (.t 87) (.t 90) (.c (.bool false))))⟩,
    .op ⟨(some 92), none, (.r (.mv (.t 91)))⟩,
    .op ⟨(some 93), (some (92, true)), (.r (.faddr 4 (.t 5)))⟩,
    .op ⟨(some 94), (some (92, true)), (.r (.load false 1 (.t 93)))⟩,
    .op ⟨(some 95), (some (92, true)), (.r (.bin .eql (.t 94) (.c (.int .i64 (.ofNat 1)))))⟩,
    .op ⟨(some 96), none, (.r (.pick (.t 92) (.t 95) (.c (.bool false))))⟩,
    .op ⟨(some 97), none, (.r (.mv (.t 96)))⟩,
    .op ⟨(some 98), (some (97, true)), (.r (.mv (.t 8)))⟩,
    .op ⟨(some 99), none, (.r (.pick (.t 97) (.t 98) (.c (.bool false))))⟩,
    .op ⟨(some 100), none, (.r (.mv (.t 99)))⟩,
    .op ⟨(some 101), (some (100, true)), (.r (.mv (.t 10)))⟩,
    .op ⟨(some 102), none, (.r (.pick (.t 100) (.t 101) (.c (.bool false))))⟩,
    .op ⟨(some 103), none, (.r (.mv (.t 102)))⟩,
    .op ⟨(some 104), (some (103, true)), (.r (.faddr 3 (.t 9)))⟩,
    .op ⟨(some 105), (some (103, true)), (.r (.load false 1 (.t 104)))⟩,
    .op ⟨(some 106), (some (103, true)), (.r (.bin .eql (.t 105) (.c (.int .i64 (.ofNat 3)))))⟩,
    .op ⟨(some 107), none, (.r (.pick (.t 103) (.t 106) (.c (.bool false))))⟩,
    .op ⟨(some 108), none, (.r (.mv (.t 107)))⟩,
    .op ⟨(some 109), (some (108, true)), (.r (.faddr 4 (.t 9)))⟩,
    .op ⟨(some 110), (some (108, true)), (.r (.load false 1 (.t 109)))⟩,
    .op ⟨(some 111), (some (108, true)), (.r (.bin .eql (.t 110) (.c (.int .i64 (.ofNat 2)))))⟩,
    .op ⟨(some 112), none, (.r (.pick (.t 108) (.t 111) (.c (.bool false))))⟩,
    .op ⟨(some 113), none, (.r (.mv (.t 112)))⟩,
    .op ⟨(some 114), (some (113, true)), (.r (.mv (.t 11)))⟩,
    .op ⟨(some 115), (some (113, true)), (.r (.bin .eql (.t 114) (.c (.int .i64 (.ofNat 20)))))⟩,
    .op ⟨(some 116), none, (.r (.pick (.t 113) (.t 115) (.c (.bool false))))⟩,
    .op ⟨(some 117), none, (.r (.mv (.t 116)))⟩,
    .op ⟨(some 118), (some (117, true)), (.r (.mv (.t 12)))⟩,
    .op ⟨(some 119), none, (.r (.pick (.t 117) (.t 118) (.c (.bool false))))⟩,
    .op ⟨(some 0), none, (.r (.mv (.t 119)))⟩])
  .ret))))))))))) }
theorem tr_depotlaw19_AskRuns : trF cx Try.f3 = pf_depotlaw19_AskRuns := by kernel_rfl
/-- depot/ask.New -/
def pf_ask_New : PF := { ntmps := 3, results := [.tmp 0], body :=
  (.seq (.region [.op ⟨(some 0), none, (.r (.mv (.c .nilp)))⟩])
  (.seq (.region [.op ⟨(some 1), none, (.r (.build [.nils, (.int .i64 (.ofNat 0))] []))⟩,
    .op ⟨(some 2), none, (.n (.box (.t 1)))⟩,
    .op ⟨(some 0), none, (.r (.mv (.t 2)))⟩])
  .ret)) }
theorem tr_ask_New : trF cx Try.f7 = pf_ask_New := by kernel_rfl
/-- (*depot/ask.Asks).Begin -/
def pf_ask_Asks_Begin : PF := { ntmps := 48, results := [.cell 4 true 9, .tmp 5], body :=
  (.seq (.region [.op ⟨(some 3), none, (.n (.box (.t 1)))⟩,
    .op ⟨(some 4), none, (.n (.new 0 [(.int .i64 (.ofNat 0)), (.int .i64 (.ofNat 0)), (.int .i64 (.ofNat 0)), (.int .i64 (.ofNat 0)), (.int .i64 (.ofNat 0)), (.int .i64 (.ofNat 0)), (.str []), (.int .i64 (.ofNat 0)), (.str [])]))⟩,
    .op ⟨(some 5), none, (.r (.mv (.c (.bool false))))⟩])
  (.seq (.region [.op ⟨(some 6), none, (.r (.mv (.t 0)))⟩,
    .op ⟨(some 7), none, (.r (.nilck (.t 6)))⟩,
    .op ⟨(some 8), none, (.r (.faddr 1 (.t 7)))⟩,
    .op ⟨(some 9), none, (.r (.load false 1 (.t 8)))⟩,
    .op ⟨(some 10), none, (.r (.bin .add (.t 9) (.c (.int .i64 (.ofNat 1)))))⟩,
    .op ⟨(some 11), none, (.r (.faddr 3 (.t 3)))⟩,
    .op ⟨none, none, (.e (.store 1 (.t 11) (.t 10)))⟩,
    .op ⟨(some 12), none, (.r (.faddr 4 (.t 3)))⟩,
    .op ⟨none, none, (.e (.store 1 (.t 12) (.c (.int .i64 (.ofNat 0)))))⟩])
  (.seq (.seq (.region [.op ⟨(some 13), none, (.r (.load true 9 (.t 3)))⟩,
    .op ⟨(some 14), none, (.e (.call n_wire_Right [(.t 13)]))⟩,
    .op ⟨(some 15), none, (.r (.un .not (.t 14)))⟩,
    .op ⟨(some 16), none, (.r (.mv (.t 15)))⟩,
    .op ⟨(some 17), (some (16, false)), (.r (.faddr 0 (.t 3)))⟩,
    .op ⟨(some 18), (some (16, false)), (.r (.load false 1 (.t 17)))⟩,
    .op ⟨(some 19), (some (16, false)), (.r (.bin .geq (.t 18) (.c (.int .i64 (.ofNat 6)))))⟩,
    .op ⟨(some 20), none, (.r (.pick (.t 16) (.c (.bool true)) (.t 19)))⟩])
  (.cond (.t 20)
   (.seq (.region [.op ⟨(some 21), none, (.r (.build [(.int .i64 (.ofNat 0)), (.int .i64 (.ofNat 0)), (.int .i64 (.ofNat 0)), (.int .i64 (.ofNat 0)), (.int .i64 (.ofNat 0)), (.int .i64 (.ofNat 0)), (.str []), (.int .i64 (.ofNat 0)), (.str [])] []))⟩,
     .op ⟨none, none, (.e (.store 9 (.t 4) (.t 21)))⟩,
     .op ⟨(some 5), none, (.r (.mv (.c (.bool false))))⟩])
   .ret)
   .skip))
  (.seq (.region [.op ⟨(some 22), none, (.r (.mv (.t 0)))⟩,
    .op ⟨(some 23), none, (.r (.nilck (.t 22)))⟩,
    .op ⟨(some 24), none, (.r (.faddr 1 (.t 23)))⟩,
    .op ⟨(some 25), none, (.r (.load false 1 (.t 24)))⟩,
    .op ⟨(some 26), none, (.r (.bin .add (.t 25) (.c (.int .i64 (.ofNat 1)))))⟩,
    .op ⟨(some 27), none, (.r (.nilck (.t 22)))⟩,
    .op ⟨(some 28), none, (.r (.faddr 1 (.t 27)))⟩,
    .op ⟨none, none, (.e (.store 1 (.t 28) (.t 26)))⟩])
  (.seq (.region [.op ⟨(some 29), none, (.r (.mv (.t 0)))⟩,
    .op ⟨(some 30), none, (.r (.faddr 1 (.t 3)))⟩,
    .op ⟨(some 31), none, (.r (.load false 1 (.t 30)))⟩,
    .op ⟨(some 32), none, (.r (.faddr 3 (.t 3)))⟩,
    .op ⟨(some 33), none, (.r (.load false 1 (.t 32)))⟩,
    .op ⟨(some 34), none, (.e (.call n_ask_Asks_floor [(.t 29), (.t 31), (.t 33)]))⟩,
    .op ⟨(some 35), none, (.r (.faddr 4 (.t 3)))⟩,
    .op ⟨none, none, (.e (.store 1 (.t 35) (.t 34)))⟩])
  (.seq (.region [.op ⟨(some 36), none, (.r (.mv (.t 0)))⟩,
    .op ⟨(some 37), none, (.r (.mv (.t 0)))⟩,
    .op ⟨(some 38), none, (.r (.nilck (.t 37)))⟩,
    .op ⟨(some 39), none, (.r (.faddr 0 (.t 38)))⟩,
    .op ⟨(some 40), none, (.r (.load false 1 (.t 39)))⟩,
    .op ⟨(some 41), none, (.r (.load true 9 (.t 3)))⟩,
    .op ⟨(some 42), none, (.r (.build [(.int .i64 (.ofNat 0)), (.int .i64 (.ofNat 0)), (.int .i64 (.ofNat 0)), (.int .i64 (.ofNat 0)), (.int .i64 (.ofNat 0)), (.int .i64 (.ofNat 0)), (.str []), (.int .i64 (.ofNat 0)), (.str []), (.int .i64 (.ofNat 0))] [(0, 9, (.t 41))]))⟩,
    .op ⟨(some 43), none, (.n (.bslice 0 10 1 [(.int .i64 (.ofNat 0)), (.int .i64 (.ofNat 0)), (.int .i64 (.ofNat 0)), (.int .i64 (.ofNat 0)), (.int .i64 (.ofNat 0)), (.int .i64 (.ofNat 0)), (.str []), (.int .i64 (.ofNat 0)), (.str []), (.int .i64 (.ofNat 0))] [(0, 10, (.t 42))]))⟩,
    .op ⟨(some 44), none, (.e (.app 0 10 96 (.t 40) (.t 43)))⟩,
    .op ⟨(some 45), none, (.r (.nilck (.t 36)))⟩,
    .op ⟨(some 46), none, (.r (.faddr 0 (.t 45)))⟩,
    .op ⟨none, none, (.e (.store 1 (.t 46) (.t 44)))⟩])
  (.seq (.region [.op ⟨(some 47), none, (.r (.load true 9 (.t 3)))⟩,
    .op ⟨none, none, (.e (.store 9 (.t 4) (.t 47)))⟩,
    .op ⟨(some 5), none, (.r (.mv (.c (.bool true))))⟩])
  .ret))))))) }
theorem tr_ask_Asks_Begin : trF cx Try.f8 = pf_ask_Asks_Begin := by kernel_rfl
def l0_ask_Asks_Answer : PC :=
  (.seq (.region [.op ⟨(some 23), none, (.r (.bin .lss (.t 22) (.t 21)))⟩])
  (.seq (.cond (.t 23)
   .skip
   (.exit 0))
  (.seq (.block 1 (.seq (.region [.op ⟨(some 24), none, (.r (.mv (.t 22)))⟩,
     .op ⟨(some 25), none, (.r (.iasl 10 (.t 20) (.t 22)))⟩,
     .op ⟨(some 26), none, (.r (.load true 10 (.t 25)))⟩,
     .op ⟨(some 7), none, (.n (.new 0 [(.int .i64 (.ofNat 0)), (.int .i64 (.ofNat 0)), (.int .i64 (.ofNat 0)), (.int .i64 (.ofNat 0)), (.int .i64 (.ofNat 0)), (.int .i64 (.ofNat 0)), (.str []), (.int .i64 (.ofNat 0)), (.str []), (.int .i64 (.ofNat 0))]))⟩,
     .op ⟨(some 6), none, (.r (.mv (.t 24)))⟩,
     .op ⟨none, none, (.e (.store 10 (.t 7) (.t 26)))⟩])
   (.seq (.region [.op ⟨(some 27), none, (.r (.faddr 0 (.t 7)))⟩,
     .op ⟨(some 28), none, (.r (.faddr 3 (.t 27)))⟩,
     .op ⟨(some 29), none, (.r (.load false 1 (.t 28)))⟩,
     .op ⟨(some 30), none, (.r (.faddr 3 (.t 3)))⟩,
     .op ⟨(some 31), none, (.r (.load false 1 (.t 30)))⟩,
     .op ⟨(some 32), none, (.r (.bin .eql (.t 29) (.t 31)))⟩,
     .op ⟨(some 33), none, (.r (.mv (.t 32)))⟩,
     .op ⟨(some 34), (some (33, true)), (.r (.faddr 0 (.t 7)))⟩,
     .op ⟨(some 35), (some (33, true)), (.r (.faddr 1 (.t 34)))⟩,
     .op ⟨(some 36), (some (33, true)), (.r (.load false 1 (.t 35)))⟩,
     .op ⟨(some 37), (some (33, true)), (.r (.faddr 1 (.t 3)))⟩,
     .op ⟨(some 38), (some (33, true)), (.r (.load false 1 (.t 37)))⟩,
     .op ⟨(some 39), (some (33, true)), (.r (.bin .eql (.t 36) (.t 38)))⟩,
     .op ⟨(some 40), none, (.r (.pick (.t 33) (.t 39) (.c (.bool false))))⟩,
     .op ⟨(some 41), none, (.r (.mv (.t 40)))⟩,
     .op ⟨(some 42), (some (41, true)), (.r (.faddr 0 (.t 7)))⟩,
     .op ⟨(some 43), (some (41, true)), (.r (.faddr 2 (.t 42)))⟩,
     .op ⟨(some 44), (some (41, true)), (.r (.load false 1 (.t 43)))⟩,
     .op ⟨(some 45), (some (41, true)), (.r (.faddr 2 (.t 3)))⟩,
     .op ⟨(some 46), (some (41, true)), (.r (.load false 1 (.t 45)))⟩,
     .op ⟨(some 47), (some (41, true)), (.r (.bin .eql (.t 44) (.t 46)))⟩,
     .op ⟨(some 48), none, (.r (.pick (.t 41) (.t 47) (.c (.bool false))))⟩])
   (.cond (.t 48)
    (.seq (.region [.op ⟨(some 49), none, (.r (.mv (.t 0)))⟩,
      .op ⟨(some 50), none, (.r (.mv (.t 0)))⟩,
      .op ⟨(some 51), none, (.r (.nilck (.t 50)))⟩,
      .op ⟨(some 52), none, (.r (.faddr 0 (.t 51)))⟩,
      .op ⟨(some 53), none, (.r (.load false 1 (.t 52)))⟩,
      .op ⟨(some 54), none, (.r (.mv (.t 6)))⟩,
      .op ⟨(some 55), none, (.r (.mv (.t 6)))⟩,
      .op ⟨(some 56), none, (.r (.bin .add (.t 55) (.c (.int .i64 (.ofNat 1)))))⟩,
      .op ⟨(some 57), none, (.e (.call n_slices_Delete_ask_open_ask_open [(.t 53), (.t 54), (.t 56)]))⟩,
      .op ⟨(some 58), none, (.r (.nilck (.t 49)))⟩,
      .op ⟨(some 59), none, (.r (.faddr 0 (.t 58)))⟩,
      .op ⟨none, none, (.e (.store 1 (.t 59) (.t 57)))⟩])
    (.seq (.region [.op ⟨(some 60), none, (.r (.faddr 0 (.t 7)))⟩,
      .op ⟨(some 61), none, (.r (.load true 9 (.t 60)))⟩,
      .op ⟨none, none, (.e (.store 9 (.t 4) (.t 61)))⟩,
      .op ⟨(some 5), none, (.r (.mv (.c (.bool true))))⟩])
    .ret))
    .skip))))
  (.region [.op ⟨(some 62), none, (.r (.bin .add (.t 22) (.c (.int .i64 (.ofNat 1)))))⟩,
    .op ⟨(some 22), none, (.r (.mv (.t 62)))⟩]))))
/-- (*depot/ask.Asks).Answer -/
def pf_ask_Asks_Answer : PF := { ntmps := 64, results := [.cell 4 true 9, .tmp 5], body :=
  (.seq (.region [.op ⟨(some 3), none, (.n (.box (.t 1)))⟩,
    .op ⟨(some 4), none, (.n (.new 0 [(.int .i64 (.ofNat 0)), (.int .i64 (.ofNat 0)), (.int .i64 (.ofNat 0)), (.int .i64 (.ofNat 0)), (.int .i64 (.ofNat 0)), (.int .i64 (.ofNat 0)), (.str []), (.int .i64 (.ofNat 0)), (.str [])]))⟩,
    .op ⟨(some 5), none, (.r (.mv (.c (.bool false))))⟩])
  (.seq (.seq (.region [.op ⟨(some 8), none, (.r (.load true 9 (.t 3)))⟩,
    .op ⟨(some 9), none, (.e (.call n_wire_Right [(.t 8)]))⟩,
    .op ⟨(some 10), none, (.r (.un .not (.t 9)))⟩,
    .op ⟨(some 11), none, (.r (.mv (.t 10)))⟩,
    .op ⟨(some 12), (some (11, false)), (.r (.faddr 0 (.t 3)))⟩,
    .op ⟨(some 13), (some (11, false)), (.r (.load false 1 (.t 12)))⟩,
    .op ⟨(some 14), (some (11, false)), (.r (.bin .lss (.t 13) (.c (.int .i64 (.ofNat 6)))))⟩,
    .op ⟨(some 15), none, (.r (.pick (.t 11) (.c (.bool true)) (.t 14)))⟩])
  (.cond (.t 15)
   (.seq (.region [.op ⟨(some 16), none, (.r (.build [(.int .i64 (.ofNat 0)), (.int .i64 (.ofNat 0)), (.int .i64 (.ofNat 0)), (.int .i64 (.ofNat 0)), (.int .i64 (.ofNat 0)), (.int .i64 (.ofNat 0)), (.str []), (.int .i64 (.ofNat 0)), (.str [])] []))⟩,
     .op ⟨none, none, (.e (.store 9 (.t 4) (.t 16)))⟩,
     .op ⟨(some 5), none, (.r (.mv (.c (.bool false))))⟩])
   .ret)
   .skip))
  (.seq (.seq (.region [.op ⟨(some 17), none, (.r (.mv (.t 0)))⟩,
    .op ⟨(some 18), none, (.r (.nilck (.t 17)))⟩,
    .op ⟨(some 19), none, (.r (.faddr 0 (.t 18)))⟩,
    .op ⟨(some 20), none, (.r (.load false 1 (.t 19)))⟩,
    .op ⟨(some 21), none, (.r (.lensl (.t 20)))⟩,
    .op ⟨(some 22), none, (.r (.mv (.c (.int .i64 (.ofNat 0)))))⟩])
  (.block 0 (.loop l0_ask_Asks_Answer)))
  (.seq (.region [.op ⟨(some 63), none, (.r (.build [(.int .i64 (.ofNat 0)), (.int .i64 (.ofNat 0)), (.int .i64 (.ofNat 0)), (.int .i64 (.ofNat 0)), (.int .i64 (.ofNat 0)), (.int .i64 (.ofNat 0)), (.str []), (.int .i64 (.ofNat 0)), (.str [])] []))⟩,
    .op ⟨none, none, (.e (.store 9 (.t 4) (.t 63)))⟩,
    .op ⟨(some 5), none, (.r (.mv (.c (.bool false))))⟩])
  .ret)))) }
theorem tr_ask_Asks_Answer : trF cx Try.f9 = pf_ask_Asks_Answer := by kernel_rfl
def l0_ask_Asks_Tick : PC :=
  (.seq (.region [.op ⟨(some 15), none, (.r (.bin .lss (.t 14) (.t 13)))⟩])
  (.seq (.cond (.t 15)
   .skip
   (.exit 0))
  (.seq (.block 1 (.seq (.region [.op ⟨(some 16), none, (.r (.mv (.t 14)))⟩,
     .op ⟨(some 6), none, (.r (.mv (.t 16)))⟩])
   (.seq (.region [.op ⟨(some 17), none, (.r (.mv (.t 0)))⟩,
     .op ⟨(some 18), none, (.r (.nilck (.t 17)))⟩,
     .op ⟨(some 19), none, (.r (.faddr 0 (.t 18)))⟩,
     .op ⟨(some 20), none, (.r (.load false 1 (.t 19)))⟩,
     .op ⟨(some 21), none, (.r (.mv (.t 6)))⟩,
     .op ⟨(some 22), none, (.r (.iasl 10 (.t 20) (.t 21)))⟩,
     .op ⟨(some 7), none, (.r (.mv (.t 22)))⟩])
   (.seq (.region [.op ⟨(some 23), none, (.r (.mv (.t 7)))⟩,
     .op ⟨(some 24), none, (.r (.nilck (.t 23)))⟩,
     .op ⟨(some 25), none, (.r (.faddr 9 (.t 24)))⟩,
     .op ⟨(some 26), none, (.r (.load false 1 (.t 25)))⟩,
     .op ⟨(some 27), none, (.r (.bin .add (.t 26) (.c (.int .i64 (.ofNat 1)))))⟩,
     .op ⟨(some 28), none, (.r (.nilck (.t 23)))⟩,
     .op ⟨(some 29), none, (.r (.faddr 9 (.t 28)))⟩,
     .op ⟨none, none, (.e (.store 1 (.t 29) (.t 27)))⟩])
   (.seq (.seq (.region [.op ⟨(some 30), none, (.r (.mv (.t 7)))⟩,
     .op ⟨(some 31), none, (.r (.nilck (.t 30)))⟩,
     .op ⟨(some 32), none, (.r (.faddr 9 (.t 31)))⟩,
     .op ⟨(some 33), none, (.r (.load false 1 (.t 32)))⟩,
     .op ⟨(some 34), none, (.r (.bin .rem (.t 33) (.c (.int .i64 (.ofNat 4)))))⟩,
     .op ⟨(some 35), none, (.r (.bin .eql (.t 34) (.c (.int .i64 (.ofNat 0)))))⟩])
   (.cond (.t 35)
    (.seq (.region [.op ⟨(some 36), none, (.r (.mv (.t 7)))⟩,
      .op ⟨(some 37), none, (.r (.nilck (.t 36)))⟩,
      .op ⟨(some 38), none, (.r (.faddr 0 (.t 37)))⟩,
      .op ⟨(some 39), none, (.r (.load true 9 (.t 38)))⟩,
      .op ⟨(some 8), none, (.n (.new 0 [(.int .i64 (.ofNat 0)), (.int .i64 (.ofNat 0)), (.int .i64 (.ofNat 0)), (.int .i64 (.ofNat 0)), (.int .i64 (.ofNat 0)), (.int .i64 (.ofNat 0)), (.str []), (.int .i64 (.ofNat 0)), (.str [])]))⟩,
      .op ⟨none, none, (.e (.store 9 (.t 8) (.t 39)))⟩])
    (.seq (.region [.op ⟨(some 40), none, (.r (.mv (.t 0)))⟩,
      .op ⟨(some 41), none, (.r (.faddr 1 (.t 8)))⟩,
      .op ⟨(some 42), none, (.r (.load false 1 (.t 41)))⟩,
      .op ⟨(some 43), none, (.r (.faddr 3 (.t 8)))⟩,
      .op ⟨(some 44), none, (.r (.load false 1 (.t 43)))⟩,
      .op ⟨(some 45), none, (.e (.call n_ask_Asks_floor [(.t 40), (.t 42), (.t 44)]))⟩,
      .op ⟨(some 46), none, (.r (.faddr 4 (.t 8)))⟩,
      .op ⟨none, none, (.e (.store 1 (.t 46) (.t 45)))⟩])
    (.region [.op ⟨(some 47), none, (.r (.mv (.t 4)))⟩,
      .op ⟨(some 48), none, (.r (.load true 9 (.t 8)))⟩,
      .op ⟨(some 49), none, (.n (.bslice 0 9 1 [(.int .i64 (.ofNat 0)), (.int .i64 (.ofNat 0)), (.int .i64 (.ofNat 0)), (.int .i64 (.ofNat 0)), (.int .i64 (.ofNat 0)), (.int .i64 (.ofNat 0)), (.str []), (.int .i64 (.ofNat 0)), (.str [])] [(0, 9, (.t 48))]))⟩,
      .op ⟨(some 50), none, (.e (.app 0 9 88 (.t 47) (.t 49)))⟩,
      .op ⟨(some 4), none, (.r (.mv (.t 50)))⟩])))
    .skip))
   (.seq (.region [.op ⟨(some 51), none, (.r (.mv (.t 7)))⟩,
     .op ⟨(some 52), none, (.r (.nilck (.t 51)))⟩,
     .op ⟨(some 53), none, (.r (.faddr 9 (.t 52)))⟩,
     .op ⟨(some 54), none, (.r (.load false 1 (.t 53)))⟩,
     .op ⟨(some 55), none, (.r (.bin .geq (.t 54) (.c (.int .i64 (.ofNat 40)))))⟩,
     .op ⟨(some 56), none, (.r (.mv (.t 55)))⟩,
     .op ⟨(some 57), (some (56, true)), (.r (.mv (.t 5)))⟩,
     .op ⟨(some 58), (some (56, true)), (.r (.mv (.t 7)))⟩,
     .op ⟨(some 59), (some (56, true)), (.r (.nilck (.t 58)))⟩,
     .op ⟨(some 60), (some (56, true)), (.r (.faddr 0 (.t 59)))⟩,
     .op ⟨(some 61), (some (56, true)), (.r (.faddr 1 (.t 60)))⟩,
     .op ⟨(some 62), (some (56, true)), (.r (.load false 1 (.t 61)))⟩,
     .op ⟨(some 63), (some (56, true)), (.e (.call n_slices_Contains_int_int [(.t 57), (.t 62)]))⟩,
     .op ⟨(some 64), (some (56, true)), (.r (.un .not (.t 63)))⟩,
     .op ⟨(some 65), none, (.r (.pick (.t 56) (.t 64) (.c (.bool false))))⟩])
   (.cond (.t 65)
    (.region [.op ⟨(some 66), none, (.r (.mv (.t 5)))⟩,
      .op ⟨(some 67), none, (.r (.mv (.t 7)))⟩,
      .op ⟨(some 68), none, (.r (.nilck (.t 67)))⟩,
      .op ⟨(some 69), none, (.r (.faddr 0 (.t 68)))⟩,
      .op ⟨(some 70), none, (.r (.faddr 1 (.t 69)))⟩,
      .op ⟨(some 71), none, (.r (.load false 1 (.t 70)))⟩,
      .op ⟨(some 72), none, (.n (.bslice 0 1 1 [(.int .i64 (.ofNat 0))] [(0, 1, (.t 71))]))⟩,
      .op ⟨(some 73), none, (.e (.app 0 1 8 (.t 66) (.t 72)))⟩,
      .op ⟨(some 5), none, (.r (.mv (.t 73)))⟩])
    .skip)))))))
  (.region [.op ⟨(some 74), none, (.r (.bin .add (.t 14) (.c (.int .i64 (.ofNat 1)))))⟩,
    .op ⟨(some 14), none, (.r (.mv (.t 74)))⟩]))))
/-- (*depot/ask.Asks).Tick -/
def pf_ask_Asks_Tick : PF := { ntmps := 79, results := [.tmp 2, .tmp 3], body :=
  (.seq (.region [.op ⟨(some 2), none, (.r (.mv (.c .nils)))⟩,
    .op ⟨(some 3), none, (.r (.mv (.c .nils)))⟩])
  (.seq (.region [.op ⟨(some 4), none, (.r (.mv (.c .nils)))⟩])
  (.seq (.region [.op ⟨(some 5), none, (.r (.mv (.c .nils)))⟩])
  (.seq (.seq (.region [.op ⟨(some 9), none, (.r (.mv (.t 0)))⟩,
    .op ⟨(some 10), none, (.r (.nilck (.t 9)))⟩,
    .op ⟨(some 11), none, (.r (.faddr 0 (.t 10)))⟩,
    .op ⟨(some 12), none, (.r (.load false 1 (.t 11)))⟩,
    .op ⟨(some 13), none, (.r (.lensl (.t 12)))⟩,
    .op ⟨(some 14), none, (.r (.mv (.c (.int .i64 (.ofNat 0)))))⟩])
  (.block 0 (.loop l0_ask_Asks_Tick)))
  (.seq (.region [.op ⟨(some 75), none, (.r (.mv (.t 5)))⟩,
    .op ⟨(some 76), none, (.e (.call n_slices_Sort_int_int [(.t 75)]))⟩])
  (.seq (.region [.op ⟨(some 77), none, (.r (.mv (.t 4)))⟩,
    .op ⟨(some 78), none, (.r (.mv (.t 5)))⟩,
    .op ⟨(some 2), none, (.r (.mv (.t 77)))⟩,
    .op ⟨(some 3), none, (.r (.mv (.t 78)))⟩])
  .ret)))))) }
theorem tr_ask_Asks_Tick : trF cx Try.f10 = pf_ask_Asks_Tick := by kernel_rfl
/-- depot/wire.Right -/
def pf_wire_Right : PF := { ntmps := 57, results := [.tmp 2], body :=
  (.seq (.region [.op ⟨(some 1), none, (.n (.box (.t 0)))⟩,
    .op ⟨(some 2), none, (.r (.mv (.c (.bool false))))⟩])
  (.seq (.seq (.region [.op ⟨(some 4), none, (.r (.faddr 0 (.t 1)))⟩,
    .op ⟨(some 5), none, (.r (.load false 1 (.t 4)))⟩,
    .op ⟨(some 6), none, (.r (.bin .lss (.t 5) (.c (.int .i64 (.ofNat 1)))))⟩,
    .op ⟨(some 7), none, (.r (.mv (.t 6)))⟩,
    .op ⟨(some 8), (some (7, false)), (.r (.faddr 0 (.t 1)))⟩,
    .op ⟨(some 9), (some (7, false)), (.r (.load false 1 (.t 8)))⟩,
    .op ⟨(some 10), (some (7, false)), (.r (.bin .gtr (.t 9) (.c (.int .i64 (.ofNat 7)))))⟩,
    .op ⟨(some 11), none, (.r (.pick (.t 7) (.c (.bool true)) (.t 10)))⟩,
    .op ⟨(some 12), none, (.r (.mv (.t 11)))⟩,
    .op ⟨(some 13), (some (12, false)), (.r (.faddr 1 (.t 1)))⟩,
    .op ⟨(some 14), (some (12, false)), (.r (.load false 1 (.t 13)))⟩,
    .op ⟨(some 15), (some (12, false)), (.e (.call n_wire_within [(.t 14), (.c (.int .i64 (.ofNat 11)))]))⟩,
    .op ⟨(some 16), (some (12, false)), (.r (.un .not (.t 15)))⟩,
    .op ⟨(some 17), none, (.r (.pick (.t 12) (.c (.bool true)) (.t 16)))⟩,
    .op ⟨(some 18), none, (.r (.mv (.t 17)))⟩,
    .op ⟨(some 19), (some (18, false)), (.r (.faddr 0 (.t 1)))⟩,
    .op ⟨(some 20), (some (18, false)), (.r (.load false 1 (.t 19)))⟩,
    .op ⟨(some 21), (some (18, false)), (.r (.faddr 5 (.t 1)))⟩,
    .op ⟨(some 22), (some (18, false)), (.r (.load false 1 (.t 21)))⟩,
    .op ⟨(some 23), (some (18, false)), (.e (.call n_wire_role [(.t 20), (.t 22)]))⟩,
    .op ⟨(some 24), (some (18, false)), (.r (.un .not (.t 23)))⟩,
    .op ⟨(some 25), none, (.r (.pick (.t 18) (.c (.bool true)) (.t 24)))⟩])
  (.cond (.t 25)
   (.seq (.region [.op ⟨(some 2), none, (.r (.mv (.c (.bool false))))⟩])
   .ret)
   .skip))
  (.seq (.region [.op ⟨(some 26), none, (.r (.faddr 2 (.t 1)))⟩,
    .op ⟨(some 27), none, (.r (.load false 1 (.t 26)))⟩,
    .op ⟨(some 28), none, (.e (.call n_wire_within [(.t 27), (.c (.int .i64 (.ofNat 1099511627776)))]))⟩,
    .op ⟨(some 29), none, (.r (.mv (.t 28)))⟩,
    .op ⟨(some 30), (some (29, true)), (.r (.faddr 3 (.t 1)))⟩,
    .op ⟨(some 31), (some (29, true)), (.r (.load false 1 (.t 30)))⟩,
    .op ⟨(some 32), (some (29, true)), (.e (.call n_wire_within [(.t 31), (.c (.int .i64 (.ofNat 1099511627776)))]))⟩,
    .op ⟨(some 33), none, (.r (.pick (.t 29) (.t 32) (.c (.bool false))))⟩,
    .op ⟨(some 34), none, (.r (.mv (.t 33)))⟩,
    .op ⟨(some 35), (some (34, true)), (.r (.faddr 4 (.t 1)))⟩,
    .op ⟨(some 36), (some (34, true)), (.r (.load false 1 (.t 35)))⟩,
    .op ⟨(some 37), (some (34, true)), (.e (.call n_wire_within [(.t 36), (.c (.int .i64 (.ofNat 1099511627776)))]))⟩,
    .op ⟨(some 38), none, (.r (.pick (.t 34) (.t 37) (.c (.bool false))))⟩,
    .op ⟨(some 39), none, (.r (.mv (.t 38)))⟩,
    .op ⟨(some 40), (some (39, true)), (.r (.faddr 7 (.t 1)))⟩,
    .op ⟨(some 41), (some (39, true)), (.r (.load false 1 (.t 40)))⟩,
    .op ⟨(some 42), (some (39, true)), (.e (.call n_wire_within [(.t 41), (.c (.int .i64 (.ofNat 1099511627776)))]))⟩,
    .op ⟨(some 43), none, (.r (.pick (.t 39) (.t 42) (.c (.bool false))))⟩,
    .op ⟨(some 3), none, (.r (.mv (.t 43)))⟩])
  (.seq (.region [.op ⟨(some 44), none, (.r (.mv (.t 3)))⟩,
    .op ⟨(some 45), none, (.r (.mv (.t 44)))⟩,
    .op ⟨(some 46), (some (45, true)), (.r (.faddr 6 (.t 1)))⟩,
    .op ⟨(some 47), (some (45, true)), (.r (.load false 1 (.t 46)))⟩,
    .op ⟨(some 48), (some (45, true)), (.r (.lens (.t 47)))⟩,
    .op ⟨(some 49), (some (45, true)), (.r (.bin .leq (.t 48) (.c (.int .i64 (.ofNat 250)))))⟩,
    .op ⟨(some 50), none, (.r (.pick (.t 45) (.t 49) (.c (.bool false))))⟩,
    .op ⟨(some 51), none, (.r (.mv (.t 50)))⟩,
    .op ⟨(some 52), (some (51, true)), (.r (.faddr 8 (.t 1)))⟩,
    .op ⟨(some 53), (some (51, true)), (.r (.load false 1 (.t 52)))⟩,
    .op ⟨(some 54), (some (51, true)), (.r (.lens (.t 53)))⟩,
    .op ⟨(some 55), (some (51, true)), (.r (.bin .leq (.t 54) (.c (.int .i64 (.ofNat 1049600)))))⟩,
    .op ⟨(some 56), none, (.r (.pick (.t 51) (.t 55) (.c (.bool false))))⟩,
    .op ⟨(some 2), none, (.r (.mv (.t 56)))⟩])
  .ret)))) }
theorem tr_wire_Right : trF cx Try.f22 = pf_wire_Right := by kernel_rfl
def l0_ask_Asks_floor : PC :=
  (.seq (.region [.op ⟨(some 17), none, (.r (.bin .lss (.t 16) (.t 15)))⟩])
  (.seq (.cond (.t 17)
   .skip
   (.exit 0))
  (.seq (.block 1 (.seq (.region [.op ⟨(some 18), none, (.r (.iasl 10 (.t 14) (.t 16)))⟩,
     .op ⟨(some 19), none, (.r (.load true 10 (.t 18)))⟩,
     .op ⟨(some 9), none, (.n (.new 0 [(.int .i64 (.ofNat 0)), (.int .i64 (.ofNat 0)), (.int .i64 (.ofNat 0)), (.int .i64 (.ofNat 0)), (.int .i64 (.ofNat 0)), (.int .i64 (.ofNat 0)), (.str []), (.int .i64 (.ofNat 0)), (.str []), (.int .i64 (.ofNat 0))]))⟩,
     .op ⟨none, none, (.e (.store 10 (.t 9) (.t 19)))⟩])
   (.seq (.seq (.region [.op ⟨(some 20), none, (.r (.faddr 0 (.t 9)))⟩,
     .op ⟨(some 21), none, (.r (.faddr 1 (.t 20)))⟩,
     .op ⟨(some 22), none, (.r (.load false 1 (.t 21)))⟩,
     .op ⟨(some 23), none, (.r (.mv (.t 1)))⟩,
     .op ⟨(some 24), none, (.r (.bin .neq (.t 22) (.t 23)))⟩])
   (.cond (.t 24)
    (.exit 1)
    .skip))
   (.seq (.region [.op ⟨(some 25), none, (.r (.mv (.t 7)))⟩,
     .op ⟨(some 26), none, (.r (.faddr 0 (.t 9)))⟩,
     .op ⟨(some 27), none, (.r (.faddr 3 (.t 26)))⟩,
     .op ⟨(some 28), none, (.r (.load false 1 (.t 27)))⟩,
     .op ⟨(some 29), none, (.r (.minmax false [(.t 25), (.t 28)]))⟩,
     .op ⟨(some 7), none, (.r (.mv (.t 29)))⟩])
   (.exit 0)))))
  (.region [.op ⟨(some 30), none, (.r (.bin .add (.t 16) (.c (.int .i64 (.ofNat 1)))))⟩,
    .op ⟨(some 16), none, (.r (.mv (.t 30)))⟩]))))
/-- (*depot/ask.Asks).floor -/
def pf_ask_Asks_floor : PF := { ntmps := 32, results := [.tmp 6], body :=
  (.seq (.region [.op ⟨(some 6), none, (.r (.mv (.c (.int .i64 (.ofNat 0)))))⟩])
  (.scope (.seq (.region [.op ⟨(some 10), none, (.r (.mv (.t 2)))⟩,
     .op ⟨(some 7), none, (.r (.mv (.t 10)))⟩])
   (.seq .skip
   (.seq (.seq (.region [.op ⟨(some 11), none, (.r (.mv (.t 0)))⟩,
     .op ⟨(some 12), none, (.r (.nilck (.t 11)))⟩,
     .op ⟨(some 13), none, (.r (.faddr 0 (.t 12)))⟩,
     .op ⟨(some 14), none, (.r (.load false 1 (.t 13)))⟩,
     .op ⟨(some 15), none, (.r (.lensl (.t 14)))⟩,
     .op ⟨(some 16), none, (.r (.mv (.c (.int .i64 (.ofNat 0)))))⟩])
   (.block 0 (.loop l0_ask_Asks_floor)))
   (.seq (.region [.op ⟨(some 31), none, (.r (.mv (.t 7)))⟩,
     .op ⟨(some 6), none, (.r (.mv (.t 31)))⟩])
   .ret)))))) }
theorem tr_ask_Asks_floor : trF cx Try.f23 = pf_ask_Asks_floor := by kernel_rfl
/-- slices.Delete[[]depot/ask.open,depot/ask.open] -/
def pf_slices_Delete_ask_open_ask_open : PF := { ntmps := 33, results := [.tmp 6], body :=
  (.seq (.region [.op ⟨(some 6), none, (.r (.mv (.c .nils)))⟩])
  (.seq (.region [.op ⟨(some 8), none, (.r (.mv (.t 0)))⟩,
    .op ⟨(some 9), none, (.r (.mv (.t 1)))⟩,
    .op ⟨(some 10), none, (.r (.mv (.t 2)))⟩,
    .op ⟨(some 11), none, (.r (.mv (.t 0)))⟩,
    .op ⟨(some 12), none, (.r (.lensl (.t 11)))⟩,
    .op ⟨(some 13), none, (.r (.slsl 10 (.t 8) (some (.t 9)) (some (.t 10)) (some (.t 12))))⟩])
  (.seq (.seq (.region [.op ⟨(some 14), none, (.r (.mv (.t 1)))⟩,
    .op ⟨(some 15), none, (.r (.mv (.t 2)))⟩,
    .op ⟨(some 16), none, (.r (.bin .eql (.t 14) (.t 15)))⟩])
  (.cond (.t 16)
   (.seq (.region [.op ⟨(some 17), none, (.r (.mv (.t 0)))⟩,
     .op ⟨(some 6), none, (.r (.mv (.t 17)))⟩])
   .ret)
   .skip))
  (.seq (.region [.op ⟨(some 18), none, (.r (.mv (.t 0)))⟩,
    .op ⟨(some 19), none, (.r (.lensl (.t 18)))⟩,
    .op ⟨(some 7), none, (.r (.mv (.t 19)))⟩])
  (.seq (.region [.op ⟨(some 20), none, (.r (.mv (.t 0)))⟩,
    .op ⟨(some 21), none, (.r (.mv (.t 1)))⟩,
    .op ⟨(some 22), none, (.r (.slsl 10 (.t 20) none (some (.t 21)) none))⟩,
    .op ⟨(some 23), none, (.r (.mv (.t 0)))⟩,
    .op ⟨(some 24), none, (.r (.mv (.t 2)))⟩,
    .op ⟨(some 25), none, (.r (.slsl 10 (.t 23) (some (.t 24)) none none))⟩,
    .op ⟨(some 26), none, (.e (.app 0 10 96 (.t 22) (.t 25)))⟩,
    .op ⟨(some 0), none, (.r (.mv (.t 26)))⟩])
  (.seq (.region [.op ⟨(some 27), none, (.r (.mv (.t 0)))⟩,
    .op ⟨(some 28), none, (.r (.mv (.t 0)))⟩,
    .op ⟨(some 29), none, (.r (.lensl (.t 28)))⟩,
    .op ⟨(some 30), none, (.r (.mv (.t 7)))⟩,
    .op ⟨(some 31), none, (.r (.slsl 10 (.t 27) (some (.t 29)) (some (.t 30)) none))⟩,
    .op ⟨none, none, (.e (.clear [(.int .i64 (.ofNat 0)), (.int .i64 (.ofNat 0)), (.int .i64 (.ofNat 0)), (.int .i64 (.ofNat 0)), (.int .i64 (.ofNat 0)), (.int .i64 (.ofNat 0)), (.str []), (.int .i64 (.ofNat 0)), (.str []), (.int .i64 (.ofNat 0))] (.t 31)))⟩])
  (.seq (.region [.op ⟨(some 32), none, (.r (.mv (.t 0)))⟩,
    .op ⟨(some 6), none, (.r (.mv (.t 32)))⟩])
  .ret))))))) }
theorem tr_slices_Delete_ask_open_ask_open : trF cx Try.f24 = pf_slices_Delete_ask_open_ask_open := by kernel_rfl
/-- slices.Contains[[]int,int] -/
def pf_slices_Contains_int_int : PF := { ntmps := 9, results := [.tmp 4], body :=
  (.seq (.region [.op ⟨(some 4), none, (.r (.mv (.c (.bool false))))⟩])
  (.seq (.region [.op ⟨(some 5), none, (.r (.mv (.t 0)))⟩,
    .op ⟨(some 6), none, (.r (.mv (.t 1)))⟩,
    .op ⟨(some 7), none, (.e (.call n_slices_Index_int_int [(.t 5), (.t 6)]))⟩,
    .op ⟨(some 8), none, (.r (.bin .geq (.t 7) (.c (.int .i64 (.ofNat 0)))))⟩,
    .op ⟨(some 4), none, (.r (.mv (.t 8)))⟩])
  .ret)) }
theorem tr_slices_Contains_int_int : trF cx Try.f25 = pf_slices_Contains_int_int := by kernel_rfl
/-- slices.Sort[[]int,int] -/
def pf_slices_Sort_int_int : PF := { ntmps := 11, results := [], body :=
  (.seq (.region [.op ⟨(some 3), none, (.r (.mv (.t 0)))⟩,
    .op ⟨(some 4), none, (.r (.lensl (.t 3)))⟩,
    .op ⟨(some 2), none, (.r (.mv (.t 4)))⟩])
  (.region [.op ⟨(some 5), none, (.r (.mv (.t 0)))⟩,
    .op ⟨(some 6), none, (.r (.mv (.t 2)))⟩,
    .op ⟨(some 7), none, (.r (.mv (.t 2)))⟩,
    .op ⟨(some 8), none, (.r (.cint .u64 (.t 7)))⟩,
    .op ⟨(some 9), none, (.e (.call n_math_bits_Len [(.t 8)]))⟩,
    .op ⟨(some 10), none, (.e (.call n_slices_pdqsortOrdered_int [(.t 5), (.c (.int .i64 (.ofNat 0))), (.t 6), (.t 9)]))⟩])) }
theorem tr_slices_Sort_int_int : trF cx Try.f26 = pf_slices_Sort_int_int := by kernel_rfl
/-- depot/wire.within -/
def pf_wire_within : PF := { ntmps := 12, results := [.tmp 4], body :=
  (.seq (.region [.op ⟨(some 4), none, (.r (.mv (.c (.bool false))))⟩])
  (.seq (.region [.op ⟨(some 5), none, (.r (.mv (.t 0)))⟩,
    .op ⟨(some 6), none, (.r (.bin .geq (.t 5) (.c (.int .i64 (.ofNat 0)))))⟩,
    .op ⟨(some 7), none, (.r (.mv (.t 6)))⟩,
    .op ⟨(some 8), (some (7, true)), (.r (.mv (.t 0)))⟩,
    .op ⟨(some 9), (some (7, true)), (.r (.mv (.t 1)))⟩,
    .op ⟨(some 10), (some (7, true)), (.r (.bin .leq (.t 8) (.t 9)))⟩,
    .op ⟨(some 11), none, (.r (.pick (.t 7) (.t 10) (.c (.bool false))))⟩,
    .op ⟨(some 4), none, (.r (.mv (.t 11)))⟩])
  .ret)) }
theorem tr_wire_within : trF cx Try.f29 = pf_wire_within := by kernel_rfl
/-- depot/wire.role -/
def pf_wire_role : PF := { ntmps := 30, results := [.tmp 4], body :=
  (.seq (.region [.op ⟨(some 4), none, (.r (.mv (.c (.bool false))))⟩])
  (.seq (.seq (.region [.op ⟨(some 5), none, (.r (.mv (.t 0)))⟩])
  (.block 0 (.seq (.seq (.region [.op ⟨(some 7), none, (.r (.bin .eql (.t 5) (.c (.int .i64 (.ofNat 4)))))⟩,
     .op ⟨(some 6), none, (.r (.mv (.t 7)))⟩])
   (.cond (.t 6)
    .skip
    (.seq (.region [.op ⟨(some 8), none, (.r (.bin .eql (.t 5) (.c (.int .i64 (.ofNat 5)))))⟩,
      .op ⟨(some 6), none, (.r (.mv (.t 8)))⟩])
    (.cond (.t 6)
     .skip
     (.region [.op ⟨(some 9), none, (.r (.bin .eql (.t 5) (.c (.int .i64 (.ofNat 7)))))⟩,
       .op ⟨(some 6), none, (.r (.mv (.t 9)))⟩])))))
   (.cond (.t 6)
    (.seq (.region [.op ⟨(some 10), none, (.r (.mv (.t 1)))⟩,
      .op ⟨(some 11), none, (.r (.bin .eql (.t 10) (.c (.int .i64 (.ofNat 0)))))⟩,
      .op ⟨(some 4), none, (.r (.mv (.t 11)))⟩])
    .ret)
    (.seq (.region [.op ⟨(some 13), none, (.r (.bin .eql (.t 5) (.c (.int .i64 (.ofNat 6)))))⟩,
      .op ⟨(some 12), none, (.r (.mv (.t 13)))⟩])
    (.cond (.t 12)
     (.seq (.region [.op ⟨(some 14), none, (.r (.mv (.t 1)))⟩,
       .op ⟨(some 15), none, (.r (.bin .eql (.t 14) (.c (.int .i64 (.ofNat 0)))))⟩,
       .op ⟨(some 16), none, (.r (.mv (.t 15)))⟩,
       .op ⟨(some 17), (some (16, false)), (.r (.mv (.t 1)))⟩,
       .op ⟨(some 18), (some (16, false)), (.r (.bin .eql (.t 17) (.c (.int .i64 (.ofNat 1)))))⟩,
       .op ⟨(some 19), none, (.r (.pick (.t 16) (.c (.bool true)) (.t 18)))⟩,
       .op ⟨(some 20), none, (.r (.mv (.t 19)))⟩,
       .op ⟨(some 21), (some (20, false)), (.r (.mv (.t 1)))⟩,
       .op ⟨(some 22), (some (20, false)), (.r (.bin .eql (.t 21) (.c (.int .i64 (.ofNat 2)))))⟩,
       .op ⟨(some 23), none, (.r (.pick (.t 20) (.c (.bool true)) (.t 22)))⟩,
       .op ⟨(some 4), none, (.r (.mv (.t 23)))⟩])
     .ret)
     .skip))))))
  (.seq (.region [.op ⟨(some 24), none, (.r (.mv (.t 1)))⟩,
    .op ⟨(some 25), none, (.r (.bin .eql (.t 24) (.c (.int .i64 (.ofNat 1)))))⟩,
    .op ⟨(some 26), none, (.r (.mv (.t 25)))⟩,
    .op ⟨(some 27), (some (26, false)), (.r (.mv (.t 1)))⟩,
    .op ⟨(some 28), (some (26, false)), (.r (.bin .eql (.t 27) (.c (.int .i64 (.ofNat 2)))))⟩,
    .op ⟨(some 29), none, (.r (.pick (.t 26) (.c (.bool true)) (.t 28)))⟩,
    .op ⟨(some 4), none, (.r (.mv (.t 29)))⟩])
  .ret))) }
theorem tr_wire_role : trF cx Try.f30 = pf_wire_role := by kernel_rfl
def l0_slices_Index_int_int : PC :=
  (.seq (.region [.op ⟨(some 9), none, (.r (.bin .lss (.t 8) (.t 7)))⟩])
  (.seq (.cond (.t 9)
   .skip
   (.exit 0))
  (.seq (.block 1 (.seq (.region [.op ⟨(some 10), none, (.r (.mv (.t 8)))⟩,
     .op ⟨(some 5), none, (.r (.mv (.t 10)))⟩])
   (.seq (.region [.op ⟨(some 11), none, (.r (.mv (.t 1)))⟩,
     .op ⟨(some 12), none, (.r (.mv (.t 0)))⟩,
     .op ⟨(some 13), none, (.r (.mv (.t 5)))⟩,
     .op ⟨(some 14), none, (.r (.iasl 1 (.t 12) (.t 13)))⟩,
     .op ⟨(some 15), none, (.r (.load false 1 (.t 14)))⟩,
     .op ⟨(some 16), none, (.r (.bin .eql (.t 11) (.t 15)))⟩])
   (.cond (.t 16)
    (.seq (.region [.op ⟨(some 17), none, (.r (.mv (.t 5)))⟩,
      .op ⟨(some 4), none, (.r (.mv (.t 17)))⟩])
    .ret)
    .skip))))
  (.region [.op ⟨(some 18), none, (.r (.bin .add (.t 8) (.c (.int .i64 (.ofNat 1)))))⟩,
    .op ⟨(some 8), none, (.r (.mv (.t 18)))⟩]))))
/-- slices.Index[[]int,int] -/
def pf_slices_Index_int_int : PF := { ntmps := 19, results := [.tmp 4], body :=
  (.seq (.region [.op ⟨(some 4), none, (.r (.mv (.c (.int .i64 (.ofNat 0)))))⟩])
  (.seq (.seq (.region [.op ⟨(some 6), none, (.r (.mv (.t 0)))⟩,
    .op ⟨(some 7), none, (.r (.lensl (.t 6)))⟩,
    .op ⟨(some 8), none, (.r (.mv (.c (.int .i64 (.ofNat 0)))))⟩])
  (.block 0 (.loop l0_slices_Index_int_int)))
  (.seq (.region [.op ⟨(some 4), none, (.r (.mv (.c (.int .i64 (.negSucc 0)))))⟩])
  .ret))) }
theorem tr_slices_Index_int_int : trF cx Try.f31 = pf_slices_Index_int_int := by kernel_rfl
def l0_slices_pdqsortOrdered_int : PC :=
  (.block 1 (.seq (.region [.op ⟨(some 19), none, (.r (.mv (.t 2)))⟩,
     .op ⟨(some 20), none, (.r (.mv (.t 1)))⟩,
     .op ⟨(some 21), none, (.r (.bin .sub (.t 19) (.t 20)))⟩,
     .op ⟨(some 10), none, (.r (.mv (.t 21)))⟩])
   (.seq (.seq (.region [.op ⟨(some 22), none, (.r (.mv (.t 10)))⟩,
     .op ⟨(some 23), none, (.r (.bin .leq (.t 22) (.c (.int .i64 (.ofNat 12)))))⟩])
   (.cond (.t 23)
    (.seq (.region [.op ⟨(some 24), none, (.r (.mv (.t 0)))⟩,
      .op ⟨(some 25), none, (.r (.mv (.t 1)))⟩,
      .op ⟨(some 26), none, (.r (.mv (.t 2)))⟩,
      .op ⟨(some 27), none, (.e (.call n_slices_insertionSortOrdered_int [(.t 24), (.t 25), (.t 26)]))⟩])
    .ret)
    .skip))
   (.seq (.seq (.region [.op ⟨(some 28), none, (.r (.mv (.t 3)))⟩,
     .op ⟨(some 29), none, (.r (.bin .eql (.t 28) (.c (.int .i64 (.ofNat 0)))))⟩])
   (.cond (.t 29)
    (.seq (.region [.op ⟨(some 30), none, (.r (.mv (.t 0)))⟩,
      .op ⟨(some 31), none, (.r (.mv (.t 1)))⟩,
      .op ⟨(some 32), none, (.r (.mv (.t 2)))⟩,
      .op ⟨(some 33), none, (.e (.call n_slices_heapSortOrdered_int [(.t 30), (.t 31), (.t 32)]))⟩])
    .ret)
    .skip))
   (.seq (.seq (.region [.op ⟨(some 34), none, (.r (.mv (.t 8)))⟩,
     .op ⟨(some 35), none, (.r (.un .not (.t 34)))⟩])
   (.cond (.t 35)
    (.seq (.region [.op ⟨(some 36), none, (.r (.mv (.t 0)))⟩,
      .op ⟨(some 37), none, (.r (.mv (.t 1)))⟩,
      .op ⟨(some 38), none, (.r (.mv (.t 2)))⟩,
      .op ⟨(some 39), none, (.e (.call n_slices_breakPatternsOrdered_int [(.t 36), (.t 37), (.t 38)]))⟩])
    (.region [.op ⟨(some 40), none, (.r (.mv (.t 3)))⟩,
      .op ⟨(some 41), none, (.r (.bin .sub (.t 40) (.c (.int .i64 (.ofNat 1)))))⟩,
      .op ⟨(some 3), none, (.r (.mv (.t 41)))⟩]))
    .skip))
   (.seq (.region [.op ⟨(some 43), none, (.r (.mv (.t 0)))⟩,
     .op ⟨(some 44), none, (.r (.mv (.t 1)))⟩,
     .op ⟨(some 45), none, (.r (.mv (.t 2)))⟩,
     .op ⟨(some 46), none, (.e (.call n_slices_choosePivotOrdered_int [(.t 43), (.t 44), (.t 45)]))⟩,
     .op ⟨(some 42), none, (.r (.mv (.t 46)))⟩,
     .op ⟨(some 47), none, (.r (.ext 0 (.t 42)))⟩,
     .op ⟨(some 48), none, (.r (.ext 1 (.t 42)))⟩,
     .op ⟨(some 11), none, (.r (.mv (.t 47)))⟩,
     .op ⟨(some 12), none, (.r (.mv (.t 48)))⟩])
   (.seq (.seq (.region [.op ⟨(some 49), none, (.r (.mv (.t 12)))⟩,
     .op ⟨(some 50), none, (.r (.bin .eql (.t 49) (.c (.int .i64 (.ofNat 2)))))⟩])
   (.cond (.t 50)
    (.seq (.region [.op ⟨(some 51), none, (.r (.mv (.t 0)))⟩,
      .op ⟨(some 52), none, (.r (.mv (.t 1)))⟩,
      .op ⟨(some 53), none, (.r (.mv (.t 2)))⟩,
      .op ⟨(some 54), none, (.e (.call n_slices_reverseRangeOrdered_int [(.t 51), (.t 52), (.t 53)]))⟩])
    (.seq (.region [.op ⟨(some 55), none, (.r (.mv (.t 2)))⟩,
      .op ⟨(some 56), none, (.r (.bin .sub (.t 55) (.c (.int .i64 (.ofNat 1)))))⟩,
      .op ⟨(some 57), none, (.r (.mv (.t 11)))⟩,
      .op ⟨(some 58), none, (.r (.mv (.t 1)))⟩,
      .op ⟨(some 59), none, (.r (.bin .sub (.t 57) (.t 58)))⟩,
      .op ⟨(some 60), none, (.r (.bin .sub (.t 56) (.t 59)))⟩,
      .op ⟨(some 11), none, (.r (.mv (.t 60)))⟩])
    (.region [.op ⟨(some 12), none, (.r (.mv (.c (.int .i64 (.ofNat 1)))))⟩])))
    .skip))
   (.seq (.seq (.region [.op ⟨(some 61), none, (.r (.mv (.t 8)))⟩,
     .op ⟨(some 62), none, (.r (.mv (.t 61)))⟩,
     .op ⟨(some 63), (some (62, true)), (.r (.mv (.t 9)))⟩,
     .op ⟨(some 64), none, (.r (.pick (.t 62) (.t 63) (.c (.bool false))))⟩,
     .op ⟨(some 65), none, (.r (.mv (.t 64)))⟩,
     .op ⟨(some 66), (some (65, true)), (.r (.mv (.t 12)))⟩,
     .op ⟨(some 67), (some (65, true)), (.r (.bin .eql (.t 66) (.c (.int .i64 (.ofNat 1)))))⟩,
     .op ⟨(some 68), none, (.r (.pick (.t 65) (.t 67) (.c (.bool false))))⟩])
   (.cond (.t 68)
    (.seq (.region [.op ⟨(some 69), none, (.r (.mv (.t 0)))⟩,
      .op ⟨(some 70), none, (.r (.mv (.t 1)))⟩,
      .op ⟨(some 71), none, (.r (.mv (.t 2)))⟩,
      .op ⟨(some 72), none, (.e (.call n_slices_partialInsertionSortOrdered_int [(.t 69), (.t 70), (.t 71)]))⟩])
    (.cond (.t 72)
     .ret
     .skip))
    .skip))
   (.seq (.seq (.region [.op ⟨(some 73), none, (.r (.mv (.t 1)))⟩,
     .op ⟨(some 74), none, (.r (.bin .gtr (.t 73) (.c (.int .i64 (.ofNat 0)))))⟩,
     .op ⟨(some 75), none, (.r (.mv (.t 74)))⟩,
     .op ⟨(some 76), (some (75, true)), (.r (.mv (.t 0)))⟩,
     .op ⟨(some 77), (some (75, true)), (.r (.mv (.t 1)))⟩,
     .op ⟨(some 78), (some (75, true)), (.r (.bin .sub (.t 77) (.c (.int .i64 (.ofNat 1)))))⟩,
     .op ⟨(some 79), (some (75, true)), (.r (.iasl 1 (.t 76) (.t 78)))⟩,
     .op ⟨(some 80), (some (75, true)), (.r (.load false 1 (.t 79)))⟩,
     .op ⟨(some 81), (some (75, true)), (.r (.mv (.t 0)))⟩,
     .op ⟨(some 82), (some (75, true)), (.r (.mv (.t 11)))⟩,
     .op ⟨(some 83), (some (75, true)), (.r (.iasl 1 (.t 81) (.t 82)))⟩,
     .op ⟨(some 84), (some (75, true)), (.r (.load false 1 (.t 83)))⟩,
     .op ⟨(some 85), (some (75, true)), (.e (.call n_cmp_Less_int [(.t 80), (.t 84)]))⟩,
     .op ⟨(some 86), (some (75, true)), (.r (.un .not (.t 85)))⟩,
     .op ⟨(some 87), none, (.r (.pick (.t 75) (.t 86) (.c (.bool false))))⟩])
   (.cond (.t 87)
    (.seq (.region [.op ⟨(some 88), none, (.r (.mv (.t 0)))⟩,
      .op ⟨(some 89), none, (.r (.mv (.t 1)))⟩,
      .op ⟨(some 90), none, (.r (.mv (.t 2)))⟩,
      .op ⟨(some 91), none, (.r (.mv (.t 11)))⟩,
      .op ⟨(some 92), none, (.e (.call n_slices_partitionEqualOrdered_int [(.t 88), (.t 89), (.t 90), (.t 91)]))⟩,
      .op ⟨(some 13), none, (.r (.mv (.t 92)))⟩])
    (.seq (.region [.op ⟨(some 93), none, (.r (.mv (.t 13)))⟩,
      .op ⟨(some 1), none, (.r (.mv (.t 93)))⟩])
    (.exit 1)))
    .skip))
   (.seq (.region [.op ⟨(some 95), none, (.r (.mv (.t 0)))⟩,
     .op ⟨(some 96), none, (.r (.mv (.t 1)))⟩,
     .op ⟨(some 97), none, (.r (.mv (.t 2)))⟩,
     .op ⟨(some 98), none, (.r (.mv (.t 11)))⟩,
     .op ⟨(some 99), none, (.e (.call n_slices_partitionOrdered_int [(.t 95), (.t 96), (.t 97), (.t 98)]))⟩,
     .op ⟨(some 94), none, (.r (.mv (.t 99)))⟩,
     .op ⟨(some 100), none, (.r (.ext 0 (.t 94)))⟩,
     .op ⟨(some 101), none, (.r (.ext 1 (.t 94)))⟩,
     .op ⟨(some 14), none, (.r (.mv (.t 100)))⟩,
     .op ⟨(some 15), none, (.r (.mv (.t 101)))⟩])
   (.seq (.region [.op ⟨(some 102), none, (.r (.mv (.t 15)))⟩,
     .op ⟨(some 9), none, (.r (.mv (.t 102)))⟩])
   (.seq (.region [.op ⟨(some 103), none, (.r (.mv (.t 14)))⟩,
     .op ⟨(some 104), none, (.r (.mv (.t 1)))⟩,
     .op ⟨(some 105), none, (.r (.bin .sub (.t 103) (.t 104)))⟩,
     .op ⟨(some 106), none, (.r (.mv (.t 2)))⟩,
     .op ⟨(some 107), none, (.r (.mv (.t 14)))⟩,
     .op ⟨(some 108), none, (.r (.bin .sub (.t 106) (.t 107)))⟩,
     .op ⟨(some 16), none, (.r (.mv (.t 105)))⟩,
     .op ⟨(some 17), none, (.r (.mv (.t 108)))⟩])
   (.seq (.region [.op ⟨(some 109), none, (.r (.mv (.t 10)))⟩,
     .op ⟨(some 110), none, (.r (.bin .quo (.t 109) (.c (.int .i64 (.ofNat 8)))))⟩,
     .op ⟨(some 18), none, (.r (.mv (.t 110)))⟩])
   (.seq (.region [.op ⟨(some 111), none, (.r (.mv (.t 16)))⟩,
     .op ⟨(some 112), none, (.r (.mv (.t 17)))⟩,
     .op ⟨(some 113), none, (.r (.bin .lss (.t 111) (.t 112)))⟩])
   (.cond (.t 113)
    (.seq (.region [.op ⟨(some 114), none, (.r (.mv (.t 16)))⟩,
      .op ⟨(some 115), none, (.r (.mv (.t 18)))⟩,
      .op ⟨(some 116), none, (.r (.bin .geq (.t 114) (.t 115)))⟩,
      .op ⟨(some 8), none, (.r (.mv (.t 116)))⟩])
    (.seq (.region [.op ⟨(some 117), none, (.r (.mv (.t 0)))⟩,
      .op ⟨(some 118), none, (.r (.mv (.t 1)))⟩,
      .op ⟨(some 119), none, (.r (.mv (.t 14)))⟩,
      .op ⟨(some 120), none, (.r (.mv (.t 3)))⟩,
      .op ⟨(some 121), none, (.e (.call n_slices_pdqsortOrdered_int [(.t 117), (.t 118), (.t 119), (.t 120)]))⟩])
    (.region [.op ⟨(some 122), none, (.r (.mv (.t 14)))⟩,
      .op ⟨(some 123), none, (.r (.bin .add (.t 122) (.c (.int .i64 (.ofNat 1)))))⟩,
      .op ⟨(some 1), none, (.r (.mv (.t 123)))⟩])))
    (.seq (.region [.op ⟨(some 124), none, (.r (.mv (.t 17)))⟩,
      .op ⟨(some 125), none, (.r (.mv (.t 18)))⟩,
      .op ⟨(some 126), none, (.r (.bin .geq (.t 124) (.t 125)))⟩,
      .op ⟨(some 8), none, (.r (.mv (.t 126)))⟩])
    (.seq (.region [.op ⟨(some 127), none, (.r (.mv (.t 0)))⟩,
      .op ⟨(some 128), none, (.r (.mv (.t 14)))⟩,
      .op ⟨(some 129), none, (.r (.bin .add (.t 128) (.c (.int .i64 (.ofNat 1)))))⟩,
      .op ⟨(some 130), none, (.r (.mv (.t 2)))⟩,
      .op ⟨(some 131), none, (.r (.mv (.t 3)))⟩,
      .op ⟨(some 132), none, (.e (.call n_slices_pdqsortOrdered_int [(.t 127), (.t 129), (.t 130), (.t 131)]))⟩])
    (.region [.op ⟨(some 133), none, (.r (.mv (.t 14)))⟩,
      .op ⟨(some 2), none, (.r (.mv (.t 133)))⟩]))))))))))))))))))
/-- slices.pdqsortOrdered[int] -/
def pf_slices_pdqsortOrdered_int : PF := { ntmps := 134, results := [], body :=
  (.seq (.region [.op ⟨(some 8), none, (.r (.mv (.c (.bool true))))⟩])
  (.seq (.region [.op ⟨(some 9), none, (.r (.mv (.c (.bool true))))⟩])
  (.block 0 (.loop l0_slices_pdqsortOrdered_int)))) }
theorem tr_slices_pdqsortOrdered_int : trF cx Try.f32 = pf_slices_pdqsortOrdered_int := by kernel_rfl
/-- math/bits.Len -/
def pf_math_bits_Len : PF := { ntmps := 8, results := [.tmp 2], body :=
  (.seq (.region [.op ⟨(some 2), none, (.r (.mv (.c (.int .i64 (.ofNat 0)))))⟩])
  (.seq (.cond (.c (.bool false))
   (.seq (.region [.op ⟨(some 3), none, (.r (.mv (.t 0)))⟩,
     .op ⟨(some 4), none, (.r (.cint .u32 (.t 3)))⟩,
     .op ⟨(some 5), none, (.e (.call n_math_bits_Len32 [(.t 4)]))⟩,
     .op ⟨(some 2), none, (.r (.mv (.t 5)))⟩])
   .ret)
   .skip)
  (.seq (.region [.op ⟨(some 6), none, (.r (.mv (.t 0)))⟩,
    .op ⟨(some 7), none, (.e (.call n_math_bits_Len64 [(.t 6)]))⟩,
    .op ⟨(some 2), none, (.r (.mv (.t 7)))⟩])
  .ret))) }
theorem tr_math_bits_Len : trF cx Try.f33 = pf_math_bits_Len := by kernel_rfl
def l0_slices_insertionSortOrdered_int : PC :=
  (.seq (.seq (.region [.op ⟨(some 16), none, (.r (.mv (.t 7)))⟩,
    .op ⟨(some 17), none, (.r (.mv (.t 1)))⟩,
    .op ⟨(some 18), none, (.r (.bin .gtr (.t 16) (.t 17)))⟩,
    .op ⟨(some 19), none, (.r (.mv (.t 18)))⟩,
    .op ⟨(some 20), (some (19, true)), (.r (.mv (.t 0)))⟩,
    .op ⟨(some 21), (some (19, true)), (.r (.mv (.t 7)))⟩,
    .op ⟨(some 22), (some (19, true)), (.r (.iasl 1 (.t 20) (.t 21)))⟩,
    .op ⟨(some 23), (some (19, true)), (.r (.load false 1 (.t 22)))⟩,
    .op ⟨(some 24), (some (19, true)), (.r (.mv (.t 0)))⟩,
    .op ⟨(some 25), (some (19, true)), (.r (.mv (.t 7)))⟩,
    .op ⟨(some 26), (some (19, true)), (.r (.bin .sub (.t 25) (.c (.int .i64 (.ofNat 1)))))⟩,
    .op ⟨(some 27), (some (19, true)), (.r (.iasl 1 (.t 24) (.t 26)))⟩,
    .op ⟨(some 28), (some (19, true)), (.r (.load false 1 (.t 27)))⟩,
    .op ⟨(some 29), (some (19, true)), (.e (.call n_cmp_Less_int [(.t 23), (.t 28)]))⟩,
    .op ⟨(some 30), none, (.r (.pick (.t 19) (.t 29) (.c (.bool false))))⟩])
  (.cond (.t 30)
   .skip
   (.exit 2)))
  (.seq (.block 3 (.region [.op ⟨(some 33), none, (.r (.mv (.t 0)))⟩,
     .op ⟨(some 34), none, (.r (.mv (.t 7)))⟩,
     .op ⟨(some 35), none, (.r (.mv (.t 0)))⟩,
     .op ⟨(some 36), none, (.r (.mv (.t 7)))⟩,
     .op ⟨(some 37), none, (.r (.bin .sub (.t 36) (.c (.int .i64 (.ofNat 1)))))⟩,
     .op ⟨(some 38), none, (.r (.mv (.t 0)))⟩,
     .op ⟨(some 39), none, (.r (.mv (.t 7)))⟩,
     .op ⟨(some 40), none, (.r (.bin .sub (.t 39) (.c (.int .i64 (.ofNat 1)))))⟩,
     .op ⟨(some 41), none, (.r (.iasl 1 (.t 38) (.t 40)))⟩,
     .op ⟨(some 42), none, (.r (.load false 1 (.t 41)))⟩,
     .op ⟨(some 43), none, (.r (.mv (.t 0)))⟩,
     .op ⟨(some 44), none, (.r (.mv (.t 7)))⟩,
     .op ⟨(some 45), none, (.r (.iasl 1 (.t 43) (.t 44)))⟩,
     .op ⟨(some 46), none, (.r (.load false 1 (.t 45)))⟩,
     .op ⟨(some 47), none, (.r (.iasl 1 (.t 33) (.t 34)))⟩,
     .op ⟨none, none, (.e (.store 1 (.t 47) (.t 42)))⟩,
     .op ⟨(some 48), none, (.r (.iasl 1 (.t 35) (.t 37)))⟩,
     .op ⟨none, none, (.e (.store 1 (.t 48) (.t 46)))⟩]))
  (.region [.op ⟨(some 31), none, (.r (.mv (.t 7)))⟩,
    .op ⟨(some 32), none, (.r (.bin .sub (.t 31) (.c (.int .i64 (.ofNat 1)))))⟩,
    .op ⟨(some 7), none, (.r (.mv (.t 32)))⟩])))
def l1_slices_insertionSortOrdered_int : PC :=
  (.seq (.seq (.region [.op ⟨(some 10), none, (.r (.mv (.t 6)))⟩,
    .op ⟨(some 11), none, (.r (.mv (.t 2)))⟩,
    .op ⟨(some 12), none, (.r (.bin .lss (.t 10) (.t 11)))⟩])
  (.cond (.t 12)
   .skip
   (.exit 0)))
  (.seq (.block 1 (.seq (.region [.op ⟨(some 15), none, (.r (.mv (.t 6)))⟩,
     .op ⟨(some 7), none, (.r (.mv (.t 15)))⟩])
   (.block 2 (.loop l0_slices_insertionSortOrdered_int))))
  (.region [.op ⟨(some 13), none, (.r (.mv (.t 6)))⟩,
    .op ⟨(some 14), none, (.r (.bin .add (.t 13) (.c (.int .i64 (.ofNat 1)))))⟩,
    .op ⟨(some 6), none, (.r (.mv (.t 14)))⟩])))
/-- slices.insertionSortOrdered[int] -/
def pf_slices_insertionSortOrdered_int : PF := { ntmps := 49, results := [], body :=
  (.seq (.region [.op ⟨(some 8), none, (.r (.mv (.t 1)))⟩,
    .op ⟨(some 9), none, (.r (.bin .add (.t 8) (.c (.int .i64 (.ofNat 1)))))⟩,
    .op ⟨(some 6), none, (.r (.mv (.t 9)))⟩])
  (.block 0 (.loop l1_slices_insertionSortOrdered_int))) }
theorem tr_slices_insertionSortOrdered_int : trF cx Try.f34 = pf_slices_insertionSortOrdered_int := by kernel_rfl
def l0_slices_heapSortOrdered_int : PC :=
  (.seq (.seq (.region [.op ⟨(some 18), none, (.r (.mv (.t 9)))⟩,
    .op ⟨(some 19), none, (.r (.bin .geq (.t 18) (.c (.int .i64 (.ofNat 0)))))⟩])
  (.cond (.t 19)
   .skip
   (.exit 0)))
  (.seq (.block 1 (.region [.op ⟨(some 22), none, (.r (.mv (.t 0)))⟩,
     .op ⟨(some 23), none, (.r (.mv (.t 9)))⟩,
     .op ⟨(some 24), none, (.r (.mv (.t 8)))⟩,
     .op ⟨(some 25), none, (.r (.mv (.t 6)))⟩,
     .op ⟨(some 26), none, (.e (.call n_slices_siftDownOrdered_int [(.t 22), (.t 23), (.t 24), (.t 25)]))⟩]))
  (.region [.op ⟨(some 20), none, (.r (.mv (.t 9)))⟩,
    .op ⟨(some 21), none, (.r (.bin .sub (.t 20) (.c (.int .i64 (.ofNat 1)))))⟩,
    .op ⟨(some 9), none, (.r (.mv (.t 21)))⟩])))
def l1_slices_heapSortOrdered_int : PC :=
  (.seq (.seq (.region [.op ⟨(some 29), none, (.r (.mv (.t 10)))⟩,
    .op ⟨(some 30), none, (.r (.bin .geq (.t 29) (.c (.int .i64 (.ofNat 0)))))⟩])
  (.cond (.t 30)
   .skip
   (.exit 2)))
  (.seq (.block 3 (.seq (.region [.op ⟨(some 33), none, (.r (.mv (.t 0)))⟩,
     .op ⟨(some 34), none, (.r (.mv (.t 6)))⟩,
     .op ⟨(some 35), none, (.r (.mv (.t 0)))⟩,
     .op ⟨(some 36), none, (.r (.mv (.t 6)))⟩,
     .op ⟨(some 37), none, (.r (.mv (.t 10)))⟩,
     .op ⟨(some 38), none, (.r (.bin .add (.t 36) (.t 37)))⟩,
     .op ⟨(some 39), none, (.r (.mv (.t 0)))⟩,
     .op ⟨(some 40), none, (.r (.mv (.t 6)))⟩,
     .op ⟨(some 41), none, (.r (.mv (.t 10)))⟩,
     .op ⟨(some 42), none, (.r (.bin .add (.t 40) (.t 41)))⟩,
     .op ⟨(some 43), none, (.r (.iasl 1 (.t 39) (.t 42)))⟩,
     .op ⟨(some 44), none, (.r (.load false 1 (.t 43)))⟩,
     .op ⟨(some 45), none, (.r (.mv (.t 0)))⟩,
     .op ⟨(some 46), none, (.r (.mv (.t 6)))⟩,
     .op ⟨(some 47), none, (.r (.iasl 1 (.t 45) (.t 46)))⟩,
     .op ⟨(some 48), none, (.r (.load false 1 (.t 47)))⟩,
     .op ⟨(some 49), none, (.r (.iasl 1 (.t 33) (.t 34)))⟩,
     .op ⟨none, none, (.e (.store 1 (.t 49) (.t 44)))⟩,
     .op ⟨(some 50), none, (.r (.iasl 1 (.t 35) (.t 38)))⟩,
     .op ⟨none, none, (.e (.store 1 (.t 50) (.t 48)))⟩])
   (.region [.op ⟨(some 51), none, (.r (.mv (.t 0)))⟩,
     .op ⟨(some 52), none, (.r (.mv (.t 7)))⟩,
     .op ⟨(some 53), none, (.r (.mv (.t 10)))⟩,
     .op ⟨(some 54), none, (.r (.mv (.t 6)))⟩,
     .op ⟨(some 55), none, (.e (.call n_slices_siftDownOrdered_int [(.t 51), (.t 52), (.t 53), (.t 54)]))⟩])))
  (.region [.op ⟨(some 31), none, (.r (.mv (.t 10)))⟩,
    .op ⟨(some 32), none, (.r (.bin .sub (.t 31) (.c (.int .i64 (.ofNat 1)))))⟩,
    .op ⟨(some 10), none, (.r (.mv (.t 32)))⟩])))
/-- slices.heapSortOrdered[int] -/
def pf_slices_heapSortOrdered_int : PF := { ntmps := 56, results := [], body :=
  (.seq (.region [.op ⟨(some 11), none, (.r (.mv (.t 1)))⟩,
    .op ⟨(some 6), none, (.r (.mv (.t 11)))⟩])
  (.seq (.region [.op ⟨(some 7), none, (.r (.mv (.c (.int .i64 (.ofNat 0)))))⟩])
  (.seq (.region [.op ⟨(some 12), none, (.r (.mv (.t 2)))⟩,
    .op ⟨(some 13), none, (.r (.mv (.t 1)))⟩,
    .op ⟨(some 14), none, (.r (.bin .sub (.t 12) (.t 13)))⟩,
    .op ⟨(some 8), none, (.r (.mv (.t 14)))⟩])
  (.seq (.seq (.region [.op ⟨(some 15), none, (.r (.mv (.t 8)))⟩,
    .op ⟨(some 16), none, (.r (.bin .sub (.t 15) (.c (.int .i64 (.ofNat 1)))))⟩,
    .op ⟨(some 17), none, (.r (.bin .quo (.t 16) (.c (.int .i64 (.ofNat 2)))))⟩,
    .op ⟨(some 9), none, (.r (.mv (.t 17)))⟩])
  (.block 0 (.loop l0_slices_heapSortOrdered_int)))
  (.seq (.region [.op ⟨(some 27), none, (.r (.mv (.t 8)))⟩,
    .op ⟨(some 28), none, (.r (.bin .sub (.t 27) (.c (.int .i64 (.ofNat 1)))))⟩,
    .op ⟨(some 10), none, (.r (.mv (.t 28)))⟩])
  (.block 2 (.loop l1_slices_heapSortOrdered_int))))))) }
theorem tr_slices_heapSortOrdered_int : trF cx Try.f35 = pf_slices_heapSortOrdered_int := by kernel_rfl
def l0_slices_breakPatternsOrdered_int : PC :=
  (.seq (.seq (.region [.op ⟨(some 26), none, (.r (.mv (.t 9)))⟩,
    .op ⟨(some 27), none, (.r (.mv (.t 1)))⟩,
    .op ⟨(some 28), none, (.r (.mv (.t 6)))⟩,
    .op ⟨(some 29), none, (.r (.bin .quo (.t 28) (.c (.int .i64 (.ofNat 4)))))⟩,
    .op ⟨(some 30), none, (.r (.bin .mul (.t 29) (.c (.int .i64 (.ofNat 2)))))⟩,
    .op ⟨(some 31), none, (.r (.bin .add (.t 27) (.t 30)))⟩,
    .op ⟨(some 32), none, (.r (.bin .add (.t 31) (.c (.int .i64 (.ofNat 1)))))⟩,
    .op ⟨(some 33), none, (.r (.bin .leq (.t 26) (.t 32)))⟩])
  (.cond (.t 33)
   .skip
   (.exit 0)))
  (.seq (.block 1 (.seq (.region [.op ⟨(some 36), none, (.e (.call n_slices_xorshift_Next [(.t 7)]))⟩,
     .op ⟨(some 37), none, (.r (.mv (.t 8)))⟩,
     .op ⟨(some 38), none, (.r (.bin .sub (.t 37) (.c (.int .u64 (.ofNat 1)))))⟩,
     .op ⟨(some 39), none, (.r (.bin .and (.t 36) (.t 38)))⟩,
     .op ⟨(some 40), none, (.r (.cint .i64 (.t 39)))⟩,
     .op ⟨(some 10), none, (.r (.mv (.t 40)))⟩])
   (.seq (.seq (.region [.op ⟨(some 41), none, (.r (.mv (.t 10)))⟩,
     .op ⟨(some 42), none, (.r (.mv (.t 6)))⟩,
     .op ⟨(some 43), none, (.r (.bin .geq (.t 41) (.t 42)))⟩])
   (.cond (.t 43)
    (.region [.op ⟨(some 44), none, (.r (.mv (.t 10)))⟩,
      .op ⟨(some 45), none, (.r (.mv (.t 6)))⟩,
      .op ⟨(some 46), none, (.r (.bin .sub (.t 44) (.t 45)))⟩,
      .op ⟨(some 10), none, (.r (.mv (.t 46)))⟩])
    .skip))
   (.region [.op ⟨(some 47), none, (.r (.mv (.t 0)))⟩,
     .op ⟨(some 48), none, (.r (.mv (.t 9)))⟩,
     .op ⟨(some 49), none, (.r (.mv (.t 0)))⟩,
     .op ⟨(some 50), none, (.r (.mv (.t 1)))⟩,
     .op ⟨(some 51), none, (.r (.mv (.t 10)))⟩,
     .op ⟨(some 52), none, (.r (.bin .add (.t 50) (.t 51)))⟩,
     .op ⟨(some 53), none, (.r (.mv (.t 0)))⟩,
     .op ⟨(some 54), none, (.r (.mv (.t 1)))⟩,
     .op ⟨(some 55), none, (.r (.mv (.t 10)))⟩,
     .op ⟨(some 56), none, (.r (.bin .add (.t 54) (.t 55)))⟩,
     .op ⟨(some 57), none, (.r (.iasl 1 (.t 53) (.t 56)))⟩,
     .op ⟨(some 58), none, (.r (.load false 1 (.t 57)))⟩,
     .op ⟨(some 59), none, (.r (.mv (.t 0)))⟩,
     .op ⟨(some 60), none, (.r (.mv (.t 9)))⟩,
     .op ⟨(some 61), none, (.r (.iasl 1 (.t 59) (.t 60)))⟩,
     .op ⟨(some 62), none, (.r (.load false 1 (.t 61)))⟩,
     .op ⟨(some 63), none, (.r (.iasl 1 (.t 47) (.t 48)))⟩,
     .op ⟨none, none, (.e (.store 1 (.t 63) (.t 58)))⟩,
     .op ⟨(some 64), none, (.r (.iasl 1 (.t 49) (.t 52)))⟩,
     .op ⟨none, none, (.e (.store 1 (.t 64) (.t 62)))⟩]))))
  (.region [.op ⟨(some 34), none, (.r (.mv (.t 9)))⟩,
    .op ⟨(some 35), none, (.r (.bin .add (.t 34) (.c (.int .i64 (.ofNat 1)))))⟩,
    .op ⟨(some 9), none, (.r (.mv (.t 35)))⟩])))
/-- slices.breakPatternsOrdered[int] -/
def pf_slices_breakPatternsOrdered_int : PF := { ntmps := 65, results := [], body :=
  (.seq (.region [.op ⟨(some 11), none, (.r (.mv (.t 2)))⟩,
    .op ⟨(some 12), none, (.r (.mv (.t 1)))⟩,
    .op ⟨(some 13), none, (.r (.bin .sub (.t 11) (.t 12)))⟩,
    .op ⟨(some 6), none, (.r (.mv (.t 13)))⟩])
  (.seq (.region [.op ⟨(some 14), none, (.r (.mv (.t 6)))⟩,
    .op ⟨(some 15), none, (.r (.bin .geq (.t 14) (.c (.int .i64 (.ofNat 8)))))⟩])
  (.cond (.t 15)
   (.seq (.region [.op ⟨(some 16), none, (.r (.mv (.t 6)))⟩,
     .op ⟨(some 17), none, (.r (.cint .u64 (.t 16)))⟩,
     .op ⟨(some 7), none, (.n (.new 0 [(.int .u64 (.ofNat 0))]))⟩,
     .op ⟨none, none, (.e (.store 1 (.t 7) (.t 17)))⟩])
   (.seq (.region [.op ⟨(some 18), none, (.r (.mv (.t 6)))⟩,
     .op ⟨(some 19), none, (.e (.call n_slices_nextPowerOfTwo [(.t 18)]))⟩,
     .op ⟨(some 8), none, (.r (.mv (.t 19)))⟩])
   (.seq (.region [.op ⟨(some 20), none, (.r (.mv (.t 1)))⟩,
     .op ⟨(some 21), none, (.r (.mv (.t 6)))⟩,
     .op ⟨(some 22), none, (.r (.bin .quo (.t 21) (.c (.int .i64 (.ofNat 4)))))⟩,
     .op ⟨(some 23), none, (.r (.bin .mul (.t 22) (.c (.int .i64 (.ofNat 2)))))⟩,
     .op ⟨(some 24), none, (.r (.bin .add (.t 20) (.t 23)))⟩,
     .op ⟨(some 25), none, (.r (.bin .sub (.t 24) (.c (.int .i64 (.ofNat 1)))))⟩,
     .op ⟨(some 9), none, (.r (.mv (.t 25)))⟩])
   (.block 0 (.loop l0_slices_breakPatternsOrdered_int)))))
   .skip))) }
theorem tr_slices_breakPatternsOrdered_int : trF cx Try.f36 = pf_slices_breakPatternsOrdered_int := by kernel_rfl
/-- slices.choosePivotOrdered[int] -/
def pf_slices_choosePivotOrdered_int : PF := { ntmps := 57, results := [.tmp 6, .tmp 7], body :=
  (.seq (.region [.op ⟨(some 6), none, (.r (.mv (.c (.int .i64 (.ofNat 0)))))⟩,
    .op ⟨(some 7), none, (.r (.mv (.c (.int .i64 (.ofNat 0)))))⟩])
  (.seq (.region [.op ⟨(some 13), none, (.r (.mv (.t 2)))⟩,
    .op ⟨(some 14), none, (.r (.mv (.t 1)))⟩,
    .op ⟨(some 15), none, (.r (.bin .sub (.t 13) (.t 14)))⟩,
    .op ⟨(some 8), none, (.r (.mv (.t 15)))⟩])
  (.seq (.region [.op ⟨(some 9), none, (.n (.new 0 [(.int .i64 (.ofNat 0))]))⟩])
  (.seq (.region [.op ⟨(some 16), none, (.r (.mv (.t 1)))⟩,
    .op ⟨(some 17), none, (.r (.mv (.t 8)))⟩,
    .op ⟨(some 18), none, (.r (.bin .quo (.t 17) (.c (.int .i64 (.ofNat 4)))))⟩,
    .op ⟨(some 19), none, (.r (.bin .mul (.t 18) (.c (.int .i64 (.ofNat 1)))))⟩,
    .op ⟨(some 20), none, (.r (.bin .add (.t 16) (.t 19)))⟩,
    .op ⟨(some 10), none, (.r (.mv (.t 20)))⟩])
  (.seq (.region [.op ⟨(some 21), none, (.r (.mv (.t 1)))⟩,
    .op ⟨(some 22), none, (.r (.mv (.t 8)))⟩,
    .op ⟨(some 23), none, (.r (.bin .quo (.t 22) (.c (.int .i64 (.ofNat 4)))))⟩,
    .op ⟨(some 24), none, (.r (.bin .mul (.t 23) (.c (.int .i64 (.ofNat 2)))))⟩,
    .op ⟨(some 25), none, (.r (.bin .add (.t 21) (.t 24)))⟩,
    .op ⟨(some 11), none, (.r (.mv (.t 25)))⟩])
  (.seq (.region [.op ⟨(some 26), none, (.r (.mv (.t 1)))⟩,
    .op ⟨(some 27), none, (.r (.mv (.t 8)))⟩,
    .op ⟨(some 28), none, (.r (.bin .quo (.t 27) (.c (.int .i64 (.ofNat 4)))))⟩,
    .op ⟨(some 29), none, (.r (.bin .mul (.t 28) (.c (.int .i64 (.ofNat 3)))))⟩,
    .op ⟨(some 30), none, (.r (.bin .add (.t 26) (.t 29)))⟩,
    .op ⟨(some 12), none, (.r (.mv (.t 30)))⟩])
  (.seq (.seq (.region [.op ⟨(some 31), none, (.r (.mv (.t 8)))⟩,
    .op ⟨(some 32), none, (.r (.bin .geq (.t 31) (.c (.int .i64 (.ofNat 8)))))⟩])
  (.cond (.t 32)
   (.seq (.seq (.region [.op ⟨(some 33), none, (.r (.mv (.t 8)))⟩,
     .op ⟨(some 34), none, (.r (.bin .geq (.t 33) (.c (.int .i64 (.ofNat 50)))))⟩])
   (.cond (.t 34)
    (.seq (.region [.op ⟨(some 35), none, (.r (.mv (.t 0)))⟩,
      .op ⟨(some 36), none, (.r (.mv (.t 10)))⟩,
      .op ⟨(some 37), none, (.e (.call n_slices_medianAdjacentOrdered_int [(.t 35), (.t 36), (.t 9)]))⟩,
      .op ⟨(some 10), none, (.r (.mv (.t 37)))⟩])
    (.seq (.region [.op ⟨(some 38), none, (.r (.mv (.t 0)))⟩,
      .op ⟨(some 39), none, (.r (.mv (.t 11)))⟩,
      .op ⟨(some 40), none, (.e (.call n_slices_medianAdjacentOrdered_int [(.t 38), (.t 39), (.t 9)]))⟩,
      .op ⟨(some 11), none, (.r (.mv (.t 40)))⟩])
    (.region [.op ⟨(some 41), none, (.r (.mv (.t 0)))⟩,
      .op ⟨(some 42), none, (.r (.mv (.t 12)))⟩,
      .op ⟨(some 43), none, (.e (.call n_slices_medianAdjacentOrdered_int [(.t 41), (.t 42), (.t 9)]))⟩,
      .op ⟨(some 12), none, (.r (.mv (.t 43)))⟩])))
    .skip))
   (.region [.op ⟨(some 44), none, (.r (.mv (.t 0)))⟩,
     .op ⟨(some 45), none, (.r (.mv (.t 10)))⟩,
     .op ⟨(some 46), none, (.r (.mv (.t 11)))⟩,
     .op ⟨(some 47), none, (.r (.mv (.t 12)))⟩,
     .op ⟨(some 48), none, (.e (.call n_slices_medianOrdered_int [(.t 44), (.t 45), (.t 46), (.t 47), (.t 9)]))⟩,
     .op ⟨(some 11), none, (.r (.mv (.t 48)))⟩]))
   .skip))
  (.seq (.region [.op ⟨(some 49), none, (.r (.load false 1 (.t 9)))⟩])
  (.block 0 (.seq (.region [.op ⟨(some 52), none, (.r (.bin .eql (.t 49) (.c (.int .i64 (.ofNat 0)))))⟩,
     .op ⟨(some 51), none, (.r (.mv (.t 52)))⟩])
   (.cond (.t 51)
    (.seq (.region [.op ⟨(some 53), none, (.r (.mv (.t 11)))⟩,
      .op ⟨(some 6), none, (.r (.mv (.t 53)))⟩,
      .op ⟨(some 7), none, (.r (.mv (.c (.int .i64 (.ofNat 1)))))⟩])
    .ret)
    (.seq (.region [.op ⟨(some 55), none, (.r (.bin .eql (.t 49) (.c (.int .i64 (.ofNat 12)))))⟩,
      .op ⟨(some 54), none, (.r (.mv (.t 55)))⟩])
    (.cond (.t 54)
     (.seq (.region [.op ⟨(some 56), none, (.r (.mv (.t 11)))⟩,
       .op ⟨(some 6), none, (.r (.mv (.t 56)))⟩,
       .op ⟨(some 7), none, (.r (.mv (.c (.int .i64 (.ofNat 2)))))⟩])
     .ret)
     (.seq (.region [.op ⟨(some 50), none, (.r (.mv (.t 11)))⟩,
       .op ⟨(some 6), none, (.r (.mv (.t 50)))⟩,
       .op ⟨(some 7), none, (.r (.mv (.c (.int .i64 (.ofNat 0)))))⟩])
     .ret)))))))))))))) }
theorem tr_slices_choosePivotOrdered_int : trF cx Try.f37 = pf_slices_choosePivotOrdered_int := by kernel_rfl
def l0_slices_reverseRangeOrdered_int : PC :=
  (.seq (.seq (.region [.op ⟨(some 11), none, (.r (.mv (.t 6)))⟩,
    .op ⟨(some 12), none, (.r (.mv (.t 7)))⟩,
    .op ⟨(some 13), none, (.r (.bin .lss (.t 11) (.t 12)))⟩])
  (.cond (.t 13)
   .skip
   (.exit 0)))
  (.block 1 (.seq (.region [.op ⟨(some 14), none, (.r (.mv (.t 0)))⟩,
     .op ⟨(some 15), none, (.r (.mv (.t 6)))⟩,
     .op ⟨(some 16), none, (.r (.mv (.t 0)))⟩,
     .op ⟨(some 17), none, (.r (.mv (.t 7)))⟩,
     .op ⟨(some 18), none, (.r (.mv (.t 0)))⟩,
     .op ⟨(some 19), none, (.r (.mv (.t 7)))⟩,
     .op ⟨(some 20), none, (.r (.iasl 1 (.t 18) (.t 19)))⟩,
     .op ⟨(some 21), none, (.r (.load false 1 (.t 20)))⟩,
     .op ⟨(some 22), none, (.r (.mv (.t 0)))⟩,
     .op ⟨(some 23), none, (.r (.mv (.t 6)))⟩,
     .op ⟨(some 24), none, (.r (.iasl 1 (.t 22) (.t 23)))⟩,
     .op ⟨(some 25), none, (.r (.load false 1 (.t 24)))⟩,
     .op ⟨(some 26), none, (.r (.iasl 1 (.t 14) (.t 15)))⟩,
     .op ⟨none, none, (.e (.store 1 (.t 26) (.t 21)))⟩,
     .op ⟨(some 27), none, (.r (.iasl 1 (.t 16) (.t 17)))⟩,
     .op ⟨none, none, (.e (.store 1 (.t 27) (.t 25)))⟩])
   (.seq (.region [.op ⟨(some 28), none, (.r (.mv (.t 6)))⟩,
     .op ⟨(some 29), none, (.r (.bin .add (.t 28) (.c (.int .i64 (.ofNat 1)))))⟩,
     .op ⟨(some 6), none, (.r (.mv (.t 29)))⟩])
   (.region [.op ⟨(some 30), none, (.r (.mv (.t 7)))⟩,
     .op ⟨(some 31), none, (.r (.bin .sub (.t 30) (.c (.int .i64 (.ofNat 1)))))⟩,
     .op ⟨(some 7), none, (.r (.mv (.t 31)))⟩])))))
/-- slices.reverseRangeOrdered[int] -/
def pf_slices_reverseRangeOrdered_int : PF := { ntmps := 32, results := [], body :=
  (.seq (.region [.op ⟨(some 8), none, (.r (.mv (.t 1)))⟩,
    .op ⟨(some 6), none, (.r (.mv (.t 8)))⟩])
  (.seq (.region [.op ⟨(some 9), none, (.r (.mv (.t 2)))⟩,
    .op ⟨(some 10), none, (.r (.bin .sub (.t 9) (.c (.int .i64 (.ofNat 1)))))⟩,
    .op ⟨(some 7), none, (.r (.mv (.t 10)))⟩])
  (.block 0 (.loop l0_slices_reverseRangeOrdered_int)))) }
theorem tr_slices_reverseRangeOrdered_int : trF cx Try.f38 = pf_slices_reverseRangeOrdered_int := by kernel_rfl
def l0_slices_partialInsertionSortOrdered_int : PC :=
  (.seq (.seq (.region [.op ⟨(some 17), none, (.r (.mv (.t 7)))⟩,
    .op ⟨(some 18), none, (.r (.mv (.t 2)))⟩,
    .op ⟨(some 19), none, (.r (.bin .lss (.t 17) (.t 18)))⟩,
    .op ⟨(some 20), none, (.r (.mv (.t 19)))⟩,
    .op ⟨(some 21), (some (20, true)), (.r (.mv (.t 0)))⟩,
    .op ⟨(some 22), (some (20, true)), (.r (.mv (.t 7)))⟩,
    .op ⟨(some 23), (some (20, true)), (.r (.iasl 1 (.t 21) (.t 22)))⟩,
    .op ⟨(some 24), (some (20, true)), (.r (.load false 1 (.t 23)))⟩,
    .op ⟨(some 25), (some (20, true)), (.r (.mv (.t 0)))⟩,
    .op ⟨(some 26), (some (20, true)), (.r (.mv (.t 7)))⟩,
    .op ⟨(some 27), (some (20, true)), (.r (.bin .sub (.t 26) (.c (.int .i64 (.ofNat 1)))))⟩,
    .op ⟨(some 28), (some (20, true)), (.r (.iasl 1 (.t 25) (.t 27)))⟩,
    .op ⟨(some 29), (some (20, true)), (.r (.load false 1 (.t 28)))⟩,
    .op ⟨(some 30), (some (20, true)), (.e (.call n_cmp_Less_int [(.t 24), (.t 29)]))⟩,
    .op ⟨(some 31), (some (20, true)), (.r (.un .not (.t 30)))⟩,
    .op ⟨(some 32), none, (.r (.pick (.t 20) (.t 31) (.c (.bool false))))⟩])
  (.cond (.t 32)
   .skip
   (.exit 2)))
  (.block 3 (.region [.op ⟨(some 33), none, (.r (.mv (.t 7)))⟩,
     .op ⟨(some 34), none, (.r (.bin .add (.t 33) (.c (.int .i64 (.ofNat 1)))))⟩,
     .op ⟨(some 7), none, (.r (.mv (.t 34)))⟩])))
def l1_slices_partialInsertionSortOrdered_int : PC :=
  (.seq (.seq (.region [.op ⟨(some 64), none, (.r (.mv (.t 9)))⟩,
    .op ⟨(some 65), none, (.r (.bin .geq (.t 64) (.c (.int .i64 (.ofNat 1)))))⟩])
  (.cond (.t 65)
   .skip
   (.exit 4)))
  (.seq (.block 5 (.seq (.seq (.region [.op ⟨(some 68), none, (.r (.mv (.t 0)))⟩,
     .op ⟨(some 69), none, (.r (.mv (.t 9)))⟩,
     .op ⟨(some 70), none, (.r (.iasl 1 (.t 68) (.t 69)))⟩,
     .op ⟨(some 71), none, (.r (.load false 1 (.t 70)))⟩,
     .op ⟨(some 72), none, (.r (.mv (.t 0)))⟩,
     .op ⟨(some 73), none, (.r (.mv (.t 9)))⟩,
     .op ⟨(some 74), none, (.r (.bin .sub (.t 73) (.c (.int .i64 (.ofNat 1)))))⟩,
     .op ⟨(some 75), none, (.r (.iasl 1 (.t 72) (.t 74)))⟩,
     .op ⟨(some 76), none, (.r (.load false 1 (.t 75)))⟩,
     .op ⟨(some 77), none, (.e (.call n_cmp_Less_int [(.t 71), (.t 76)]))⟩,
     .op ⟨(some 78), none, (.r (.un .not (.t 77)))⟩])
   (.cond (.t 78)
    (.exit 4)
    .skip))
   (.region [.op ⟨(some 79), none, (.r (.mv (.t 0)))⟩,
     .op ⟨(some 80), none, (.r (.mv (.t 9)))⟩,
     .op ⟨(some 81), none, (.r (.mv (.t 0)))⟩,
     .op ⟨(some 82), none, (.r (.mv (.t 9)))⟩,
     .op ⟨(some 83), none, (.r (.bin .sub (.t 82) (.c (.int .i64 (.ofNat 1)))))⟩,
     .op ⟨(some 84), none, (.r (.mv (.t 0)))⟩,
     .op ⟨(some 85), none, (.r (.mv (.t 9)))⟩,
     .op ⟨(some 86), none, (.r (.bin .sub (.t 85) (.c (.int .i64 (.ofNat 1)))))⟩,
     .op ⟨(some 87), none, (.r (.iasl 1 (.t 84) (.t 86)))⟩,
     .op ⟨(some 88), none, (.r (.load false 1 (.t 87)))⟩,
     .op ⟨(some 89), none, (.r (.mv (.t 0)))⟩,
     .op ⟨(some 90), none, (.r (.mv (.t 9)))⟩,
     .op ⟨(some 91), none, (.r (.iasl 1 (.t 89) (.t 90)))⟩,
     .op ⟨(some 92), none, (.r (.load false 1 (.t 91)))⟩,
     .op ⟨(some 93), none, (.r (.iasl 1 (.t 79) (.t 80)))⟩,
     .op ⟨none, none, (.e (.store 1 (.t 93) (.t 88)))⟩,
     .op ⟨(some 94), none, (.r (.iasl 1 (.t 81) (.t 83)))⟩,
     .op ⟨none, none, (.e (.store 1 (.t 94) (.t 92)))⟩])))
  (.region [.op ⟨(some 66), none, (.r (.mv (.t 9)))⟩,
    .op ⟨(some 67), none, (.r (.bin .sub (.t 66) (.c (.int .i64 (.ofNat 1)))))⟩,
    .op ⟨(some 9), none, (.r (.mv (.t 67)))⟩])))
def l2_slices_partialInsertionSortOrdered_int : PC :=
  (.seq (.seq (.region [.op ⟨(some 101), none, (.r (.mv (.t 10)))⟩,
    .op ⟨(some 102), none, (.r (.mv (.t 2)))⟩,
    .op ⟨(some 103), none, (.r (.bin .lss (.t 101) (.t 102)))⟩])
  (.cond (.t 103)
   .skip
   (.exit 6)))
  (.seq (.block 7 (.seq (.seq (.region [.op ⟨(some 106), none, (.r (.mv (.t 0)))⟩,
     .op ⟨(some 107), none, (.r (.mv (.t 10)))⟩,
     .op ⟨(some 108), none, (.r (.iasl 1 (.t 106) (.t 107)))⟩,
     .op ⟨(some 109), none, (.r (.load false 1 (.t 108)))⟩,
     .op ⟨(some 110), none, (.r (.mv (.t 0)))⟩,
     .op ⟨(some 111), none, (.r (.mv (.t 10)))⟩,
     .op ⟨(some 112), none, (.r (.bin .sub (.t 111) (.c (.int .i64 (.ofNat 1)))))⟩,
     .op ⟨(some 113), none, (.r (.iasl 1 (.t 110) (.t 112)))⟩,
     .op ⟨(some 114), none, (.r (.load false 1 (.t 113)))⟩,
     .op ⟨(some 115), none, (.e (.call n_cmp_Less_int [(.t 109), (.t 114)]))⟩,
     .op ⟨(some 116), none, (.r (.un .not (.t 115)))⟩])
   (.cond (.t 116)
    (.exit 6)
    .skip))
   (.region [.op ⟨(some 117), none, (.r (.mv (.t 0)))⟩,
     .op ⟨(some 118), none, (.r (.mv (.t 10)))⟩,
     .op ⟨(some 119), none, (.r (.mv (.t 0)))⟩,
     .op ⟨(some 120), none, (.r (.mv (.t 10)))⟩,
     .op ⟨(some 121), none, (.r (.bin .sub (.t 120) (.c (.int .i64 (.ofNat 1)))))⟩,
     .op ⟨(some 122), none, (.r (.mv (.t 0)))⟩,
     .op ⟨(some 123), none, (.r (.mv (.t 10)))⟩,
     .op ⟨(some 124), none, (.r (.bin .sub (.t 123) (.c (.int .i64 (.ofNat 1)))))⟩,
     .op ⟨(some 125), none, (.r (.iasl 1 (.t 122) (.t 124)))⟩,
     .op ⟨(some 126), none, (.r (.load false 1 (.t 125)))⟩,
     .op ⟨(some 127), none, (.r (.mv (.t 0)))⟩,
     .op ⟨(some 128), none, (.r (.mv (.t 10)))⟩,
     .op ⟨(some 129), none, (.r (.iasl 1 (.t 127) (.t 128)))⟩,
     .op ⟨(some 130), none, (.r (.load false 1 (.t 129)))⟩,
     .op ⟨(some 131), none, (.r (.iasl 1 (.t 117) (.t 118)))⟩,
     .op ⟨none, none, (.e (.store 1 (.t 131) (.t 126)))⟩,
     .op ⟨(some 132), none, (.r (.iasl 1 (.t 119) (.t 121)))⟩,
     .op ⟨none, none, (.e (.store 1 (.t 132) (.t 130)))⟩])))
  (.region [.op ⟨(some 104), none, (.r (.mv (.t 10)))⟩,
    .op ⟨(some 105), none, (.r (.bin .add (.t 104) (.c (.int .i64 (.ofNat 1)))))⟩,
    .op ⟨(some 10), none, (.r (.mv (.t 105)))⟩])))
def l3_slices_partialInsertionSortOrdered_int : PC :=
  (.seq (.seq (.region [.op ⟨(some 13), none, (.r (.mv (.t 8)))⟩,
    .op ⟨(some 14), none, (.r (.bin .lss (.t 13) (.c (.int .i64 (.ofNat 5)))))⟩])
  (.cond (.t 14)
   .skip
   (.exit 0)))
  (.seq (.block 1 (.seq (.block 2 (.loop l0_slices_partialInsertionSortOrdered_int))
   (.seq (.seq (.region [.op ⟨(some 35), none, (.r (.mv (.t 7)))⟩,
     .op ⟨(some 36), none, (.r (.mv (.t 2)))⟩,
     .op ⟨(some 37), none, (.r (.bin .eql (.t 35) (.t 36)))⟩])
   (.cond (.t 37)
    (.seq (.region [.op ⟨(some 6), none, (.r (.mv (.c (.bool true))))⟩])
    .ret)
    .skip))
   (.seq (.seq (.region [.op ⟨(some 38), none, (.r (.mv (.t 2)))⟩,
     .op ⟨(some 39), none, (.r (.mv (.t 1)))⟩,
     .op ⟨(some 40), none, (.r (.bin .sub (.t 38) (.t 39)))⟩,
     .op ⟨(some 41), none, (.r (.bin .lss (.t 40) (.c (.int .i64 (.ofNat 50)))))⟩])
   (.cond (.t 41)
    (.seq (.region [.op ⟨(some 6), none, (.r (.mv (.c (.bool false))))⟩])
    .ret)
    .skip))
   (.seq (.region [.op ⟨(some 42), none, (.r (.mv (.t 0)))⟩,
     .op ⟨(some 43), none, (.r (.mv (.t 7)))⟩,
     .op ⟨(some 44), none, (.r (.mv (.t 0)))⟩,
     .op ⟨(some 45), none, (.r (.mv (.t 7)))⟩,
     .op ⟨(some 46), none, (.r (.bin .sub (.t 45) (.c (.int .i64 (.ofNat 1)))))⟩,
     .op ⟨(some 47), none, (.r (.mv (.t 0)))⟩,
     .op ⟨(some 48), none, (.r (.mv (.t 7)))⟩,
     .op ⟨(some 49), none, (.r (.bin .sub (.t 48) (.c (.int .i64 (.ofNat 1)))))⟩,
     .op ⟨(some 50), none, (.r (.iasl 1 (.t 47) (.t 49)))⟩,
     .op ⟨(some 51), none, (.r (.load false 1 (.t 50)))⟩,
     .op ⟨(some 52), none, (.r (.mv (.t 0)))⟩,
     .op ⟨(some 53), none, (.r (.mv (.t 7)))⟩,
     .op ⟨(some 54), none, (.r (.iasl 1 (.t 52) (.t 53)))⟩,
     .op ⟨(some 55), none, (.r (.load false 1 (.t 54)))⟩,
     .op ⟨(some 56), none, (.r (.iasl 1 (.t 42) (.t 43)))⟩,
     .op ⟨none, none, (.e (.store 1 (.t 56) (.t 51)))⟩,
     .op ⟨(some 57), none, (.r (.iasl 1 (.t 44) (.t 46)))⟩,
     .op ⟨none, none, (.e (.store 1 (.t 57) (.t 55)))⟩])
   (.seq (.seq (.region [.op ⟨(some 58), none, (.r (.mv (.t 7)))⟩,
     .op ⟨(some 59), none, (.r (.mv (.t 1)))⟩,
     .op ⟨(some 60), none, (.r (.bin .sub (.t 58) (.t 59)))⟩,
     .op ⟨(some 61), none, (.r (.bin .geq (.t 60) (.c (.int .i64 (.ofNat 2)))))⟩])
   (.cond (.t 61)
    (.seq (.region [.op ⟨(some 62), none, (.r (.mv (.t 7)))⟩,
      .op ⟨(some 63), none, (.r (.bin .sub (.t 62) (.c (.int .i64 (.ofNat 1)))))⟩,
      .op ⟨(some 9), none, (.r (.mv (.t 63)))⟩])
    (.block 4 (.loop l1_slices_partialInsertionSortOrdered_int)))
    .skip))
   (.seq (.region [.op ⟨(some 95), none, (.r (.mv (.t 2)))⟩,
     .op ⟨(some 96), none, (.r (.mv (.t 7)))⟩,
     .op ⟨(some 97), none, (.r (.bin .sub (.t 95) (.t 96)))⟩,
     .op ⟨(some 98), none, (.r (.bin .geq (.t 97) (.c (.int .i64 (.ofNat 2)))))⟩])
   (.cond (.t 98)
    (.seq (.region [.op ⟨(some 99), none, (.r (.mv (.t 7)))⟩,
      .op ⟨(some 100), none, (.r (.bin .add (.t 99) (.c (.int .i64 (.ofNat 1)))))⟩,
      .op ⟨(some 10), none, (.r (.mv (.t 100)))⟩])
    (.block 6 (.loop l2_slices_partialInsertionSortOrdered_int)))
    .skip))))))))
  (.region [.op ⟨(some 15), none, (.r (.mv (.t 8)))⟩,
    .op ⟨(some 16), none, (.r (.bin .add (.t 15) (.c (.int .i64 (.ofNat 1)))))⟩,
    .op ⟨(some 8), none, (.r (.mv (.t 16)))⟩])))
/-- slices.partialInsertionSortOrdered[int] -/
def pf_slices_partialInsertionSortOrdered_int : PF := { ntmps := 133, results := [.tmp 6], body :=
  (.seq (.region [.op ⟨(some 6), none, (.r (.mv (.c (.bool false))))⟩])
  (.seq (.region [.op ⟨(some 11), none, (.r (.mv (.t 1)))⟩,
    .op ⟨(some 12), none, (.r (.bin .add (.t 11) (.c (.int .i64 (.ofNat 1)))))⟩,
    .op ⟨(some 7), none, (.r (.mv (.t 12)))⟩])
  (.seq (.seq (.region [.op ⟨(some 8), none, (.r (.mv (.c (.int .i64 (.ofNat 0)))))⟩])
  (.block 0 (.loop l3_slices_partialInsertionSortOrdered_int)))
  (.seq (.region [.op ⟨(some 6), none, (.r (.mv (.c (.bool false))))⟩])
  .ret)))) }
theorem tr_slices_partialInsertionSortOrdered_int : trF cx Try.f39 = pf_slices_partialInsertionSortOrdered_int := by kernel_rfl
/-- cmp.Less[int] -/
def pf_cmp_Less_int : PF := { ntmps := 17, results := [.tmp 4], body :=
  (.seq (.region [.op ⟨(some 4), none, (.r (.mv (.c (.bool false))))⟩])
  (.seq (.region [.op ⟨(some 5), none, (.r (.mv (.t 0)))⟩,
    .op ⟨(some 6), none, (.e (.call n_cmp_isNaN_int [(.t 5)]))⟩,
    .op ⟨(some 7), none, (.r (.mv (.t 6)))⟩,
    .op ⟨(some 8), (some (7, true)), (.r (.mv (.t 1)))⟩,
    .op ⟨(some 9), (some (7, true)), (.e (.call n_cmp_isNaN_int [(.t 8)]))⟩,
    .op ⟨(some 10), (some (7, true)), (.r (.un .not (.t 9)))⟩,
    .op ⟨(some 11), none, (.r (.pick (.t 7) (.t 10) (.c (.bool false))))⟩,
    .op ⟨(some 12), none, (.r (.mv (.t 11)))⟩,
    .op ⟨(some 13), (some (12, false)), (.r (.mv (.t 0)))⟩,
    .op ⟨(some 14), (some (12, false)), (.r (.mv (.t 1)))⟩,
    .op ⟨(some 15), (some (12, false)), (.r (.bin .lss (.t 13) (.t 14)))⟩,
    .op ⟨(some 16), none, (.r (.pick (.t 12) (.c (.bool true)) (.t 15)))⟩,
    .op ⟨(some 4), none, (.r (.mv (.t 16)))⟩])
  .ret)) }
theorem tr_cmp_Less_int : trF cx Try.f40 = pf_cmp_Less_int := by kernel_rfl
def l0_slices_partitionEqualOrdered_int : PC :=
  (.seq (.seq (.region [.op ⟨(some 29), none, (.r (.mv (.t 9)))⟩,
    .op ⟨(some 30), none, (.r (.mv (.t 10)))⟩,
    .op ⟨(some 31), none, (.r (.bin .leq (.t 29) (.t 30)))⟩,
    .op ⟨(some 32), none, (.r (.mv (.t 31)))⟩,
    .op ⟨(some 33), (some (32, true)), (.r (.mv (.t 0)))⟩,
    .op ⟨(some 34), (some (32, true)), (.r (.mv (.t 1)))⟩,
    .op ⟨(some 35), (some (32, true)), (.r (.iasl 1 (.t 33) (.t 34)))⟩,
    .op ⟨(some 36), (some (32, true)), (.r (.load false 1 (.t 35)))⟩,
    .op ⟨(some 37), (some (32, true)), (.r (.mv (.t 0)))⟩,
    .op ⟨(some 38), (some (32, true)), (.r (.mv (.t 9)))⟩,
    .op ⟨(some 39), (some (32, true)), (.r (.iasl 1 (.t 37) (.t 38)))⟩,
    .op ⟨(some 40), (some (32, true)), (.r (.load false 1 (.t 39)))⟩,
    .op ⟨(some 41), (some (32, true)), (.e (.call n_cmp_Less_int [(.t 36), (.t 40)]))⟩,
    .op ⟨(some 42), (some (32, true)), (.r (.un .not (.t 41)))⟩,
    .op ⟨(some 43), none, (.r (.pick (.t 32) (.t 42) (.c (.bool false))))⟩])
  (.cond (.t 43)
   .skip
   (.exit 2)))
  (.block 3 (.region [.op ⟨(some 44), none, (.r (.mv (.t 9)))⟩,
     .op ⟨(some 45), none, (.r (.bin .add (.t 44) (.c (.int .i64 (.ofNat 1)))))⟩,
     .op ⟨(some 9), none, (.r (.mv (.t 45)))⟩])))
def l1_slices_partitionEqualOrdered_int : PC :=
  (.seq (.seq (.region [.op ⟨(some 46), none, (.r (.mv (.t 9)))⟩,
    .op ⟨(some 47), none, (.r (.mv (.t 10)))⟩,
    .op ⟨(some 48), none, (.r (.bin .leq (.t 46) (.t 47)))⟩,
    .op ⟨(some 49), none, (.r (.mv (.t 48)))⟩,
    .op ⟨(some 50), (some (49, true)), (.r (.mv (.t 0)))⟩,
    .op ⟨(some 51), (some (49, true)), (.r (.mv (.t 1)))⟩,
    .op ⟨(some 52), (some (49, true)), (.r (.iasl 1 (.t 50) (.t 51)))⟩,
    .op ⟨(some 53), (some (49, true)), (.r (.load false 1 (.t 52)))⟩,
    .op ⟨(some 54), (some (49, true)), (.r (.mv (.t 0)))⟩,
    .op ⟨(some 55), (some (49, true)), (.r (.mv (.t 10)))⟩,
    .op ⟨(some 56), (some (49, true)), (.r (.iasl 1 (.t 54) (.t 55)))⟩,
    .op ⟨(some 57), (some (49, true)), (.r (.load false 1 (.t 56)))⟩,
    .op ⟨(some 58), (some (49, true)), (.e (.call n_cmp_Less_int [(.t 53), (.t 57)]))⟩,
    .op ⟨(some 59), none, (.r (.pick (.t 49) (.t 58) (.c (.bool false))))⟩])
  (.cond (.t 59)
   .skip
   (.exit 4)))
  (.block 5 (.region [.op ⟨(some 60), none, (.r (.mv (.t 10)))⟩,
     .op ⟨(some 61), none, (.r (.bin .sub (.t 60) (.c (.int .i64 (.ofNat 1)))))⟩,
     .op ⟨(some 10), none, (.r (.mv (.t 61)))⟩])))
def l2_slices_partitionEqualOrdered_int : PC :=
  (.block 1 (.seq (.block 2 (.loop l0_slices_partitionEqualOrdered_int))
   (.seq (.block 4 (.loop l1_slices_partitionEqualOrdered_int))
   (.seq (.seq (.region [.op ⟨(some 62), none, (.r (.mv (.t 9)))⟩,
     .op ⟨(some 63), none, (.r (.mv (.t 10)))⟩,
     .op ⟨(some 64), none, (.r (.bin .gtr (.t 62) (.t 63)))⟩])
   (.cond (.t 64)
    (.exit 0)
    .skip))
   (.seq (.region [.op ⟨(some 65), none, (.r (.mv (.t 0)))⟩,
     .op ⟨(some 66), none, (.r (.mv (.t 9)))⟩,
     .op ⟨(some 67), none, (.r (.mv (.t 0)))⟩,
     .op ⟨(some 68), none, (.r (.mv (.t 10)))⟩,
     .op ⟨(some 69), none, (.r (.mv (.t 0)))⟩,
     .op ⟨(some 70), none, (.r (.mv (.t 10)))⟩,
     .op ⟨(some 71), none, (.r (.iasl 1 (.t 69) (.t 70)))⟩,
     .op ⟨(some 72), none, (.r (.load false 1 (.t 71)))⟩,
     .op ⟨(some 73), none, (.r (.mv (.t 0)))⟩,
     .op ⟨(some 74), none, (.r (.mv (.t 9)))⟩,
     .op ⟨(some 75), none, (.r (.iasl 1 (.t 73) (.t 74)))⟩,
     .op ⟨(some 76), none, (.r (.load false 1 (.t 75)))⟩,
     .op ⟨(some 77), none, (.r (.iasl 1 (.t 65) (.t 66)))⟩,
     .op ⟨none, none, (.e (.store 1 (.t 77) (.t 72)))⟩,
     .op ⟨(some 78), none, (.r (.iasl 1 (.t 67) (.t 68)))⟩,
     .op ⟨none, none, (.e (.store 1 (.t 78) (.t 76)))⟩])
   (.seq (.region [.op ⟨(some 79), none, (.r (.mv (.t 9)))⟩,
     .op ⟨(some 80), none, (.r (.bin .add (.t 79) (.c (.int .i64 (.ofNat 1)))))⟩,
     .op ⟨(some 9), none, (.r (.mv (.t 80)))⟩])
   (.region [.op ⟨(some 81), none, (.r (.mv (.t 10)))⟩,
     .op ⟨(some 82), none, (.r (.bin .sub (.t 81) (.c (.int .i64 (.ofNat 1)))))⟩,
     .op ⟨(some 10), none, (.r (.mv (.t 82)))⟩])))))))
/-- slices.partitionEqualOrdered[int] -/
def pf_slices_partitionEqualOrdered_int : PF := { ntmps := 84, results := [.tmp 8], body :=
  (.seq (.region [.op ⟨(some 8), none, (.r (.mv (.c (.int .i64 (.ofNat 0)))))⟩])
  (.seq (.region [.op ⟨(some 11), none, (.r (.mv (.t 0)))⟩,
    .op ⟨(some 12), none, (.r (.mv (.t 1)))⟩,
    .op ⟨(some 13), none, (.r (.mv (.t 0)))⟩,
    .op ⟨(some 14), none, (.r (.mv (.t 3)))⟩,
    .op ⟨(some 15), none, (.r (.mv (.t 0)))⟩,
    .op ⟨(some 16), none, (.r (.mv (.t 3)))⟩,
    .op ⟨(some 17), none, (.r (.iasl 1 (.t 15) (.t 16)))⟩,
    .op ⟨(some 18), none, (.r (.load false 1 (.t 17)))⟩,
    .op ⟨(some 19), none, (.r (.mv (.t 0)))⟩,
    .op ⟨(some 20), none, (.r (.mv (.t 1)))⟩,
    .op ⟨(some 21), none, (.r (.iasl 1 (.t 19) (.t 20)))⟩,
    .op ⟨(some 22), none, (.r (.load false 1 (.t 21)))⟩,
    .op ⟨(some 23), none, (.r (.iasl 1 (.t 11) (.t 12)))⟩,
    .op ⟨none, none, (.e (.store 1 (.t 23) (.t 18)))⟩,
    .op ⟨(some 24), none, (.r (.iasl 1 (.t 13) (.t 14)))⟩,
    .op ⟨none, none, (.e (.store 1 (.t 24) (.t 22)))⟩])
  (.seq (.region [.op ⟨(some 25), none, (.r (.mv (.t 1)))⟩,
    .op ⟨(some 26), none, (.r (.bin .add (.t 25) (.c (.int .i64 (.ofNat 1)))))⟩,
    .op ⟨(some 27), none, (.r (.mv (.t 2)))⟩,
    .op ⟨(some 28), none, (.r (.bin .sub (.t 27) (.c (.int .i64 (.ofNat 1)))))⟩,
    .op ⟨(some 9), none, (.r (.mv (.t 26)))⟩,
    .op ⟨(some 10), none, (.r (.mv (.t 28)))⟩])
  (.seq (.block 0 (.loop l2_slices_partitionEqualOrdered_int))
  (.seq (.region [.op ⟨(some 83), none, (.r (.mv (.t 9)))⟩,
    .op ⟨(some 8), none, (.r (.mv (.t 83)))⟩])
  .ret))))) }
theorem tr_slices_partitionEqualOrdered_int : trF cx Try.f41 = pf_slices_partitionEqualOrdered_int := by kernel_rfl
def l0_slices_partitionOrdered_int : PC :=
  (.seq (.seq (.region [.op ⟨(some 30), none, (.r (.mv (.t 10)))⟩,
    .op ⟨(some 31), none, (.r (.mv (.t 11)))⟩,
    .op ⟨(some 32), none, (.r (.bin .leq (.t 30) (.t 31)))⟩,
    .op ⟨(some 33), none, (.r (.mv (.t 32)))⟩,
    .op ⟨(some 34), (some (33, true)), (.r (.mv (.t 0)))⟩,
    .op ⟨(some 35), (some (33, true)), (.r (.mv (.t 10)))⟩,
    .op ⟨(some 36), (some (33, true)), (.r (.iasl 1 (.t 34) (.t 35)))⟩,
    .op ⟨(some 37), (some (33, true)), (.r (.load false 1 (.t 36)))⟩,
    .op ⟨(some 38), (some (33, true)), (.r (.mv (.t 0)))⟩,
    .op ⟨(some 39), (some (33, true)), (.r (.mv (.t 1)))⟩,
    .op ⟨(some 40), (some (33, true)), (.r (.iasl 1 (.t 38) (.t 39)))⟩,
    .op ⟨(some 41), (some (33, true)), (.r (.load false 1 (.t 40)))⟩,
    .op ⟨(some 42), (some (33, true)), (.e (.call n_cmp_Less_int [(.t 37), (.t 41)]))⟩,
    .op ⟨(some 43), none, (.r (.pick (.t 33) (.t 42) (.c (.bool false))))⟩])
  (.cond (.t 43)
   .skip
   (.exit 0)))
  (.block 1 (.region [.op ⟨(some 44), none, (.r (.mv (.t 10)))⟩,
     .op ⟨(some 45), none, (.r (.bin .add (.t 44) (.c (.int .i64 (.ofNat 1)))))⟩,
     .op ⟨(some 10), none, (.r (.mv (.t 45)))⟩])))
def l1_slices_partitionOrdered_int : PC :=
  (.seq (.seq (.region [.op ⟨(some 46), none, (.r (.mv (.t 10)))⟩,
    .op ⟨(some 47), none, (.r (.mv (.t 11)))⟩,
    .op ⟨(some 48), none, (.r (.bin .leq (.t 46) (.t 47)))⟩,
    .op ⟨(some 49), none, (.r (.mv (.t 48)))⟩,
    .op ⟨(some 50), (some (49, true)), (.r (.mv (.t 0)))⟩,
    .op ⟨(some 51), (some (49, true)), (.r (.mv (.t 11)))⟩,
    .op ⟨(some 52), (some (49, true)), (.r (.iasl 1 (.t 50) (.t 51)))⟩,
    .op ⟨(some 53), (some (49, true)), (.r (.load false 1 (.t 52)))⟩,
    .op ⟨(some 54), (some (49, true)), (.r (.mv (.t 0)))⟩,
    .op ⟨(some 55), (some (49, true)), (.r (.mv (.t 1)))⟩,
    .op ⟨(some 56), (some (49, true)), (.r (.iasl 1 (.t 54) (.t 55)))⟩,
    .op ⟨(some 57), (some (49, true)), (.r (.load false 1 (.t 56)))⟩,
    .op ⟨(some 58), (some (49, true)), (.e (.call n_cmp_Less_int [(.t 53), (.t 57)]))⟩,
    .op ⟨(some 59), (some (49, true)), (.r (.un .not (.t 58)))⟩,
    .op ⟨(some 60), none, (.r (.pick (.t 49) (.t 59) (.c (.bool false))))⟩])
  (.cond (.t 60)
   .skip
   (.exit 2)))
  (.block 3 (.region [.op ⟨(some 61), none, (.r (.mv (.t 11)))⟩,
     .op ⟨(some 62), none, (.r (.bin .sub (.t 61) (.c (.int .i64 (.ofNat 1)))))⟩,
     .op ⟨(some 11), none, (.r (.mv (.t 62)))⟩])))
def l2_slices_partitionOrdered_int : PC :=
  (.seq (.seq (.region [.op ⟨(some 99), none, (.r (.mv (.t 10)))⟩,
    .op ⟨(some 100), none, (.r (.mv (.t 11)))⟩,
    .op ⟨(some 101), none, (.r (.bin .leq (.t 99) (.t 100)))⟩,
    .op ⟨(some 102), none, (.r (.mv (.t 101)))⟩,
    .op ⟨(some 103), (some (102, true)), (.r (.mv (.t 0)))⟩,
    .op ⟨(some 104), (some (102, true)), (.r (.mv (.t 10)))⟩,
    .op ⟨(some 105), (some (102, true)), (.r (.iasl 1 (.t 103) (.t 104)))⟩,
    .op ⟨(some 106), (some (102, true)), (.r (.load false 1 (.t 105)))⟩,
    .op ⟨(some 107), (some (102, true)), (.r (.mv (.t 0)))⟩,
    .op ⟨(some 108), (some (102, true)), (.r (.mv (.t 1)))⟩,
    .op ⟨(some 109), (some (102, true)), (.r (.iasl 1 (.t 107) (.t 108)))⟩,
    .op ⟨(some 110), (some (102, true)), (.r (.load false 1 (.t 109)))⟩,
    .op ⟨(some 111), (some (102, true)), (.e (.call n_cmp_Less_int [(.t 106), (.t 110)]))⟩,
    .op ⟨(some 112), none, (.r (.pick (.t 102) (.t 111) (.c (.bool false))))⟩])
  (.cond (.t 112)
   .skip
   (.exit 6)))
  (.block 7 (.region [.op ⟨(some 113), none, (.r (.mv (.t 10)))⟩,
     .op ⟨(some 114), none, (.r (.bin .add (.t 113) (.c (.int .i64 (.ofNat 1)))))⟩,
     .op ⟨(some 10), none, (.r (.mv (.t 114)))⟩])))
def l3_slices_partitionOrdered_int : PC :=
  (.seq (.seq (.region [.op ⟨(some 115), none, (.r (.mv (.t 10)))⟩,
    .op ⟨(some 116), none, (.r (.mv (.t 11)))⟩,
    .op ⟨(some 117), none, (.r (.bin .leq (.t 115) (.t 116)))⟩,
    .op ⟨(some 118), none, (.r (.mv (.t 117)))⟩,
    .op ⟨(some 119), (some (118, true)), (.r (.mv (.t 0)))⟩,
    .op ⟨(some 120), (some (118, true)), (.r (.mv (.t 11)))⟩,
    .op ⟨(some 121), (some (118, true)), (.r (.iasl 1 (.t 119) (.t 120)))⟩,
    .op ⟨(some 122), (some (118, true)), (.r (.load false 1 (.t 121)))⟩,
    .op ⟨(some 123), (some (118, true)), (.r (.mv (.t 0)))⟩,
    .op ⟨(some 124), (some (118, true)), (.r (.mv (.t 1)))⟩,
    .op ⟨(some 125), (some (118, true)), (.r (.iasl 1 (.t 123) (.t 124)))⟩,
    .op ⟨(some 126), (some (118, true)), (.r (.load false 1 (.t 125)))⟩,
    .op ⟨(some 127), (some (118, true)), (.e (.call n_cmp_Less_int [(.t 122), (.t 126)]))⟩,
    .op ⟨(some 128), (some (118, true)), (.r (.un .not (.t 127)))⟩,
    .op ⟨(some 129), none, (.r (.pick (.t 118) (.t 128) (.c (.bool false))))⟩])
  (.cond (.t 129)
   .skip
   (.exit 8)))
  (.block 9 (.region [.op ⟨(some 130), none, (.r (.mv (.t 11)))⟩,
     .op ⟨(some 131), none, (.r (.bin .sub (.t 130) (.c (.int .i64 (.ofNat 1)))))⟩,
     .op ⟨(some 11), none, (.r (.mv (.t 131)))⟩])))
def l4_slices_partitionOrdered_int : PC :=
  (.block 5 (.seq (.block 6 (.loop l2_slices_partitionOrdered_int))
   (.seq (.block 8 (.loop l3_slices_partitionOrdered_int))
   (.seq (.seq (.region [.op ⟨(some 132), none, (.r (.mv (.t 10)))⟩,
     .op ⟨(some 133), none, (.r (.mv (.t 11)))⟩,
     .op ⟨(some 134), none, (.r (.bin .gtr (.t 132) (.t 133)))⟩])
   (.cond (.t 134)
    (.exit 4)
    .skip))
   (.seq (.region [.op ⟨(some 135), none, (.r (.mv (.t 0)))⟩,
     .op ⟨(some 136), none, (.r (.mv (.t 10)))⟩,
     .op ⟨(some 137), none, (.r (.mv (.t 0)))⟩,
     .op ⟨(some 138), none, (.r (.mv (.t 11)))⟩,
     .op ⟨(some 139), none, (.r (.mv (.t 0)))⟩,
     .op ⟨(some 140), none, (.r (.mv (.t 11)))⟩,
     .op ⟨(some 141), none, (.r (.iasl 1 (.t 139) (.t 140)))⟩,
     .op ⟨(some 142), none, (.r (.load false 1 (.t 141)))⟩,
     .op ⟨(some 143), none, (.r (.mv (.t 0)))⟩,
     .op ⟨(some 144), none, (.r (.mv (.t 10)))⟩,
     .op ⟨(some 145), none, (.r (.iasl 1 (.t 143) (.t 144)))⟩,
     .op ⟨(some 146), none, (.r (.load false 1 (.t 145)))⟩,
     .op ⟨(some 147), none, (.r (.iasl 1 (.t 135) (.t 136)))⟩,
     .op ⟨none, none, (.e (.store 1 (.t 147) (.t 142)))⟩,
     .op ⟨(some 148), none, (.r (.iasl 1 (.t 137) (.t 138)))⟩,
     .op ⟨none, none, (.e (.store 1 (.t 148) (.t 146)))⟩])
   (.seq (.region [.op ⟨(some 149), none, (.r (.mv (.t 10)))⟩,
     .op ⟨(some 150), none, (.r (.bin .add (.t 149) (.c (.int .i64 (.ofNat 1)))))⟩,
     .op ⟨(some 10), none, (.r (.mv (.t 150)))⟩])
   (.region [.op ⟨(some 151), none, (.r (.mv (.t 11)))⟩,
     .op ⟨(some 152), none, (.r (.bin .sub (.t 151) (.c (.int .i64 (.ofNat 1)))))⟩,
     .op ⟨(some 11), none, (.r (.mv (.t 152)))⟩])))))))
/-- slices.partitionOrdered[int] -/
def pf_slices_partitionOrdered_int : PF := { ntmps := 168, results := [.tmp 8, .tmp 9], body :=
  (.seq (.region [.op ⟨(some 8), none, (.r (.mv (.c (.int .i64 (.ofNat 0)))))⟩,
    .op ⟨(some 9), none, (.r (.mv (.c (.bool false))))⟩])
  (.seq (.region [.op ⟨(some 12), none, (.r (.mv (.t 0)))⟩,
    .op ⟨(some 13), none, (.r (.mv (.t 1)))⟩,
    .op ⟨(some 14), none, (.r (.mv (.t 0)))⟩,
    .op ⟨(some 15), none, (.r (.mv (.t 3)))⟩,
    .op ⟨(some 16), none, (.r (.mv (.t 0)))⟩,
    .op ⟨(some 17), none, (.r (.mv (.t 3)))⟩,
    .op ⟨(some 18), none, (.r (.iasl 1 (.t 16) (.t 17)))⟩,
    .op ⟨(some 19), none, (.r (.load false 1 (.t 18)))⟩,
    .op ⟨(some 20), none, (.r (.mv (.t 0)))⟩,
    .op ⟨(some 21), none, (.r (.mv (.t 1)))⟩,
    .op ⟨(some 22), none, (.r (.iasl 1 (.t 20) (.t 21)))⟩,
    .op ⟨(some 23), none, (.r (.load false 1 (.t 22)))⟩,
    .op ⟨(some 24), none, (.r (.iasl 1 (.t 12) (.t 13)))⟩,
    .op ⟨none, none, (.e (.store 1 (.t 24) (.t 19)))⟩,
    .op ⟨(some 25), none, (.r (.iasl 1 (.t 14) (.t 15)))⟩,
    .op ⟨none, none, (.e (.store 1 (.t 25) (.t 23)))⟩])
  (.seq (.region [.op ⟨(some 26), none, (.r (.mv (.t 1)))⟩,
    .op ⟨(some 27), none, (.r (.bin .add (.t 26) (.c (.int .i64 (.ofNat 1)))))⟩,
    .op ⟨(some 28), none, (.r (.mv (.t 2)))⟩,
    .op ⟨(some 29), none, (.r (.bin .sub (.t 28) (.c (.int .i64 (.ofNat 1)))))⟩,
    .op ⟨(some 10), none, (.r (.mv (.t 27)))⟩,
    .op ⟨(some 11), none, (.r (.mv (.t 29)))⟩])
  (.seq (.block 0 (.loop l0_slices_partitionOrdered_int))
  (.seq (.block 2 (.loop l1_slices_partitionOrdered_int))
  (.seq (.seq (.region [.op ⟨(some 63), none, (.r (.mv (.t 10)))⟩,
    .op ⟨(some 64), none, (.r (.mv (.t 11)))⟩,
    .op ⟨(some 65), none, (.r (.bin .gtr (.t 63) (.t 64)))⟩])
  (.cond (.t 65)
   (.seq (.region [.op ⟨(some 66), none, (.r (.mv (.t 0)))⟩,
     .op ⟨(some 67), none, (.r (.mv (.t 11)))⟩,
     .op ⟨(some 68), none, (.r (.mv (.t 0)))⟩,
     .op ⟨(some 69), none, (.r (.mv (.t 1)))⟩,
     .op ⟨(some 70), none, (.r (.mv (.t 0)))⟩,
     .op ⟨(some 71), none, (.r (.mv (.t 1)))⟩,
     .op ⟨(some 72), none, (.r (.iasl 1 (.t 70) (.t 71)))⟩,
     .op ⟨(some 73), none, (.r (.load false 1 (.t 72)))⟩,
     .op ⟨(some 74), none, (.r (.mv (.t 0)))⟩,
     .op ⟨(some 75), none, (.r (.mv (.t 11)))⟩,
     .op ⟨(some 76), none, (.r (.iasl 1 (.t 74) (.t 75)))⟩,
     .op ⟨(some 77), none, (.r (.load false 1 (.t 76)))⟩,
     .op ⟨(some 78), none, (.r (.iasl 1 (.t 66) (.t 67)))⟩,
     .op ⟨none, none, (.e (.store 1 (.t 78) (.t 73)))⟩,
     .op ⟨(some 79), none, (.r (.iasl 1 (.t 68) (.t 69)))⟩,
     .op ⟨none, none, (.e (.store 1 (.t 79) (.t 77)))⟩])
   (.seq (.region [.op ⟨(some 80), none, (.r (.mv (.t 11)))⟩,
     .op ⟨(some 8), none, (.r (.mv (.t 80)))⟩,
     .op ⟨(some 9), none, (.r (.mv (.c (.bool true))))⟩])
   .ret))
   .skip))
  (.seq (.region [.op ⟨(some 81), none, (.r (.mv (.t 0)))⟩,
    .op ⟨(some 82), none, (.r (.mv (.t 10)))⟩,
    .op ⟨(some 83), none, (.r (.mv (.t 0)))⟩,
    .op ⟨(some 84), none, (.r (.mv (.t 11)))⟩,
    .op ⟨(some 85), none, (.r (.mv (.t 0)))⟩,
    .op ⟨(some 86), none, (.r (.mv (.t 11)))⟩,
    .op ⟨(some 87), none, (.r (.iasl 1 (.t 85) (.t 86)))⟩,
    .op ⟨(some 88), none, (.r (.load false 1 (.t 87)))⟩,
    .op ⟨(some 89), none, (.r (.mv (.t 0)))⟩,
    .op ⟨(some 90), none, (.r (.mv (.t 10)))⟩,
    .op ⟨(some 91), none, (.r (.iasl 1 (.t 89) (.t 90)))⟩,
    .op ⟨(some 92), none, (.r (.load false 1 (.t 91)))⟩,
    .op ⟨(some 93), none, (.r (.iasl 1 (.t 81) (.t 82)))⟩,
    .op ⟨none, none, (.e (.store 1 (.t 93) (.t 88)))⟩,
    .op ⟨(some 94), none, (.r (.iasl 1 (.t 83) (.t 84)))⟩,
    .op ⟨none, none, (.e (.store 1 (.t 94) (.t 92)))⟩])
  (.seq (.region [.op ⟨(some 95), none, (.r (.mv (.t 10)))⟩,
    .op ⟨(some 96), none, (.r (.bin .add (.t 95) (.c (.int .i64 (.ofNat 1)))))⟩,
    .op ⟨(some 10), none, (.r (.mv (.t 96)))⟩])
  (.seq (.region [.op ⟨(some 97), none, (.r (.mv (.t 11)))⟩,
    .op ⟨(some 98), none, (.r (.bin .sub (.t 97) (.c (.int .i64 (.ofNat 1)))))⟩,
    .op ⟨(some 11), none, (.r (.mv (.t 98)))⟩])
  (.seq (.block 4 (.loop l4_slices_partitionOrdered_int))
  (.seq (.region [.op ⟨(some 153), none, (.r (.mv (.t 0)))⟩,
    .op ⟨(some 154), none, (.r (.mv (.t 11)))⟩,
    .op ⟨(some 155), none, (.r (.mv (.t 0)))⟩,
    .op ⟨(some 156), none, (.r (.mv (.t 1)))⟩,
    .op ⟨(some 157), none, (.r (.mv (.t 0)))⟩,
    .op ⟨(some 158), none, (.r (.mv (.t 1)))⟩,
    .op ⟨(some 159), none, (.r (.iasl 1 (.t 157) (.t 158)))⟩,
    .op ⟨(some 160), none, (.r (.load false 1 (.t 159)))⟩,
    .op ⟨(some 161), none, (.r (.mv (.t 0)))⟩,
    .op ⟨(some 162), none, (.r (.mv (.t 11)))⟩,
    .op ⟨(some 163), none, (.r (.iasl 1 (.t 161) (.t 162)))⟩,
    .op ⟨(some 164), none, (.r (.load false 1 (.t 163)))⟩,
    .op ⟨(some 165), none, (.r (.iasl 1 (.t 153) (.t 154)))⟩,
    .op ⟨none, none, (.e (.store 1 (.t 165) (.t 160)))⟩,
    .op ⟨(some 166), none, (.r (.iasl 1 (.t 155) (.t 156)))⟩,
    .op ⟨none, none, (.e (.store 1 (.t 166) (.t 164)))⟩])
  (.seq (.region [.op ⟨(some 167), none, (.r (.mv (.t 11)))⟩,
    .op ⟨(some 8), none, (.r (.mv (.t 167)))⟩,
    .op ⟨(some 9), none, (.r (.mv (.c (.bool false))))⟩])
  .ret)))))))))))) }
theorem tr_slices_partitionOrdered_int : trF cx Try.f42 = pf_slices_partitionOrdered_int := by kernel_rfl
/-- math/bits.Len32 -/
def pf_math_bits_Len32 : PF := { ntmps := 19, results := [.tmp 2], body :=
  (.seq (.region [.op ⟨(some 2), none, (.r (.mv (.c (.int .i64 (.ofNat 0)))))⟩])
  (.seq (.seq (.region [.op ⟨(some 3), none, (.r (.mv (.t 0)))⟩,
    .op ⟨(some 4), none, (.r (.bin .geq (.t 3) (.c (.int .u32 (.ofNat 65536)))))⟩])
  (.cond (.t 4)
   (.seq (.region [.op ⟨(some 5), none, (.r (.mv (.t 0)))⟩,
     .op ⟨(some 6), none, (.r (.bin .shr (.t 5) (.c (.int .u64 (.ofNat 16)))))⟩,
     .op ⟨(some 0), none, (.r (.mv (.t 6)))⟩])
   (.region [.op ⟨(some 2), none, (.r (.mv (.c (.int .i64 (.ofNat 16)))))⟩]))
   .skip))
  (.seq (.seq (.region [.op ⟨(some 7), none, (.r (.mv (.t 0)))⟩,
    .op ⟨(some 8), none, (.r (.bin .geq (.t 7) (.c (.int .u32 (.ofNat 256)))))⟩])
  (.cond (.t 8)
   (.seq (.region [.op ⟨(some 9), none, (.r (.mv (.t 0)))⟩,
     .op ⟨(some 10), none, (.r (.bin .shr (.t 9) (.c (.int .u64 (.ofNat 8)))))⟩,
     .op ⟨(some 0), none, (.r (.mv (.t 10)))⟩])
   (.region [.op ⟨(some 11), none, (.r (.mv (.t 2)))⟩,
     .op ⟨(some 12), none, (.r (.bin .add (.t 11) (.c (.int .i64 (.ofNat 8)))))⟩,
     .op ⟨(some 2), none, (.r (.mv (.t 12)))⟩]))
   .skip))
  (.seq (.region [.op ⟨(some 13), none, (.r (.mv (.t 2)))⟩,
    .op ⟨(some 14), none, (.r (.mv (.t 0)))⟩,
    .op ⟨(some 15), none, (.r (.cint .u8 (.t 14)))⟩,
    .op ⟨(some 16), none, (.r (.ixstr (.c (.str [0, 1, 2, 2, 3, 3, 3, 3, 4, 4, 4, 4, 4, 4, 4, 4, 5, 5, 5, 5, 5, 5, 5, 5, 5, 5, 5, 5, 5, 5, 5, 5, 6, 6, 6, 6, 6, 6, 6, 6, 6, 6, 6, 6, 6, 6, 6, 6, 6, 6, 6, 6, 6, 6, 6, 6, 6, 6, 6, 6, 6, 6, 6, 6, 7, 7, 7, 7, 7, 7, 7, 7, 7, 7, 7, 7, 7, 7, 7, 7, 7, 7, 7, 7, 7, 7, 7, 7, 7, 7, 7, 7, 7, 7, 7, 7, 7, 7, 7, 7, 7, 7, 7, 7, 7, 7, 7, 7, 7, 7, 7, 7, 7, 7, 7, 7, 7, 7, 7, 7, 7, 7, 7, 7, 7, 7, 7, 7, 8, 8, 8, 8, 8, 8, 8, 8, 8, 8, 8, 8, 8, 8, 8, 8, 8, 8, 8, 8, 8, 8, 8, 8, 8, 8, 8, 8, 8, 8, 8, 8, 8, 8, 8, 8, 8, 8, 8, 8, 8, 8, 8, 8, 8, 8, 8, 8, 8, 8, 8, 8, 8, 8, 8, 8, 8, 8, 8, 8, 8, 8, 8, 8, 8, 8, 8, 8, 8, 8, 8, 8, 8, 8, 8, 8, 8, 8, 8, 8, 8, 8, 8, 8, 8, 8, 8, 8, 8, 8, 8, 8, 8, 8, 8, 8, 8, 8, 8, 8, 8, 8, 8, 8, 8, 8, 8, 8, 8, 8, 8, 8, 8, 8, 8, 8, 8, 8, 8, 8, 8, 8, 8, 8, 8, 8, 8, 8])) (.t 15)))⟩,
    .op ⟨(some 17), none, (.r (.cint .i64 (.t 16)))⟩,
    .op ⟨(some 18), none, (.r (.bin .add (.t 13) (.t 17)))⟩,
    .op ⟨(some 2), none, (.r (.mv (.t 18)))⟩])
  .ret)))) }
theorem tr_math_bits_Len32 : trF cx Try.f43 = pf_math_bits_Len32 := by kernel_rfl
/-- math/bits.Len64 -/
def pf_math_bits_Len64 : PF := { ntmps := 25, results := [.tmp 2], body :=
  (.seq (.region [.op ⟨(some 2), none, (.r (.mv (.c (.int .i64 (.ofNat 0)))))⟩])
  (.seq (.seq (.region [.op ⟨(some 3), none, (.r (.mv (.t 0)))⟩,
    .op ⟨(some 4), none, (.r (.bin .geq (.t 3) (.c (.int .u64 (.ofNat 4294967296)))))⟩])
  (.cond (.t 4)
   (.seq (.region [.op ⟨(some 5), none, (.r (.mv (.t 0)))⟩,
     .op ⟨(some 6), none, (.r (.bin .shr (.t 5) (.c (.int .u64 (.ofNat 32)))))⟩,
     .op ⟨(some 0), none, (.r (.mv (.t 6)))⟩])
   (.region [.op ⟨(some 2), none, (.r (.mv (.c (.int .i64 (.ofNat 32)))))⟩]))
   .skip))
  (.seq (.seq (.region [.op ⟨(some 7), none, (.r (.mv (.t 0)))⟩,
    .op ⟨(some 8), none, (.r (.bin .geq (.t 7) (.c (.int .u64 (.ofNat 65536)))))⟩])
  (.cond (.t 8)
   (.seq (.region [.op ⟨(some 9), none, (.r (.mv (.t 0)))⟩,
     .op ⟨(some 10), none, (.r (.bin .shr (.t 9) (.c (.int .u64 (.ofNat 16)))))⟩,
     .op ⟨(some 0), none, (.r (.mv (.t 10)))⟩])
   (.region [.op ⟨(some 11), none, (.r (.mv (.t 2)))⟩,
     .op ⟨(some 12), none, (.r (.bin .add (.t 11) (.c (.int .i64 (.ofNat 16)))))⟩,
     .op ⟨(some 2), none, (.r (.mv (.t 12)))⟩]))
   .skip))
  (.seq (.seq (.region [.op ⟨(some 13), none, (.r (.mv (.t 0)))⟩,
    .op ⟨(some 14), none, (.r (.bin .geq (.t 13) (.c (.int .u64 (.ofNat 256)))))⟩])
  (.cond (.t 14)
   (.seq (.region [.op ⟨(some 15), none, (.r (.mv (.t 0)))⟩,
     .op ⟨(some 16), none, (.r (.bin .shr (.t 15) (.c (.int .u64 (.ofNat 8)))))⟩,
     .op ⟨(some 0), none, (.r (.mv (.t 16)))⟩])
   (.region [.op ⟨(some 17), none, (.r (.mv (.t 2)))⟩,
     .op ⟨(some 18), none, (.r (.bin .add (.t 17) (.c (.int .i64 (.ofNat 8)))))⟩,
     .op ⟨(some 2), none, (.r (.mv (.t 18)))⟩]))
   .skip))
  (.seq (.region [.op ⟨(some 19), none, (.r (.mv (.t 2)))⟩,
    .op ⟨(some 20), none, (.r (.mv (.t 0)))⟩,
    .op ⟨(some 21), none, (.r (.cint .u8 (.t 20)))⟩,
    .op ⟨(some 22), none, (.r (.ixstr (.c (.str [0, 1, 2, 2, 3, 3, 3, 3, 4, 4, 4, 4, 4, 4, 4, 4, 5, 5, 5, 5, 5, 5, 5, 5, 5, 5, 5, 5, 5, 5, 5, 5, 6, 6, 6, 6, 6, 6, 6, 6, 6, 6, 6, 6, 6, 6, 6, 6, 6, 6, 6, 6, 6, 6, 6, 6, 6, 6, 6, 6, 6, 6, 6, 6, 7, 7, 7, 7, 7, 7, 7, 7, 7, 7, 7, 7, 7, 7, 7, 7, 7, 7, 7, 7, 7, 7, 7, 7, 7, 7, 7, 7, 7, 7, 7, 7, 7, 7, 7, 7, 7, 7, 7, 7, 7, 7, 7, 7, 7, 7, 7, 7, 7, 7, 7, 7, 7, 7, 7, 7, 7, 7, 7, 7, 7, 7, 7, 7, 8, 8, 8, 8, 8, 8, 8, 8, 8, 8, 8, 8, 8, 8, 8, 8, 8, 8, 8, 8, 8, 8, 8, 8, 8, 8, 8, 8, 8, 8, 8, 8, 8, 8, 8, 8, 8, 8, 8, 8, 8, 8, 8, 8, 8, 8, 8, 8, 8, 8, 8, 8, 8, 8, 8, 8, 8, 8, 8, 8, 8, 8, 8, 8, 8, 8, 8, 8, 8, 8, 8, 8, 8, 8, 8, 8, 8, 8, 8, 8, 8, 8, 8, 8, 8, 8, 8, 8, 8, 8, 8, 8, 8, 8, 8, 8, 8, 8, 8, 8, 8, 8, 8, 8, 8, 8, 8, 8, 8, 8, 8, 8, 8, 8, 8, 8, 8, 8, 8, 8, 8, 8, 8, 8, 8, 8, 8, 8])) (.t 21)))⟩,
    .op ⟨(some 23), none, (.r (.cint .i64 (.t 22)))⟩,
    .op ⟨(some 24), none, (.r (.bin .add (.t 19) (.t 23)))⟩,
    .op ⟨(some 2), none, (.r (.mv (.t 24)))⟩])
  .ret))))) }
theorem tr_math_bits_Len64 : trF cx Try.f44 = pf_math_bits_Len64 := by kernel_rfl
def l0_slices_siftDownOrdered_int : PC :=
  (.block 1 (.seq (.region [.op ⟨(some 11), none, (.r (.mv (.t 8)))⟩,
     .op ⟨(some 12), none, (.r (.bin .mul (.c (.int .i64 (.ofNat 2))) (.t 11)))⟩,
     .op ⟨(some 13), none, (.r (.bin .add (.t 12) (.c (.int .i64 (.ofNat 1)))))⟩,
     .op ⟨(some 9), none, (.r (.mv (.t 13)))⟩])
   (.seq (.seq (.region [.op ⟨(some 14), none, (.r (.mv (.t 9)))⟩,
     .op ⟨(some 15), none, (.r (.mv (.t 2)))⟩,
     .op ⟨(some 16), none, (.r (.bin .geq (.t 14) (.t 15)))⟩])
   (.cond (.t 16)
    (.exit 0)
    .skip))
   (.seq (.seq (.region [.op ⟨(some 17), none, (.r (.mv (.t 9)))⟩,
     .op ⟨(some 18), none, (.r (.bin .add (.t 17) (.c (.int .i64 (.ofNat 1)))))⟩,
     .op ⟨(some 19), none, (.r (.mv (.t 2)))⟩,
     .op ⟨(some 20), none, (.r (.bin .lss (.t 18) (.t 19)))⟩,
     .op ⟨(some 21), none, (.r (.mv (.t 20)))⟩,
     .op ⟨(some 22), (some (21, true)), (.r (.mv (.t 0)))⟩,
     .op ⟨(some 23), (some (21, true)), (.r (.mv (.t 3)))⟩,
     .op ⟨(some 24), (some (21, true)), (.r (.mv (.t 9)))⟩,
     .op ⟨(some 25), (some (21, true)), (.r (.bin .add (.t 23) (.t 24)))⟩,
     .op ⟨(some 26), (some (21, true)), (.r (.iasl 1 (.t 22) (.t 25)))⟩,
     .op ⟨(some 27), (some (21, true)), (.r (.load false 1 (.t 26)))⟩,
     .op ⟨(some 28), (some (21, true)), (.r (.mv (.t 0)))⟩,
     .op ⟨(some 29), (some (21, true)), (.r (.mv (.t 3)))⟩,
     .op ⟨(some 30), (some (21, true)), (.r (.mv (.t 9)))⟩,
     .op ⟨(some 31), (some (21, true)), (.r (.bin .add (.t 29) (.t 30)))⟩,
     .op ⟨(some 32), (some (21, true)), (.r (.bin .add (.t 31) (.c (.int .i64 (.ofNat 1)))))⟩,
     .op ⟨(some 33), (some (21, true)), (.r (.iasl 1 (.t 28) (.t 32)))⟩,
     .op ⟨(some 34), (some (21, true)), (.r (.load false 1 (.t 33)))⟩,
     .op ⟨(some 35), (some (21, true)), (.e (.call n_cmp_Less_int [(.t 27), (.t 34)]))⟩,
     .op ⟨(some 36), none, (.r (.pick (.t 21) (.t 35) (.c (.bool false))))⟩])
   (.cond (.t 36)
    (.region [.op ⟨(some 37), none, (.r (.mv (.t 9)))⟩,
      .op ⟨(some 38), none, (.r (.bin .add (.t 37) (.c (.int .i64 (.ofNat 1)))))⟩,
      .op ⟨(some 9), none, (.r (.mv (.t 38)))⟩])
    .skip))
   (.seq (.seq (.region [.op ⟨(some 39), none, (.r (.mv (.t 0)))⟩,
     .op ⟨(some 40), none, (.r (.mv (.t 3)))⟩,
     .op ⟨(some 41), none, (.r (.mv (.t 8)))⟩,
     .op ⟨(some 42), none, (.r (.bin .add (.t 40) (.t 41)))⟩,
     .op ⟨(some 43), none, (.r (.iasl 1 (.t 39) (.t 42)))⟩,
     .op ⟨(some 44), none, (.r (.load false 1 (.t 43)))⟩,
     .op ⟨(some 45), none, (.r (.mv (.t 0)))⟩,
     .op ⟨(some 46), none, (.r (.mv (.t 3)))⟩,
     .op ⟨(some 47), none, (.r (.mv (.t 9)))⟩,
     .op ⟨(some 48), none, (.r (.bin .add (.t 46) (.t 47)))⟩,
     .op ⟨(some 49), none, (.r (.iasl 1 (.t 45) (.t 48)))⟩,
     .op ⟨(some 50), none, (.r (.load false 1 (.t 49)))⟩,
     .op ⟨(some 51), none, (.e (.call n_cmp_Less_int [(.t 44), (.t 50)]))⟩,
     .op ⟨(some 52), none, (.r (.un .not (.t 51)))⟩])
   (.cond (.t 52)
    .ret
    .skip))
   (.seq (.region [.op ⟨(some 53), none, (.r (.mv (.t 0)))⟩,
     .op ⟨(some 54), none, (.r (.mv (.t 3)))⟩,
     .op ⟨(some 55), none, (.r (.mv (.t 8)))⟩,
     .op ⟨(some 56), none, (.r (.bin .add (.t 54) (.t 55)))⟩,
     .op ⟨(some 57), none, (.r (.mv (.t 0)))⟩,
     .op ⟨(some 58), none, (.r (.mv (.t 3)))⟩,
     .op ⟨(some 59), none, (.r (.mv (.t 9)))⟩,
     .op ⟨(some 60), none, (.r (.bin .add (.t 58) (.t 59)))⟩,
     .op ⟨(some 61), none, (.r (.mv (.t 0)))⟩,
     .op ⟨(some 62), none, (.r (.mv (.t 3)))⟩,
     .op ⟨(some 63), none, (.r (.mv (.t 9)))⟩,
     .op ⟨(some 64), none, (.r (.bin .add (.t 62) (.t 63)))⟩,
     .op ⟨(some 65), none, (.r (.iasl 1 (.t 61) (.t 64)))⟩,
     .op ⟨(some 66), none, (.r (.load false 1 (.t 65)))⟩,
     .op ⟨(some 67), none, (.r (.mv (.t 0)))⟩,
     .op ⟨(some 68), none, (.r (.mv (.t 3)))⟩,
     .op ⟨(some 69), none, (.r (.mv (.t 8)))⟩,
     .op ⟨(some 70), none, (.r (.bin .add (.t 68) (.t 69)))⟩,
     .op ⟨(some 71), none, (.r (.iasl 1 (.t 67) (.t 70)))⟩,
     .op ⟨(some 72), none, (.r (.load false 1 (.t 71)))⟩,
     .op ⟨(some 73), none, (.r (.iasl 1 (.t 53) (.t 56)))⟩,
     .op ⟨none, none, (.e (.store 1 (.t 73) (.t 66)))⟩,
     .op ⟨(some 74), none, (.r (.iasl 1 (.t 57) (.t 60)))⟩,
     .op ⟨none, none, (.e (.store 1 (.t 74) (.t 72)))⟩])
   (.region [.op ⟨(some 75), none, (.r (.mv (.t 9)))⟩,
     .op ⟨(some 8), none, (.r (.mv (.t 75)))⟩])))))))
/-- slices.siftDownOrdered[int] -/
def pf_slices_siftDownOrdered_int : PF := { ntmps := 76, results := [], body :=
  (.seq (.region [.op ⟨(some 10), none, (.r (.mv (.t 1)))⟩,
    .op ⟨(some 8), none, (.r (.mv (.t 10)))⟩])
  (.block 0 (.loop l0_slices_siftDownOrdered_int))) }
theorem tr_slices_siftDownOrdered_int : trF cx Try.f45 = pf_slices_siftDownOrdered_int := by kernel_rfl
/-- slices.nextPowerOfTwo -/
def pf_slices_nextPowerOfTwo : PF := { ntmps := 7, results := [.tmp 2], body :=
  (.seq (.region [.op ⟨(some 2), none, (.r (.mv (.c (.int .u64 (.ofNat 0)))))⟩])
  (.seq (.region [.op ⟨(some 3), none, (.r (.mv (.t 0)))⟩,
    .op ⟨(some 4), none, (.r (.cint .u64 (.t 3)))⟩,
    .op ⟨(some 5), none, (.e (.call n_math_bits_Len [(.t 4)]))⟩,
    .op ⟨(some 6), none, (.r (.bin .shl (.c (.int .u64 (.ofNat 1))) (.t 5)))⟩,
    .op ⟨(some 2), none, (.r (.mv (.t 6)))⟩])
  .ret)) }
theorem tr_slices_nextPowerOfTwo : trF cx Try.f46 = pf_slices_nextPowerOfTwo := by kernel_rfl
/-- (*slices.xorshift).Next -/
def pf_slices_xorshift_Next : PF := { ntmps := 33, results := [.tmp 2], body :=
  (.seq (.region [.op ⟨(some 2), none, (.r (.mv (.c (.int .u64 (.ofNat 0)))))⟩])
  (.seq (.region [.op ⟨(some 3), none, (.r (.mv (.t 0)))⟩,
    .op ⟨(some 4), none, (.r (.nilck (.t 3)))⟩,
    .op ⟨(some 5), none, (.r (.load false 1 (.t 4)))⟩,
    .op ⟨(some 6), none, (.r (.mv (.t 0)))⟩,
    .op ⟨(some 7), none, (.r (.nilck (.t 6)))⟩,
    .op ⟨(some 8), none, (.r (.load false 1 (.t 7)))⟩,
    .op ⟨(some 9), none, (.r (.bin .shl (.t 8) (.c (.int .u64 (.ofNat 13)))))⟩,
    .op ⟨(some 10), none, (.r (.bin .xor (.t 5) (.t 9)))⟩,
    .op ⟨(some 11), none, (.r (.nilck (.t 3)))⟩,
    .op ⟨none, none, (.e (.store 1 (.t 11) (.t 10)))⟩])
  (.seq (.region [.op ⟨(some 12), none, (.r (.mv (.t 0)))⟩,
    .op ⟨(some 13), none, (.r (.nilck (.t 12)))⟩,
    .op ⟨(some 14), none, (.r (.load false 1 (.t 13)))⟩,
    .op ⟨(some 15), none, (.r (.mv (.t 0)))⟩,
    .op ⟨(some 16), none, (.r (.nilck (.t 15)))⟩,
    .op ⟨(some 17), none, (.r (.load false 1 (.t 16)))⟩,
    .op ⟨(some 18), none, (.r (.bin .shr (.t 17) (.c (.int .u64 (.ofNat 7)))))⟩,
    .op ⟨(some 19), none, (.r (.bin .xor (.t 14) (.t 18)))⟩,
    .op ⟨(some 20), none, (.r (.nilck (.t 12)))⟩,
    .op ⟨none, none, (.e (.store 1 (.t 20) (.t 19)))⟩])
  (.seq (.region [.op ⟨(some 21), none, (.r (.mv (.t 0)))⟩,
    .op ⟨(some 22), none, (.r (.nilck (.t 21)))⟩,
    .op ⟨(some 23), none, (.r (.load false 1 (.t 22)))⟩,
    .op ⟨(some 24), none, (.r (.mv (.t 0)))⟩,
    .op ⟨(some 25), none, (.r (.nilck (.t 24)))⟩,
    .op ⟨(some 26), none, (.r (.load false 1 (.t 25)))⟩,
    .op ⟨(some 27), none, (.r (.bin .shl (.t 26) (.c (.int .u64 (.ofNat 17)))))⟩,
    .op ⟨(some 28), none, (.r (.bin .xor (.t 23) (.t 27)))⟩,
    .op ⟨(some 29), none, (.r (.nilck (.t 21)))⟩,
    .op ⟨none, none, (.e (.store 1 (.t 29) (.t 28)))⟩])
  (.seq (.region [.op ⟨(some 30), none, (.r (.mv (.t 0)))⟩,
    .op ⟨(some 31), none, (.r (.nilck (.t 30)))⟩,
    .op ⟨(some 32), none, (.r (.load false 1 (.t 31)))⟩,
    .op ⟨(some 2), none, (.r (.mv (.t 32)))⟩])
  .ret))))) }
theorem tr_slices_xorshift_Next : trF cx Try.f47 = pf_slices_xorshift_Next := by kernel_rfl
/-- slices.medianAdjacentOrdered[int] -/
def pf_slices_medianAdjacentOrdered_int : PF := { ntmps := 15, results := [.tmp 6], body :=
  (.seq (.region [.op ⟨(some 6), none, (.r (.mv (.c (.int .i64 (.ofNat 0)))))⟩])
  (.seq (.region [.op ⟨(some 7), none, (.r (.mv (.t 0)))⟩,
    .op ⟨(some 8), none, (.r (.mv (.t 1)))⟩,
    .op ⟨(some 9), none, (.r (.bin .sub (.t 8) (.c (.int .i64 (.ofNat 1)))))⟩,
    .op ⟨(some 10), none, (.r (.mv (.t 1)))⟩,
    .op ⟨(some 11), none, (.r (.mv (.t 1)))⟩,
    .op ⟨(some 12), none, (.r (.bin .add (.t 11) (.c (.int .i64 (.ofNat 1)))))⟩,
    .op ⟨(some 13), none, (.r (.mv (.t 2)))⟩,
    .op ⟨(some 14), none, (.e (.call n_slices_medianOrdered_int [(.t 7), (.t 9), (.t 10), (.t 12), (.t 13)]))⟩,
    .op ⟨(some 6), none, (.r (.mv (.t 14)))⟩])
  .ret)) }
theorem tr_slices_medianAdjacentOrdered_int : trF cx Try.f48 = pf_slices_medianAdjacentOrdered_int := by kernel_rfl
/-- slices.medianOrdered[int] -/
def pf_slices_medianOrdered_int : PF := { ntmps := 36, results := [.tmp 10], body :=
  (.seq (.region [.op ⟨(some 10), none, (.r (.mv (.c (.int .i64 (.ofNat 0)))))⟩])
  (.seq (.region [.op ⟨(some 12), none, (.r (.mv (.t 0)))⟩,
    .op ⟨(some 13), none, (.r (.mv (.t 1)))⟩,
    .op ⟨(some 14), none, (.r (.mv (.t 2)))⟩,
    .op ⟨(some 15), none, (.r (.mv (.t 4)))⟩,
    .op ⟨(some 16), none, (.e (.call n_slices_order2Ordered_int [(.t 12), (.t 13), (.t 14), (.t 15)]))⟩,
    .op ⟨(some 11), none, (.r (.mv (.t 16)))⟩,
    .op ⟨(some 17), none, (.r (.ext 0 (.t 11)))⟩,
    .op ⟨(some 18), none, (.r (.ext 1 (.t 11)))⟩,
    .op ⟨(some 1), none, (.r (.mv (.t 17)))⟩,
    .op ⟨(some 2), none, (.r (.mv (.t 18)))⟩])
  (.seq (.region [.op ⟨(some 20), none, (.r (.mv (.t 0)))⟩,
    .op ⟨(some 21), none, (.r (.mv (.t 2)))⟩,
    .op ⟨(some 22), none, (.r (.mv (.t 3)))⟩,
    .op ⟨(some 23), none, (.r (.mv (.t 4)))⟩,
    .op ⟨(some 24), none, (.e (.call n_slices_order2Ordered_int [(.t 20), (.t 21), (.t 22), (.t 23)]))⟩,
    .op ⟨(some 19), none, (.r (.mv (.t 24)))⟩,
    .op ⟨(some 25), none, (.r (.ext 0 (.t 19)))⟩,
    .op ⟨(some 26), none, (.r (.ext 1 (.t 19)))⟩,
    .op ⟨(some 2), none, (.r (.mv (.t 25)))⟩,
    .op ⟨(some 3), none, (.r (.mv (.t 26)))⟩])
  (.seq (.region [.op ⟨(some 28), none, (.r (.mv (.t 0)))⟩,
    .op ⟨(some 29), none, (.r (.mv (.t 1)))⟩,
    .op ⟨(some 30), none, (.r (.mv (.t 2)))⟩,
    .op ⟨(some 31), none, (.r (.mv (.t 4)))⟩,
    .op ⟨(some 32), none, (.e (.call n_slices_order2Ordered_int [(.t 28), (.t 29), (.t 30), (.t 31)]))⟩,
    .op ⟨(some 27), none, (.r (.mv (.t 32)))⟩,
    .op ⟨(some 33), none, (.r (.ext 0 (.t 27)))⟩,
    .op ⟨(some 34), none, (.r (.ext 1 (.t 27)))⟩,
    .op ⟨(some 1), none, (.r (.mv (.t 33)))⟩,
    .op ⟨(some 2), none, (.r (.mv (.t 34)))⟩])
  (.seq (.region [.op ⟨(some 35), none, (.r (.mv (.t 2)))⟩,
    .op ⟨(some 10), none, (.r (.mv (.t 35)))⟩])
  .ret))))) }
theorem tr_slices_medianOrdered_int : trF cx Try.f49 = pf_slices_medianOrdered_int := by kernel_rfl
/-- cmp.isNaN[int] -/
def pf_cmp_isNaN_int : PF := { ntmps := 6, results := [.tmp 2], body :=
  (.seq (.region [.op ⟨(some 2), none, (.r (.mv (.c (.bool false))))⟩])
  (.seq (.region [.op ⟨(some 3), none, (.r (.mv (.t 0)))⟩,
    .op ⟨(some 4), none, (.r (.mv (.t 0)))⟩,
    .op ⟨(some 5), none, (.r (.bin .neq (.t 3) (.t 4)))⟩,
    .op ⟨(some 2), none, (.r (.mv (.t 5)))⟩])
  .ret)) }
theorem tr_cmp_isNaN_int : trF cx Try.f50 = pf_cmp_isNaN_int := by kernel_rfl
/-- slices.order2Ordered[int] -/
def pf_slices_order2Ordered_int : PF := { ntmps := 28, results := [.tmp 8, .tmp 9], body :=
  (.seq (.region [.op ⟨(some 8), none, (.r (.mv (.c (.int .i64 (.ofNat 0)))))⟩,
    .op ⟨(some 9), none, (.r (.mv (.c (.int .i64 (.ofNat 0)))))⟩])
  (.seq (.seq (.region [.op ⟨(some 10), none, (.r (.mv (.t 0)))⟩,
    .op ⟨(some 11), none, (.r (.mv (.t 2)))⟩,
    .op ⟨(some 12), none, (.r (.iasl 1 (.t 10) (.t 11)))⟩,
    .op ⟨(some 13), none, (.r (.load false 1 (.t 12)))⟩,
    .op ⟨(some 14), none, (.r (.mv (.t 0)))⟩,
    .op ⟨(some 15), none, (.r (.mv (.t 1)))⟩,
    .op ⟨(some 16), none, (.r (.iasl 1 (.t 14) (.t 15)))⟩,
    .op ⟨(some 17), none, (.r (.load false 1 (.t 16)))⟩,
    .op ⟨(some 18), none, (.e (.call n_cmp_Less_int [(.t 13), (.t 17)]))⟩])
  (.cond (.t 18)
   (.seq (.region [.op ⟨(some 19), none, (.r (.mv (.t 3)))⟩,
     .op ⟨(some 20), none, (.r (.nilck (.t 19)))⟩,
     .op ⟨(some 21), none, (.r (.load false 1 (.t 20)))⟩,
     .op ⟨(some 22), none, (.r (.bin .add (.t 21) (.c (.int .i64 (.ofNat 1)))))⟩,
     .op ⟨(some 23), none, (.r (.nilck (.t 19)))⟩,
     .op ⟨none, none, (.e (.store 1 (.t 23) (.t 22)))⟩])
   (.seq (.region [.op ⟨(some 24), none, (.r (.mv (.t 2)))⟩,
     .op ⟨(some 25), none, (.r (.mv (.t 1)))⟩,
     .op ⟨(some 8), none, (.r (.mv (.t 24)))⟩,
     .op ⟨(some 9), none, (.r (.mv (.t 25)))⟩])
   .ret))
   .skip))
  (.seq (.region [.op ⟨(some 26), none, (.r (.mv (.t 1)))⟩,
    .op ⟨(some 27), none, (.r (.mv (.t 2)))⟩,
    .op ⟨(some 8), none, (.r (.mv (.t 26)))⟩,
    .op ⟨(some 9), none, (.r (.mv (.t 27)))⟩])
  .ret))) }
theorem tr_slices_order2Ordered_int : trF cx Try.f51 = pf_slices_order2Ordered_int := by kernel_rfl
end Go.Proofs.Ytcpcajfmkmgjeaa.R
